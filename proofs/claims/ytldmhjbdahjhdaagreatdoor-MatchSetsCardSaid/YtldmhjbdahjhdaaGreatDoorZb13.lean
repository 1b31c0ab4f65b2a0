/-
  Part 13 of the proof.
-/
import Derived.Test.YtldmhjbdahjhdaaGreatDoorZb12
import Derived.Shelf.SlSortCmp.NoneTotal
open Go.World renaming cell?_alloc_new->alE,cell?_setCell_other->alN,frozen?_setCell->alU,size_alloc->al4,cell?_drew->al5,cell?_setCell_same->ame
open Go renaming wp_region_quiet_below->alF,cell_regrown->alJ,wpQuiet_nil->alK
open List renaming length_cons->alG,getElem?_eq_getElem->alL,take_succ_eq_append_getElem->alM,length_set->alP,pairwise_cons->alR,mem_cons_self->alS,mem_cons->alT,getD_eq_getElem?_getD->alW,take_of_length_le->al2,replicate->al3,eq_nil_of_length_eq_zero->al7,length_append->al9,append_assoc->amb,getLast?_cons_cons->amh,mem_range->amk,mem_cons_of_mem->aml,all_eq_true->amr,length_take->ams,range->amJ
open Go.Lib renaming hid->alH,compareInt->al0
open Go.Proofs.Tryz renaming prog->alI,underlying188->amn,func71->amt,ntmps124->amy,func124->amA,ntmps71->amB,ntmps98->amC,func98->amH
open Nat renaming le_refl->alO,mod_two_eq_zero_or_one->alQ,lt_of_lt_of_le->alZ,lt_succ_iff_lt_or_eq->amd,pow_succ->amo,add_zero->amp,zero_add->amq,zero_le->amE
open Option.some renaming injEq->alV,inj->amj
open Bool renaming and_eq_true->alX,eq_false_iff->al1,not_false->amv,not_true->amz
open Option renaming map_some->alY,bind_some->amg
open Go.Sort renaming ahead->al6,alloc_eq_grow->al_,putRowK->ami,grow->amm,grow_grow->amu,mapBlock->amw
open Array renaming length_toList->al8,ext'->amK
open Go.Builtin renaming zeroCells->ama,clear_->amx
open Prod.mk renaming injEq->amc
open Prod renaming fst->amf
open BitVec renaming ofInt->amD
open Go.Sort.HoldsK renaming cell->amF
open Go.Value renaming cells->amG
open Go.IntKind renaming i64->amI,u8->amL
open List.Pairwise renaming nil->amM
open Go.BinOp renaming or->amN
set_option maxRecDepth 100000
set_option maxHeartbeats 100000000
set_option linter.all false
namespace Go.Proofs.YtldmhjbdahjhdaaGreatDoor
section
open Go Go.RowKit
theorem Fc{key:ByteArray}:∀{n:Nat} {x:T n},x.eU->ki key x≠none->key.size<=60
 |0,x,s,h=>by
  obtain⟨p,l⟩:Nat×List (ByteArray×ByteArray):=x;have h:(if dm (l.map amf) key then(l[ai (l.map amf) key]?).map Prod.snd else none)≠none:=h;cases b:dm (l.map amf) key with
  |false=>
   rw[b]at h;exact absurd rfl h
  |true=>
   have q:=oh b;unfold dm at b;rw[alX,decide_eq_true_eq,decide_eq_true_eq]at b;have z:=b.2;rw[alW,alL q]at z;unfold gh at z;have H:=(nM _ _).1 z;have I:(l.map amf)[ai (l.map amf) key]=key:=bz H;have G:=List.getElem_mem q;rw[I]at G;obtain⟨y,J,D⟩:=List.mem_map.1 G;have:=(s.2.2 (bE y) (List.mem_map_of_mem J)).key;rw[<-D];exact this
 |n+1,x,s,h=>by
  obtain⟨p,l⟩:Nat×List (ByteArray×T n):=x;have h:((l[aG (l.map amf) key]?).bind fun x=>ki key x.2)≠none:=h;cases B:l[aG (l.map amf) key]? with
  |none=>rw[B]at h;exact absurd rfl h
  |some y=>
   rw[B]at h;exact Fc (s.2 y (List.mem_of_getElem? B)) h
section
variable{w:World}{PB DB M:Nat}{c:Ch}{sv:Head}{t:Int}{d:Dk}
theorem TD(h:bF w PB DB M c sv t d){TP root:Nat}(ht:bc w TP PB root)(D:TP≠PB/\TP≠DB/\TP≠M)(O:root<8)(key:ByteArray){G:Tr}(hl:G.lays c d.pg root):
  Calls alI 93 #[.pointer (some ⟨TP,0,none⟩),.string key] w fun e w'=>e=.returned (dV (lz c root G key).2.2)/\bF w' PB DB M (lz c root G key).1 sv t d/\aM PB DB M M w w':=by
 obtain⟨I,U⟩:∃I,lz c root G key=I:=⟨_,rfl⟩;rw[U];have a9:=alH U;have tp:=ht.p;have HH:=alH (And.intro h ht);have HL:=alH hl;have b0:=GO h;have c3:=alH b0;have b1:=fun W (g:Gr w W)=>L7 (h.gr g) (ht.gr g) O key hl;have c4:=alH b1;have b2:G.get key≠none->key.size<=60:=fun hn=>by
  cases G with
  |none=>exact absurd rfl hn
  |some x=>exact Fc hl.2.2.1 hn
 have c5:=alH b2;clear U h ht hl b0 b1 b2;go_enter Tryz.func93,Tryz.ntmps93;go_wp2_with fail
 refine c3.out.mono ?_;rintro e w1 ⟨rfl,V⟩;have Q:=c4.out _ V;have c0:=alH Q;have c6:=alH V;clear Q V;go_wp2_with fail
 refine c0.out.mono ?_;rintro e w2 ⟨rfl,b3⟩;have y:=alH (c6.out.trans b3);clear b3;cases q:G.get key with
 |none=>
  have z:I=(c,G,7):=by
   rw[<-a9.out];unfold lz;rw[q]
  have s:dV I.2.2=.iface 24 (.int .i64 7)/\bF w2 PB DB M I.1 sv t d:=by
   rw[z];exact⟨rfl,HH.out.1.gr y.out⟩
  have b:=alH s;have H:w_ none=.tuple #[.string eZ,.iface 24 (.int .i64 7)]:=rfl;rw[H];clear s z q H;go_wp2_with fail
  go_ret;exact⟨by rw[b.out.1];rfl,b.out.2,aM.ak PB DB M y.out⟩
 |some B=>
  have d8:=c5.out (by rw[q];simp);have e1:=yt HL.out q;obtain⟨L,Y⟩:∃L,-2-(key.size:Int)-B.size=L:=⟨_,rfl⟩;have e2:-200<=L/\L<=0:=by omega
  have c7:=alH Y;cases G with
  |none=>cases q
  |some x=>
   obtain⟨n,x⟩:=x;have Z:=Sn (HH.out.1.gr y.out) (HH.out.2.gr y.out) D O key HL.out (by
    have:ki key x=some B:=q;rw[this];simp)
   have a0:=BF (pg:=d.pg) HH.out.1.f HL.out O key;have z:I=((dJ (bP c root (some ⟨n,x⟩) key).1 root L).1,(bP c root (some ⟨n,x⟩) key).2,(dJ (bP c root (some ⟨n,x⟩) key).1 root L).2):=by
    rw[<-a9.out,<-Y];unfold lz;rw[q]
   obtain⟨S,a1⟩:∃S,(bP c root (some ⟨n,x⟩) key).1=S:=⟨_,rfl⟩;obtain⟨u,hu⟩:∃u,(bP c root (some ⟨n,x⟩) key).2=u:=⟨_,rfl⟩;rw[a1,hu]at z;rw[a1]at Z a0;have b4:S.aA:=a0.k.aA;have c8:=b4.head.root root O;have c9:=alH Z;have HP:=alH z;have H:w_ (some B)=.tuple #[.string B,.nilIface]:=rfl;rw[H];clear Z a0 z a1 hu q Y H b4;go_wp2_with fail
   refine c9.out.mono ?_;rintro e w4 ⟨rfl,a2,a3⟩;have a4:=(HH.out.2.gr y.out).pg a3 D.1 D.2.1 D.2.2;have b5:=me a2 a4 O;have d0:=alH b5;have d1:=alH a2;have d2:=alH a4;have d3:=alH ((aM.ak PB DB M y.out).trans a3);clear b5 a2 a4 a3;go_wp2_with fail
   refine d0.out.mono ?_;rintro e w5 ⟨rfl,J⟩;have a5:=vz (d1.out.gr J) (d2.out.gr J) D O (p:=S.h.roots root) (more:=L) c8 (by omega);rw[vK]at a5;have b6:=alH a5;have d4:=alH (d3.out.trans (aM.ak PB DB M J));clear a5 J;rw[<-c7.out]at b6 HP;go_wp2_with fail
   refine b6.out.mono ?_;rintro e w6 ⟨rfl,b7,b8⟩;have HX:=alH (And.intro b7 (d4.out.trans b8));have s:dV I.2.2=dV (dJ S root (-2-(key.size:Int)-B.size)).2/\bF w6 PB DB M I.1 sv t d:=by
    rw[HP.out];exact⟨rfl,HX.out.1⟩
   have b:=alH s;clear s b7 b8;obtain⟨EV,b9⟩:∃EV,dV (dJ S root (-2-(key.size:Int)-B.size)).2=EV:=⟨_,rfl⟩;rw[b9]at b⊢;clear b9;go_wp2_with fail
   go_ret;exact⟨by rw[b.out.1];rfl,b.out.2,HX.out.2⟩
end
end
section
open Go
abbrev aa:Type:=Int×Int
def aa.val(p:aa):Value:=.agg #[.int .i64 p.1,.int .i64 p.2]
def ae(a b:aa):Bool:=decide (a.1<b.1)||(a.1==b.1&&decide (a.2<b.2))
def jL(p:aa):Bool:=decide (1<=p.1)&&decide (p.1<=1073741824)&&decide (0<=p.2)&&decide (p.2<=1073741823)
def dQ(l:List aa):Nat->aa
 |0=>(0,0)
 |k+1=>l.getD k (0,0)
def nV(l:List aa)(k:Nat):Bool:=jL (l.getD k (0,0))&&(k==0||ae (dQ l k) (l.getD k (0,0)))
def eR(l:List aa):Bool:=(amJ l.length).all (nV l)
def gf(n:Nat):List UInt8:=if n<128 then[n.toUInt8]else(128+n % 128).toUInt8::gf (n/128)
termination_by n
decreasing_by omega
def qd(a p:aa):List UInt8:=if p.1=a.1 then gf (2*(p.2-a.2)).toNat else gf (2*(p.1-a.1)+1).toNat++gf p.2.toNat
def xE(l:List aa)(k:Nat):List UInt8:=(amJ k).flatMap fun i=>qd (dQ l i) (l.getD i (0,0))
def bV(l:List aa):List UInt8:=xE l l.length
theorem xF(l:List aa)(k:Nat):xE l (k+1)=xE l k++qd (dQ l k) (l.getD k (0,0)):=by
 unfold xE;rw[List.range_succ,List.flatMap_append];simp
theorem dZ{l:List aa}{k:Nat}(b:k<l.length)(h:nV l k=false):eR l=false:=by
 unfold eR;rw[List.all_eq_false];exact⟨k,amk.2 b,by rw[h];simp⟩
theorem pK{l:List aa}(h:∀k,k<l.length->nV l k=true):eR l=true:=by
 unfold eR;rw[amr];intro k b;exact h k (amk.1 b)
theorem sy{l:List aa}(h:eR l=true)(k:Nat)(b:k<l.length):nV l k=true:=by
 unfold eR at h;rw[amr]at h;exact h k (amk.2 b)
theorem iD{p:aa}:jL p=true↔1<=p.1/\p.1<=1073741824/\0<=p.2/\p.2<=1073741823:=by
 unfold jL;simp[and_assoc]
theorem dL{a b:aa}:ae a b=true↔a.1<b.1\/a.1=b.1/\a.2<b.2:=by
 unfold ae;simp
theorem gH(n:Nat)(h:n<128):gf n=[n.toUInt8]:=by rw[gf,if_pos h]
theorem oT(n:Nat)(h:¬n<128):gf n=(128+n % 128).toUInt8::gf (n/128):=by rw[gf,if_neg h]
theorem lT:∀(j n:Nat),n<128^(j+1)->(gf n).length<=j+1:=by
 intro j
 induction j with
 |zero=>intro n h;rw[gH n (by simpa using h)];simp
 |succ j q=>
  intro n h;by_cases b:n<128
  ·rw[gH n b];simp
  ·rw[oT n b,alG];have:=q (n/128) (by rw[Nat.div_lt_iff_lt_mul (by omega)];rw[amo]at h;exact h);omega
theorem sA{l:List aa}{k:Nat}(y:k<l.length)(h:∀i,i<=k->nV l i=true):
  jL (l.getD k (0,0))=true/\0<=(dQ l k).1/\(dQ l k).1<=1073741824/\0<=(dQ l k).2/\(dQ l k).2<=1073741823/\
   (dQ l k).1<=(l.getD k (0,0)).1/\((dQ l k).1=(l.getD k (0,0)).1->(dQ l k).2<=(l.getD k (0,0)).2):=by
 have b:=h k (alO _);unfold nV at b;rw[alX,iD,Bool.or_eq_true]at b;cases k with
 |zero=>
  have e:dQ l 0=(0,0):=rfl;rw[e,iD];refine⟨b.1,?_⟩;simp only;omega
 |succ k=>
  have q:=h k (by omega);unfold nV at q;rw[alX,iD]at q;have s:ae (dQ l (k+1)) (l.getD (k+1) (0,0))=true:=by
   rcases b.2 with h|h
   ·simp at h
   ·exact h
  rw[dL]at s;have e:dQ l (k+1)=l.getD k (0,0):=rfl;rw[e]at s⊢;rw[iD];refine⟨b.1,by omega,by omega,by omega,by omega,by omega,by omega⟩
theorem Ol{a p:aa}(b:p.1-a.1<=1073741824)(q:p.2-a.2<=1073741824)(s:p.2<=1073741824):(qd a p).length<=10:=by
 unfold qd;have e:128^(4+1)=34359738368:=by decide
 split
 ·have:=lT 4 (2*(p.2-a.2)).toNat (by rw[e];omega);omega
 ·have:=lT 4 (2*(p.1-a.1)+1).toNat (by rw[e];omega);have:=lT 4 p.2.toNat (by rw[e];omega);rw[al9];omega
theorem QN{l:List aa}:∀k,k<=l.length->(∀i,i<k->nV l i=true)->(xE l k).length<=10*k:=by
 intro k
 induction k with
 |zero=>intro _ _;simp[xE]
 |succ k b=>
  intro s h;have y:=b (by omega) (fun i hi=>h i (by omega));have q:=sA (l:=l) (k:=k) (by omega) (fun i hi=>h i (by omega));rw[iD]at q;have z:=Ol (a:=dQ l k) (p:=l.getD k (0,0)) (by omega) (by omega) (by omega);rw[xF,al9];omega
def fB:Nat->List UInt8->Option (Nat×List UInt8)
 |0,_=>none
 |_+1,[]=>none
 |k+1,c::r=>if c.toNat<128 then some (c.toNat,r)else(fB k r).map fun x=>(c.toNat-128+128*x.1,x.2)
theorem wq:∀(k:Nat) (l r:List UInt8) (n:Nat),fB k l=some (n,r)->r.length<l.length:=by
 intro k
 induction k with
 |zero=>intro l r n h;cases h
 |succ k s=>
  intro l r n h;cases l with
  |nil=>cases h
  |cons c t=>
   rw[fB]at h;by_cases q:c.toNat<128
   ·rw[if_pos q]at h;simp only[alV,amc]at h;rw[<-h.2];simp
   ·rw[if_neg q]at h;cases b:fB k t with
    |none=>rw[b]at h;cases h
    |some x=>
     rw[b]at h;simp only[alY,alV,amc]at h;have:=s t x.2 x.1 (by rw[b]);rw[<-h.2,alG];omega
theorem IB:∀(k:Nat) (l r:List UInt8) (n:Nat),fB k l=some (n,r)->n<128^k:=by
 intro k
 induction k with
 |zero=>intro l r n h;cases h
 |succ k s=>
  intro l r n h;cases l with
  |nil=>cases h
  |cons c t=>
   rw[fB]at h;by_cases q:c.toNat<128
   ·rw[if_pos q]at h;simp only[alV,amc]at h;rw[amo];have:=Nat.pow_pos (n:=k) (show 0<128 by omega);omega
   ·rw[if_neg q]at h;cases b:fB k t with
    |none=>rw[b]at h;cases h
    |some x=>
     rw[b]at h;simp only[alY,alV,amc]at h;have:=s t x.2 x.1 (by rw[b]);have y:=UInt8.toNat_lt c;rw[amo];omega
def ve:Nat->List UInt8->Option (List Nat)
 |0,[]=>some []
 |0,_::_=>none
 |_+1,[]=>some []
 |n+1,c::s=>match fB 5 (c::s)with
  |none=>none
  |some (v,r)=>(ve n r).map (v::·)
def qQ(l:List UInt8):Option (List Nat):=ve l.length l
theorem Om:∀(n m:Nat) (l:List UInt8),l.length<=n->l.length<=m->ve n l=ve m l:=by
 intro n
 induction n with
 |zero=>
  intro m l hn _;have:l=[]:=al7 (by omega);subst this;cases m<;>rfl
 |succ n y=>
  intro m l hn q;cases l with
  |nil=>cases m<;>rfl
  |cons c s=>
   cases m with
   |zero=>simp at q
   |succ m=>
    simp only[ve];cases z:fB 5 (c::s)with
    |none=>rfl
    |some p=>
     obtain⟨v,r⟩:=p;have b:=wq 5 _ _ _ z;simp only[alG]at b hn q;simp only;rw[y m r (by omega) (by omega)]
theorem K3:qQ []=some []:=rfl
theorem yM{l:List UInt8}(b:l≠[])(h:fB 5 l=none):qQ l=none:=by
 cases l with
 |nil=>exact absurd rfl b
 |cons c s=>
  unfold qQ;simp only[alG,ve,h]
theorem oU{l r:List UInt8}{v:Nat}(h:fB 5 l=some (v,r)):qQ l=(qQ r).map (v::·):=by
 cases l with
 |nil=>cases h
 |cons c s=>
  have b:=wq 5 _ _ _ h;simp only[alG]at b;unfold qQ;simp only[alG,ve,h];rw[Om s.length r.length r (by omega) (alO _)]
def jM:Nat->aa->List Nat->Option (List aa)
 |0,_,[]=>some []
 |0,_,_::_=>none
 |_+1,_,[]=>some []
 |f+1,a,n::r=>if n % 2=0 then(jM f (a.1,a.2+(n/2:Nat)) r).map ((a.1,a.2+(n/2:Nat))::·)
  else match r with
   |[]=>none
   |m::t=>(jM f (a.1+(n/2:Nat),(m:Int)) t).map ((a.1+(n/2:Nat),(m:Int))::·)
theorem IC:∀(f g:Nat) (a:aa) (l:List Nat),l.length<=f->l.length<=g->jM f a l=jM g a l:=by
 intro f
 induction f with
 |zero=>
  intro g a l hf _;have:l=[]:=al7 (by omega);subst this;cases g<;>rfl
 |succ f q=>
  intro g a l hf b;cases l with
  |nil=>cases g<;>rfl
  |cons n r=>
   cases g with
   |zero=>simp at b
   |succ g=>
    simp only[alG]at hf b;rw[jM.eq_def,jM.eq_def (g+1)];simp only;by_cases h:n % 2=0
    ·rw[if_pos h,if_pos h,q g _ r (by omega) (by omega)]
    ·rw[if_neg h,if_neg h];cases r with
     |nil=>rfl
     |cons m t=>
      simp only[alG]at hf b;simp only;rw[q g _ t (by omega) (by omega)]
def kH(a:aa)(l:List Nat):Option (List aa):=jM l.length a l
theorem C9(a:aa)(n:Nat)(r:List Nat)(h:n % 2=0):kH a (n::r)=(kH (a.1,a.2+(n/2:Nat)) r).map ((a.1,a.2+(n/2:Nat))::·):=by
 unfold kH;rw[alG,jM.eq_def];simp only[if_pos h]
theorem FK(a:aa)(n m:Nat)(r:List Nat)(h:¬n % 2=0):kH a (n::m::r)=(kH (a.1+(n/2:Nat),(m:Int)) r).map ((a.1+(n/2:Nat),(m:Int))::·):=by
 unfold kH;rw[alG,jM,if_neg h];simp only[alG];rw[IC _ r.length _ r (by omega) (alO _)]
theorem FL(a:aa)(n:Nat)(h:¬n % 2=0):kH a [n]=none:=by
 unfold kH;rw[alG,jM.eq_def];simp only[if_neg h]
def la(a:aa)(l:List UInt8):Option (List aa):=(qQ l).bind (kH a)
theorem ID(a:aa):la a []=some []:=rfl
theorem On{a:aa}{l:List UInt8}(b:l≠[])(h:fB 5 l=none):la a l=none:=by
 unfold la;rw[yM b h];rfl
theorem DY{a:aa}{l r:List UInt8}{n:Nat}(h:fB 5 l=some (n,r))(b:n % 2=0):la a l=(la (a.1,a.2+(n/2:Nat)) r).map ((a.1,a.2+(n/2:Nat))::·):=by
 unfold la;rw[oU h];cases qQ r with
 |none=>rfl
 |some x=>simp only[alY,amg];rw[C9 a n x b]
theorem C_{a:aa}{l r:List UInt8}{n:Nat}(h:fB 5 l=some (n,r))(q:¬n % 2=0)(s:fB 5 r=none):la a l=none:=by
 unfold la;rw[oU h];by_cases b:r=[]
 ·rw[b,K3];simp only[alY,amg];exact FL a n q
 ·rw[yM b s];rfl
theorem IE{a:aa}{l r t:List UInt8}{n m:Nat}(h:fB 5 l=some (n,r))(b:¬n % 2=0)(q:fB 5 r=some (m,t)):la a l=(la (a.1+(n/2:Nat),(m:Int)) t).map ((a.1+(n/2:Nat),(m:Int))::·):=by
 unfold la;rw[oU h,oU q];cases qQ t with
 |none=>rfl
 |some x=>simp only[alY,amg];rw[FK a n m x b]
def jU(l:List UInt8):Option (List aa):=match la (0,0) l with
 |none=>none
 |some x=>if eR x&&(bV x==l)then some x else none
end
section
open Go Go.RowKit
def Oo(x y:Int):Int:=if x=0 then y else x
theorem Vn(b:Nat)(x y:Int)(w:World)(z:w.cell? ⟨b,0,none⟩=some (.int .i64 x))(B:w.cell? ⟨b,1,none⟩=some (.int .i64 y)):
  Calls alI 124 #[.slice (some ⟨b,0,none⟩) 2 2] w (ar w (.int .i64 (Oo x y))):=by
 go_enter amA,amy;go_wp2
 go_loop [8] (fun i=>i=.int .i64 0\/(i=.int .i64 1/\x=0)\/(i=.int .i64 2/\x=0/\y=0)) (fun i=>2-(intOf i).toNat)
 case atStart=>exact .inl rfl
 case round=>
  rcases hrel with rfl|⟨rfl,rfl⟩|⟨rfl,rfl,rfl⟩
  ·by_cases q:x=0
   ·go_wp2
    exact⟨.inr (.inl ⟨rfl,q⟩),by simp[intOf]⟩
   ·go_wp2
    go_ret;exact ar.mk (by unfold Oo;rw[if_neg q];rfl) (Gr.refl _)
  ·by_cases s:y=0
   ·go_wp2
    exact⟨.inr (.inr ⟨rfl,trivial,s⟩),by simp[intOf]⟩
   ·go_wp2
    go_ret;exact ar.mk rfl (Gr.refl _)
  ·go_wp2
   go_ret;exact ar.mk rfl (Gr.refl _)
def uE(a b:aa):Int:=Oo (al0 a.1 b.1) (al0 a.2 b.2)
theorem AZ(a b:aa)(w:World):Calls alI 71 #[a.val,b.val] w (ar w (.int .i64 (uE a b))):=by
 obtain⟨q,s⟩:=a;obtain⟨y,z⟩:=b;unfold aa.val;go_enter amt,amB;go_wp2_with fail
 have B:=((Gr.refl w).alloc (.cells #[.int .i64 q,.int .i64 s] 104)).alloc (.cells #[.int .i64 y,.int .i64 z] 104);have D:((w.alloc (.cells #[.int .i64 q,.int .i64 s] 104)).alloc (.cells #[.int .i64 y,.int .i64 z] 104)).cell? ⟨w.heap.size,0,none⟩=some (.int .i64 q):=((Gr.refl _).alloc _).keeps (by rw[alE];rfl);have G:((w.alloc (.cells #[.int .i64 q,.int .i64 s] 104)).alloc (.cells #[.int .i64 y,.int .i64 z] 104)).cell? ⟨w.heap.size,1,none⟩=some (.int .i64 s):=((Gr.refl _).alloc _).keeps (by rw[alE];rfl);have H:((w.alloc (.cells #[.int .i64 q,.int .i64 s] 104)).alloc (.cells #[.int .i64 y,.int .i64 z] 104)).cell? ⟨w.heap.size+1,0,none⟩=some (.int .i64 y):=by rw[<-al4 w (.cells #[.int .i64 q,.int .i64 s] 104),alE];rfl
 have I:((w.alloc (.cells #[.int .i64 q,.int .i64 s] 104)).alloc (.cells #[.int .i64 y,.int .i64 z] 104)).cell? ⟨w.heap.size+1,1,none⟩=some (.int .i64 z):=by rw[<-al4 w (.cells #[.int .i64 q,.int .i64 s] 104),alE];rfl
 generalize((w.alloc (.cells #[.int .i64 q,.int .i64 s] 104)).alloc (.cells #[.int .i64 y,.int .i64 z] 104))=W at*;go_region_held3(fun w'=>w'.cell? ⟨w.heap.size,0,none⟩=some (.int .i64 q)/\w'.cell? ⟨w.heap.size,1,none⟩=some (.int .i64 s)/\w'.cell? ⟨w.heap.size+1,0,none⟩=some (.int .i64 y)/\w'.cell? ⟨w.heap.size+1,1,none⟩=some (.int .i64 z)/\Gr w w') (first|exact⟨D,G,H,I,B⟩|exact⟨D,G,H,I,B.drew⟩|exact⟨(((Gr.refl _).alloc _).drew).keeps D,(((Gr.refl _).alloc _).drew).keeps G,(((Gr.refl _).alloc _).drew).keeps H,(((Gr.refl _).alloc _).drew).keeps I,(B.alloc _).drew⟩|exact⟨(((Gr.refl W).alloc _).drew.trans (by assumption)).keeps D,(((Gr.refl W).alloc _).drew.trans (by assumption)).keeps G,(((Gr.refl W).alloc _).drew.trans (by assumption)).keeps H,(((Gr.refl W).alloc _).drew.trans (by assumption)).keeps I,(B.alloc _).drew.trans (by assumption)⟩) (first|(go_at_call 125;refine(Tryz.cmp_Compare_int _ _ _).mono ?_;rintro e L ⟨rfl,rfl⟩)|(go_at_call 124;refine(Vn _ _ _ _ (by rw[al5,alE];rfl) (by rw[al5,alE];rfl)).mono ?_;rintro e M ⟨rfl,J⟩))
 go_wp2
 go_ret;exact ar.mk rfl ((B.alloc _).drew.trans (by assumption))
def bC(w:World)(b q:Nat)(xs:List aa):Prop:=
 ∀i (h:i<xs.length),w.cell? ⟨b,q+i*2,none⟩=some (.int .i64 xs[i].1)/\w.cell? ⟨b,q+i*2+1,none⟩=some (.int .i64 xs[i].2)
theorem bC.gr{w w':World}{b q:Nat}{xs:List aa}(h:bC w b q xs)(g:Gr w w'):bC w' b q xs:=
 fun i hi=>⟨g.keeps (h i hi).1,g.keeps (h i hi).2⟩
theorem K4(xs:List aa)(h:0<xs.length):nV xs 0=jL xs[0]:=by
 unfold nV;simp[alW,h]
theorem K5(xs:List aa)(k:Nat)(h:k+1<xs.length):nV xs (k+1)=(jL xs[k+1]&&ae xs[k] xs[k+1]):=by
 have b:k<xs.length:=by omega
 unfold nV dQ;simp[alW,h,b]
structure sB{α:Type}(lt:α->α->Bool):Prop where
 irrefl:∀x,lt x x=false
 trans:∀x y z,lt x y=true->lt y z=true->lt x z=true
 QO:∀x y,lt x y=false->lt y x=false->x=y
def bH{b:Type}(lt:b->b->Bool)(l:List b):Prop:=l.Pairwise fun x y=>lt x y=true
def oV{b:Type}(lt:b->b->Bool)(l:List b):Prop:=l.Pairwise fun x y=>lt y x=false
def aw{q:Type}[DecidableEq q]:List q->List q
 |[]=>[]
 |[a]=>[a]
 |a::b::t=>if a=b then aw (b::t)else a::aw (b::t)
theorem ig{q:Type}[DecidableEq q](x:q):∀l:List q,x∈aw l↔x∈l
 |[]=>Iff.rfl
 |[a]=>Iff.rfl
 |a::b::t=>by
  have s:=ig x (b::t);unfold aw
  split
  ·rename_i h
   subst h;rw[s];simp
  ·rw[alT,s];exact alT.symm
theorem mE{s:Type}[DecidableEq s]{lt:s->s->Bool}(P:sB lt):∀l:List s,oV lt l->bH lt (aw l)
 |[],_=>amM
 |[a],_=>List.pairwise_singleton _ _
 |a::b::t,h=>by
  obtain⟨M,J⟩:=alR.1 h;have L:=mE P (b::t) J;unfold aw
  split
  ·exact L
  ·rename_i D
   refine alR.2 ⟨fun y O=>?_,L⟩;have G:y∈b::t:=(ig y (b::t)).1 O;have H:=M b alS;have q:lt a b=true:=by
    cases z:lt a b with
    |true=>rfl
    |false=>exact absurd (P.QO a b z H) D
   rcases alT.1 G with rfl|B
   ·exact q
   ·have I:=(alR.1 J).1 y B;cases z:lt b y with
    |true=>exact P.trans a b y q z
    |false=>
     have:=P.QO b y z I;subst this;exact q
theorem A_{D:Type}{lt:D->D->Bool}(P:sB lt):∀l m:List D,bH lt l->bH lt m->(∀x,x∈l↔x∈m)->l=m
 |[],[],_,_,_=>rfl
 |[],b::t,_,_,h=>absurd ((h b).2 alS) (by simp)
 |a::t,[],_,_,h=>absurd ((h a).1 alS) (by simp)
 |a::l,b::m,J,L,h=>by
  obtain⟨z,G⟩:=alR.1 J;obtain⟨B,H⟩:=alR.1 L;have I:a=b:=by
   rcases alT.1 ((h a).1 alS)with e|s
   ·exact e
   ·rcases alT.1 ((h b).2 alS)with e|M
    ·exact e.symm
    ·have q:=P.trans a b a (z b M) (B a s);rw[P.irrefl a]at q;cases q
  subst I
  congr 1
  refine A_ P l m G H fun x=>⟨fun y=>?_,fun y=>?_⟩
  ·rcases alT.1 ((h x).1 (aml _ y))with e|s
   ·have q:=z x y;rw[e,P.irrefl a]at q;cases q
   ·exact s
  ·rcases alT.1 ((h x).2 (aml _ y))with e|s
   ·have q:=B x y;rw[e,P.irrefl a]at q;cases q
   ·exact s
def setOf{b:Type}[DecidableEq b](lt:b->b->Bool)(l:List b):List b:=aw (l.mergeSort fun x y=>!lt y x)
theorem bm{b:Type}[DecidableEq b](lt:b->b->Bool)(l:List b)(x:b):x∈setOf lt l↔x∈l:=by
 unfold setOf;rw[ig,List.mem_mergeSort]
theorem wu{z:Type}{lt:z->z->Bool}(P:sB lt)(l:List z):oV lt (l.mergeSort fun x y=>!lt y x):=by
 have h:=List.pairwise_mergeSort (le:=fun x y=>!lt y x) (by
  intro a b c H I;simp only[Bool.not_eq_true']at*;cases q:lt c a with
  |false=>rfl
  |true=>
   cases s:lt b c with
   |true=>
    have:=P.trans b c a s q;rw[H]at this;cases this
   |false=>
    have:=P.QO c b I s;subst this;rw[H]at q;cases q) (by
  intro a b;cases B:lt b a with
  |false=>simp
  |true=>
   have:lt a b=false:=by
    cases D:lt a b with
    |false=>rfl
    |true=>
     have:=P.trans a b a D B;rw[P.irrefl a]at this;cases this
   simp[this]) l
 exact h.imp fun{x y} G=>by simpa using G
theorem bT{b:Type}[DecidableEq b]{lt:b->b->Bool}(P:sB lt)(l:List b):bH lt (setOf lt l):=mE P _ (wu P l)
theorem qe{b:Type}[DecidableEq b]{lt:b->b->Bool}(P:sB lt){l m:List b}(h:bH lt m)(q:∀x,x∈m↔x∈l):m=setOf lt l:=
 A_ P _ _ h (bT P l) fun x=>(q x).trans (bm lt l x).symm
theorem qR{b:Type}[DecidableEq b]{lt:b->b->Bool}(P:sB lt){l m:List b}(h:oV lt m)(q:∀x,x∈m↔x∈l):aw m=setOf lt l:=
 qe P (mE P m h) fun x=>(ig x m).trans (q x)
theorem bw:sB ae where
 irrefl x:=by simp[ae]
 trans x y z b q:=by rw[dL]at*;omega
 QO x y b q:=by
  have s:¬(x.1<y.1\/x.1=y.1/\x.2<y.2):=fun h=>by rw[dL.2 h]at b;cases b
  have B:¬(y.1<x.1\/y.1=x.1/\y.2<x.2):=fun h=>by rw[dL.2 h]at q;cases q
  exact Prod.ext (by omega) (by omega)
def bU(x y:Int):Bool:=decide (x<y)
theorem qS:sB bU where
 irrefl x:=by simp[bU]
 trans x y z h1 h2:=by simp[bU]at*;omega
 QO x y h1 h2:=by simp[bU]at*;omega
end
section
open Go Go.RowKit Go.Shelf
theorem Uo(w:World)(a b c:Obj):((amm w #[a,b]).alloc c).drew=amm (w.drewN 1) #[a,b,c]:=by
 rw[al_,amu]
 rfl
theorem Vo(b:Nat)(x y:Int)(w:World)(z:w.cell? ⟨b,0,none⟩=some (.int .i64 x))(B:w.cell? ⟨b,1,none⟩=some (.int .i64 y)):
  Calls alI 124 #[.slice (some ⟨b,0,none⟩) 2 2] w fun e w'=>e=.returned (.int .i64 (Oo x y))/\w'=w:=by
 go_enter amA,amy;go_wp2
 go_loop [8] (fun i=>i=.int .i64 0\/(i=.int .i64 1/\x=0)\/(i=.int .i64 2/\x=0/\y=0)) (fun i=>2-(intOf i).toNat)
 case atStart=>exact .inl rfl
 case round=>
  rcases hrel with rfl|⟨rfl,rfl⟩|⟨rfl,rfl,rfl⟩
  ·by_cases q:x=0
   ·go_wp2
    exact⟨.inr (.inl ⟨rfl,q⟩),by simp[intOf]⟩
   ·go_wp2
    go_ret;exact⟨by unfold Oo;rw[if_neg q];rfl,rfl⟩
  ·by_cases s:y=0
   ·go_wp2
    exact⟨.inr (.inr ⟨rfl,trivial,s⟩),by simp[intOf]⟩
   ·go_wp2
    go_ret;exact⟨rfl,rfl⟩
  ·go_wp2
   go_ret;exact⟨rfl,rfl⟩
theorem K6(a b:aa)(w:World):Calls alI 71 #[a.val,b.val] w fun e w'=>e=.returned (.int .i64 (uE a b))/\∃q M,w'=amm (w.drewN q) M:=by
 obtain⟨s,y⟩:=a;obtain⟨z,B⟩:=b;unfold aa.val;go_enter amt,amB;go_wp2_with fail
 have G:=((Gr.refl w).alloc (.cells #[.int .i64 s,.int .i64 y] 104)).alloc (.cells #[.int .i64 z,.int .i64 B] 104);have H:((w.alloc (.cells #[.int .i64 s,.int .i64 y] 104)).alloc (.cells #[.int .i64 z,.int .i64 B] 104)).cell? ⟨w.heap.size,0,none⟩=some (.int .i64 s):=((Gr.refl _).alloc _).keeps (by rw[alE];rfl);have I:((w.alloc (.cells #[.int .i64 s,.int .i64 y] 104)).alloc (.cells #[.int .i64 z,.int .i64 B] 104)).cell? ⟨w.heap.size,1,none⟩=some (.int .i64 y):=((Gr.refl _).alloc _).keeps (by rw[alE];rfl);have J:((w.alloc (.cells #[.int .i64 s,.int .i64 y] 104)).alloc (.cells #[.int .i64 z,.int .i64 B] 104)).cell? ⟨w.heap.size+1,0,none⟩=some (.int .i64 z):=by rw[<-al4 w (.cells #[.int .i64 s,.int .i64 y] 104),alE];rfl
 have L:((w.alloc (.cells #[.int .i64 s,.int .i64 y] 104)).alloc (.cells #[.int .i64 z,.int .i64 B] 104)).cell? ⟨w.heap.size+1,1,none⟩=some (.int .i64 B):=by rw[<-al4 w (.cells #[.int .i64 s,.int .i64 y] 104),alE];rfl
 have D:((w.alloc (.cells #[.int .i64 s,.int .i64 y] 104)).alloc (.cells #[.int .i64 z,.int .i64 B] 104))=amm w #[.cells #[.int .i64 s,.int .i64 y] 104,.cells #[.int .i64 z,.int .i64 B] 104]:=by rw[al_,al_,amu];rfl
 generalize((w.alloc (.cells #[.int .i64 s,.int .i64 y] 104)).alloc (.cells #[.int .i64 z,.int .i64 B] 104))=W at*;have O:=alH D;clear D;go_region_held3(fun w'=>w'.cell? ⟨w.heap.size,0,none⟩=some (.int .i64 s)/\w'.cell? ⟨w.heap.size,1,none⟩=some (.int .i64 y)/\w'.cell? ⟨w.heap.size+1,0,none⟩=some (.int .i64 z)/\w'.cell? ⟨w.heap.size+1,1,none⟩=some (.int .i64 B)/\Gr w w') (first|exact⟨H,I,J,L,G⟩|exact⟨H,I,J,L,G.drew⟩|exact⟨(((Gr.refl _).alloc _).drew).keeps H,(((Gr.refl _).alloc _).drew).keeps I,(((Gr.refl _).alloc _).drew).keeps J,(((Gr.refl _).alloc _).drew).keeps L,(G.alloc _).drew⟩) (first|(go_at_call 125;refine(Tryz.cmp_Compare_int _ _ _).mono ?_;rintro e Q ⟨rfl,rfl⟩)|(go_at_call 124;refine(Vo _ _ _ _ (by rw[al5,alE];rfl) (by rw[al5,alE];rfl)).mono ?_;rintro e S ⟨rfl,rfl⟩))
 go_wp2
 go_ret;refine⟨rfl,1,#[.cells #[.int .i64 s,.int .i64 y] 104,.cells #[.int .i64 z,.int .i64 B] 104,.cells #[.int .i64 (al0 s z),.int .i64 (al0 y B)] 3],?_⟩;rw[O.out];exact Uo w _ _ _
def iR(x:aa):List Value:=[.int .i64 x.1,.int .i64 x.2]
theorem QP(b q size:Nat)(w:World):CmpLays alI 71 #[] iR 2 uE b q size w:=
 fun _ _ _ _ x y=>K6 x y _
end
section
open Go Go.RowKit
theorem lU{b x2:Int}(h:b<1\/1073741824<b\/x2<0\/1073741824<=x2):jL (b,x2)=false:=by
 rw[al1];intro q;rw[iD]at q;simp only at q;omega
theorem DZ{b x2:Int}(h:1<=b/\b<=1073741824/\0<=x2/\x2<1073741824):jL (b,x2)=true:=by
 rw[iD];simp only;omega
theorem qT(a b:aa):decide (0<=uE a b)=!ae a b:=by
 obtain⟨q,s⟩:=a;obtain⟨y,z⟩:=b;unfold uE Oo al0;cases h:ae (q,s) (y,z)
 ·rw[al1,ne_eq,dL]at h;simp only at h;simp only[amv,decide_eq_true_eq]
  split<;>split<;>omega
 ·rw[dL]at h;simp only at h;simp only[amz,decide_eq_false_iff_not]
  split<;>split<;>omega
theorem QQ(xs:List aa)(b U c:Nat)(ao:Option Addr)(V:0<xs.length->ao=some ⟨b,U,none⟩)(hl:xs.length<=9223372036854775807)(w:World)(hc:bC w b U xs):
  Calls alI 23 #[.slice ao xs.length c] w (ar w (.bool (eR xs))):=by
 have HC:=alH hc;have HA:=alH V;clear hc V;go_enter Tryz.func23,Tryz.ntmps23;go_wp2_with fail
 go_loopw [7] (fun i w'=>∃j:Nat,j<=xs.length/\i=.int .i64 j/\Gr w w'/\∀k,k<j->nV xs k=true) (fun i _=>xs.length-(intOf i).toNat)
 case atStart=>exact⟨0,amE _,rfl,Gr.refl _,fun k hk=>by omega⟩
 case round=>
  obtain⟨j,hj,rfl,z,I⟩:=hrel;have Z:=alH I;clear I;by_cases B:j<xs.length
  ·obtain rfl:=HA.out (by omega);obtain⟨c0,c1⟩:=HC.out.gr z j B;cases j with
   |zero=>
    have I:=K4 xs B;generalize hx:xs[0]=x at*;obtain⟨G,H⟩:=x;simp only[Nat.zero_mul,amp]at c0 c1;have D:=alH I;clear I;have M:(wr.alloc (.cells #[.int .i64 G,.int .i64 H] 104)).cell? ⟨wr.heap.size,0,none⟩=some (.int .i64 G):=by rw[alE];rfl
    have O:(wr.alloc (.cells #[.int .i64 G,.int .i64 H] 104)).cell? ⟨wr.heap.size,1,none⟩=some (.int .i64 H):=by rw[alE];rfl
    have f0:=fun d J=>alJ M d J;have f1:=fun d J=>alJ O d J;clear M O;go_wp2_with fail
    cases hA:decide (G<1)
    ·cases hB:decide (1073741824<G)
     ·cases hC:decide (H<0)
      ·cases hD:decide (1073741824<=H)
       ·refine alF (by kernel_rfl) (by kernel_rfl) ?_
        repeat(go_big_quiet_step (fail))
        refine alK ?_;intro L q;have s:=(z.alloc _).trans (cg q);clear q z f0 f1;go_wp2_with fail
        refine⟨⟨0+1,by omega,by go_num,s,fun m hm=>?_⟩,by simp[intOf];omega⟩;rcases amd.1 hm with h|rfl
        ·exact Z.out m h
        ·exact(by rw[D.out];exact DZ (by simp only[decide_eq_false_iff_not]at*;omega))
       ·refine alF (by kernel_rfl) (by kernel_rfl) ?_
        repeat(go_big_quiet_step (fail))
        refine alK ?_;intro L q;have s:=(z.alloc _).trans (cg q);clear q z f0 f1;go_wp2_with fail
        go_ret;exact ar.mk (by rw[dZ B (by rw[D.out];exact lU (by simp only[decide_eq_false_iff_not,decide_eq_true_eq]at*;omega))];rfl) s
      ·refine alF (by kernel_rfl) (by kernel_rfl) ?_
       repeat(go_big_quiet_step (fail))
       refine alK ?_;intro L q;have s:=(z.alloc _).trans (cg q);clear q z f0 f1;go_wp2_with fail
       go_ret;exact ar.mk (by rw[dZ B (by rw[D.out];exact lU (by simp only[decide_eq_false_iff_not,decide_eq_true_eq]at*;omega))];rfl) s
     ·refine alF (by kernel_rfl) (by kernel_rfl) ?_
      repeat(go_big_quiet_step (fail))
      refine alK ?_;intro L q;have s:=(z.alloc _).trans (cg q);clear q z f0 f1;go_wp2_with fail
      go_ret;exact ar.mk (by rw[dZ B (by rw[D.out];exact lU (by simp only[decide_eq_false_iff_not,decide_eq_true_eq]at*;omega))];rfl) s
    ·refine alF (by kernel_rfl) (by kernel_rfl) ?_
     repeat(go_big_quiet_step (fail))
     refine alK ?_;intro L q;have s:=(z.alloc _).trans (cg q);clear q z f0 f1;go_wp2_with fail
     go_ret;exact ar.mk (by rw[dZ B (by rw[D.out];exact lU (by simp only[decide_eq_true_eq]at*;omega))];rfl) s
   |succ k=>
    obtain⟨d0,d1⟩:=HC.out.gr z k (by omega);have I:=K5 xs k B;generalize hx:xs[k+1]=x at*;generalize hy:xs[k]=y at*;obtain⟨G,H⟩:=x;obtain⟨Q,S⟩:=y;simp only at c0 c1 d0 d1;have D:=alH I;clear I;have M:(wr.alloc (.cells #[.int .i64 G,.int .i64 H] 104)).cell? ⟨wr.heap.size,0,none⟩=some (.int .i64 G):=by rw[alE];rfl
    have O:(wr.alloc (.cells #[.int .i64 G,.int .i64 H] 104)).cell? ⟨wr.heap.size,1,none⟩=some (.int .i64 H):=by rw[alE];rfl
    have f0:=fun d J=>alJ M d J;have f1:=fun d J=>alJ O d J;have f2:=fun d J=>alJ (((Gr.refl wr).alloc (.cells #[.int .i64 G,.int .i64 H] 104)).keeps d0) d J;have f3:=fun d J=>alJ (((Gr.refl wr).alloc (.cells #[.int .i64 G,.int .i64 H] 104)).keeps d1) d J;clear M O;go_wp2_with fail
    cases hA:decide (G<1)
    ·cases hB:decide (1073741824<G)
     ·cases hC:decide (H<0)
      ·cases hD:decide (1073741824<=H)
       ·cases Y:ae (Q,S) (G,H)
        ·have a1:decide (0<=uE (Q,S) (G,H))=true:=by rw[qT,Y];rfl
         refine alF (by kernel_rfl) (by kernel_rfl) ?_
         repeat(go_big_quiet_step ((go_at_call 71;exact ar.sr (AZ (Q,S) (G,H) _))))
         refine alK ?_;intro L q;have s:=(z.alloc _).trans (cg q);clear q z f0 f1;go_wp2_with fail
         go_ret;exact ar.mk (by rw[dZ B (by rw[D.out,Y];simp)];rfl) s
        ·have a1:decide (0<=uE (Q,S) (G,H))=false:=by rw[qT,Y];rfl
         refine alF (by kernel_rfl) (by kernel_rfl) ?_
         repeat(go_big_quiet_step ((go_at_call 71;exact ar.sr (AZ (Q,S) (G,H) _))))
         refine alK ?_;intro L q;have s:=(z.alloc _).trans (cg q);clear q z f0 f1;go_wp2_with fail
         refine⟨⟨k+1+1,by omega,by go_num,s,fun m hm=>?_⟩,by simp[intOf];omega⟩;rcases amd.1 hm with h|rfl
         ·exact Z.out m h
         ·exact(by rw[D.out,Y,DZ (by simp only[decide_eq_false_iff_not]at*;omega)];rfl)
       ·refine alF (by kernel_rfl) (by kernel_rfl) ?_
        repeat(go_big_quiet_step (fail))
        refine alK ?_;intro L q;have s:=(z.alloc _).trans (cg q);clear q z f0 f1;go_wp2_with fail
        go_ret;exact ar.mk (by rw[dZ B (by rw[D.out,lU (by simp only[decide_eq_false_iff_not,decide_eq_true_eq]at*;omega)];rfl)];rfl) s
      ·refine alF (by kernel_rfl) (by kernel_rfl) ?_
       repeat(go_big_quiet_step (fail))
       refine alK ?_;intro L q;have s:=(z.alloc _).trans (cg q);clear q z f0 f1;go_wp2_with fail
       go_ret;exact ar.mk (by rw[dZ B (by rw[D.out,lU (by simp only[decide_eq_false_iff_not,decide_eq_true_eq]at*;omega)];rfl)];rfl) s
     ·refine alF (by kernel_rfl) (by kernel_rfl) ?_
      repeat(go_big_quiet_step (fail))
      refine alK ?_;intro L q;have s:=(z.alloc _).trans (cg q);clear q z f0 f1;go_wp2_with fail
      go_ret;exact ar.mk (by rw[dZ B (by rw[D.out,lU (by simp only[decide_eq_false_iff_not,decide_eq_true_eq]at*;omega)];rfl)];rfl) s
    ·refine alF (by kernel_rfl) (by kernel_rfl) ?_
     repeat(go_big_quiet_step (fail))
     refine alK ?_;intro L q;have s:=(z.alloc _).trans (cg q);clear q z f0 f1;go_wp2_with fail
     go_ret;exact ar.mk (by rw[dZ B (by rw[D.out,lU (by simp only[decide_eq_true_eq]at*;omega)];rfl)];rfl) s
  ·go_wp2_with fail
   go_ret;exact ar.mk (by rw[pK (fun k hk=>Z.out k (by omega))];rfl) z
end
section
open Go Go.RowKit Go.Shelf Go.Lib Go.Sort
def iV(w:World)(B:Nat)(xs:List aa):Prop:=
 ∀i (h:i<xs.length),(w.cell? ⟨B,i*2,none⟩=some (.int .i64 xs[i].1)/\w.frozen? ⟨B,i*2,none⟩=false)/\(w.cell? ⟨B,i*2+1,none⟩=some (.int .i64 xs[i].2)/\w.frozen? ⟨B,i*2+1,none⟩=false)
theorem vf{w:World}{B:Nat}{xs:List aa}(h:iV w B xs):HoldsK iR 2 w B 0 xs.toArray:=by
 intro j b;rw[size_flatK]at b;rw[get_flatK _ _ _ _ b];have hi:j/2<xs.length:=by simp at b;omega
 obtain⟨s,y⟩:=h (j/2) hi;have z:xs.toArray[j/2]! =xs[j/2]:=by simp[hi]
 rw[z,amq];rcases alQ j with e|e
 ·rw[e];have q:j/2*2=j:=by omega
  rw[q]at s;exact s
 ·rw[e];have q:j/2*2+1=j:=by omega
  rw[q]at y;exact y
theorem K7{w:World}{B:Nat}{d:Array aa}(h:HoldsK iR 2 w B 0 d):iV w B d.toList:=by
 intro i hi;have b:i<d.size:=by simpa using hi
 have q:=amF h (i:=i) (c:=0) b (by omega);have s:=amF h (i:=i) (c:=1) b (by omega);have y:d[i]! =d[i]:=by simp[b]
 rw[y,amq,amp]at q;rw[y,amq]at s;exact⟨q,s⟩
theorem um(w:World)(b q:Nat)(d:Array aa)(k:Nat)(h:k≠b):(ami iR 2 w b q d).heap[k]?=w.heap[k]?:=by
 unfold ami putRow amw;simp[Array.getElem?_modify,Ne.symm h]
theorem Al(a b:aa):ltOf uE a b=ae a b:=by
 unfold ltOf;have h:=qT a b;cases q:ae a b
 ·rw[q]at h;simp only[amv,decide_eq_true_eq]at h;simp;omega
 ·rw[q]at h;simp only[amz,decide_eq_false_iff_not]at h;simp;omega
theorem K8:SWO (ltOf uE) where
 irrefl x:=by rw[Al];exact bw.irrefl x
 trans x y z h1 h2:=by rw[Al]at*;exact bw.trans x y z h1 h2
 ntrans x y z h1 h2:=by
  rw[Al]at*;simp only[ae,Bool.or_eq_false_iff,Bool.and_eq_false_iff,decide_eq_false_iff_not,beq_eq_false_iff_ne]at*;omega
theorem FN(xs:List aa)(B cap:Nat)(w:World)(h:iV w B xs)(S:B<w.heap.size)(hl:xs.length<=1000000):
  Calls alI 97 #[.slice (some ⟨B,0,none⟩) xs.length cap,.func (.func 71) #[] #[]] w fun e w'=>
   e=.returned (.tuple #[])/\∃G:List aa,G.Perm xs/\oV ae G/\iV w' B G/\ag (fun i=>i=B) w w':=by
 have Z:∀args w,(callFunc 71 args).run alI w=.ok (.enter 71 args) w:=enters_of amt (by kernel_rfl) rfl;have U:=vf h;have s:xs.toArray.size=xs.length:=by simp
 have q:=AnyQ.slices_SortFunc Tryz.yD 2 Tryz.isAgg104 Tryz.sizeOf104 iR (fun _=>rfl) (fun x v hv=>by simp[iR]at hv;rcases hv with rfl|rfl<;>rfl) uE K8 71 #[] B 0 cap xs.toArray w Z (QP B 0 xs.toArray.size w) U S (by rw[s];omega);rw[s]at q
 change Calls alI 97 _ _ _ at q;refine q.mono ?_;rintro e w' ⟨rfl,b,n,V,⟨y,_,z⟩,hs,rfl⟩;have H:=holdsK_putRowK iR 2 (al6 w n) B 0 xs.toArray b (holdsK_ahead iR 2 w n B 0 _ U) y;have I:B<(ami iR 2 (al6 w n) B 0 b).heap.size:=by
  unfold ami putRow amw;simpa[al6]using S
 have D:b.toList.length=xs.length:=by rw[al8,y,s]
 refine⟨rfl,b.toList,?_,?_,K7 (holdsK_grow iR 2 _ V B 0 b I H),?_⟩
 ·have e1:(b.extract 0 xs.length)=b:=by
   apply amK;simp only[Array.toList_extract,List.drop_zero,Nat.sub_zero];exact al2 (Nat.le_of_eq D)
  have e2:(xs.toArray.extract 0 xs.length)=xs.toArray:=by
   apply amK;simp
  rw[e1,e2]at z;simpa using z
 ·rw[oV,List.pairwise_iff_getElem];intro i j hi hj J;have Y:=hs i j (amE _) J (by omega);have L:i<b.size:=by rw[<-al8];exact hi
  have M:j<b.size:=by rw[<-al8];exact hj
  rw[Al]at Y;simpa[L,M]using Y
 ·refine⟨rfl,rfl,rfl,?_,fun k hk O=>?_⟩
  ·unfold sortWorldK;simp only[amm,Array.size_append];have:(ami iR 2 (al6 w n) B 0 b).heap.size=w.heap.size:=by
    unfold ami putRow amw;simp[al6]
   omega
  ·unfold sortWorldK;have Q:k<(ami iR 2 (al6 w n) B 0 b).heap.size:=by
    unfold ami putRow amw;simpa[al6]using hk
   rw[heap_grow_old _ V Q,um _ _ _ _ _ O]
   rfl
theorem uF{q:Type}[DecidableEq q](a:q):∀l:List q,aw (l++[a])=if l.getLast?=some a then aw l else aw l++[a]
 |[]=>rfl
 |[b]=>by
  by_cases h:b=a<;>simp[aw,h]
 |b::c::t=>by
  have s:=uF a (c::t);simp only[List.cons_append]at s⊢;unfold aw;by_cases h:b=c
  ·rw[if_pos h,if_pos h,s,amh]
  ·rw[if_neg h,if_neg h,s,amh]
   split<;>simp
theorem K9{b:Type}(l:List b)(k:Nat)(s:0<k)(q:k<=l.length):(l.take k).getLast?=some (l[k-1]'(by omega)):=by
 rw[List.getLast?_eq_getElem?,ams,Nat.min_eq_left q,List.getElem?_take,if_pos (by omega),alL]
theorem lN{b:Type}[DecidableEq b](l:List b)(k:Nat)(q:0<k)(s:k<l.length):aw (l.take (k+1))=if l[k]=l[k-1]then aw (l.take k)else aw (l.take k)++[l[k]]:=by
 rw[alM s,uF,K9 l k q (by omega)];simp only[alV];by_cases h:l[k]=l[k-1]
 ·rw[if_pos h,if_pos h.symm]
 ·rw[if_neg h,if_neg (fun e=>h e.symm)]
theorem jq{q:Type}[DecidableEq q]:∀l:List q,(aw l).length<=l.length
 |[]=>alO _
 |[a]=>alO _
 |a::b::t=>by
  have s:=jq (b::t);unfold aw
  split
  ·simp only[alG]at*;omega
  ·simp only[alG]at*;omega
theorem ag.setCells{S:Nat->Prop}(b:Nat):∀(vs:List Value) (o:Nat) (w:World),S b->ag S w (w.setCells b o vs)
 |[],_,w,_=>ag.refl S w
 |v::vs,o,w,h=>(ag.setCell w v h).trans (ag.setCells b vs (o+1) _ h)
theorem iV.gr{w w':World}{B:Nat}{xs:List aa}(h:iV w B xs)(g:Gr w w')(b:B<w.heap.size):iV w' B xs:=
 fun i hi=>⟨⟨g.keeps (h i hi).1.1,(g.frozen _ b).trans (h i hi).1.2⟩,⟨g.keeps (h i hi).2.1,(g.frozen _ b).trans (h i hi).2.2⟩⟩
theorem iV.set{w:World}{B i:Nat}{y:List aa}(h:iV w B y)(hi:i<y.length)(D G:Int):
  iV ((w.setCell ⟨B,i*2,none⟩ (.int .i64 D)).setCell ⟨B,i*2+1,none⟩ (.int .i64 G)) B (y.set i (D,G)):=by
 intro k H;rw[alP]at H;have q:=h k H;have s:=h i hi;have J:(⟨B,i*2+1,none⟩:Addr)≠⟨B,k*2,none⟩:=fun e=>by
  have:=congrArg Addr.off e;simp at this;omega
 have I:(⟨B,i*2,none⟩:Addr)≠⟨B,k*2+1,none⟩:=fun e=>by
  have:=congrArg Addr.off e;simp at this;omega
 refine⟨⟨?_,by rw[alU,alU];exact q.1.2⟩,⟨?_,by rw[alU,alU];exact q.2.2⟩⟩
 ·rw[alN _ _ _ _ J];by_cases b:k=i
  ·subst b;rw[ame _ _ _ s.1.1];simp
  ·have z:(⟨B,i*2,none⟩:Addr)≠⟨B,k*2,none⟩:=fun e=>by
    have:=congrArg Addr.off e;simp at this;omega
   rw[alN _ _ _ _ z,q.1.1];simp[Ne.symm b]
 ·by_cases b:k=i
  ·subst b;rw[ame _ _ _ ((alN _ _ _ _ I).trans s.2.1)];simp
  ·have z:(⟨B,i*2+1,none⟩:Addr)≠⟨B,k*2+1,none⟩:=fun e=>by
    have:=congrArg Addr.off e;simp at this;omega
   rw[alN _ _ _ _ z,alN _ _ _ _ I,q.2.1];simp[Ne.symm b]
theorem oW(w:World)(ty:TypeId)(b o n c:Nat)(hn:0<n)(hc:∀j,j<n*2->(w.cell? ⟨b,o+j,none⟩).isSome=true)(hf:∀j,j<n*2->w.frozen? ⟨b,o+j,none⟩=false):
  (amx #[57] ty #[.slice (some ⟨b,o,none⟩) n c]).run alI w=.ok (.tuple #[]) (w.setCells b o (al3 (n*2) (.int .i64 0))):=by
 have hv:∀w,(zeroValue 104).run alI w=.ok (.agg #[.int .i64 0,.int .i64 0]) w:=Tryz.zeroValue104;have s:(ama (Value.agg #[.int .i64 0,.int .i64 0]).cells n).toList=al3 (n*2) (.int .i64 0):=by
  apply List.ext_getElem
  ·simp[ama,amG]
  ·intro i z B;simp only[ama,amG,List.getElem_replicate];rcases alQ i with e|e<;>simp[e]
 have q:=run_storeCells_cells (P:=alI) b o (al3 (n*2) (.int .i64 0)) 0 w (by simpa using hc) (by simpa using hf) (by intro v y;rw[List.eq_of_mem_replicate y];rfl);simp only[amp]at q;obtain⟨m,rfl⟩:∃m,n=m+1:=⟨n-1,by omega⟩;simp[amx,run_underlying Tryz.underlying57,hv,s,q]
theorem jd(b x2 q s:Int)(W:World):(Op.equalIn 10000 104 (.agg #[.int .i64 b,.int .i64 x2]) (.agg #[.int .i64 q,.int .i64 s])).run alI W=.ok (b==q&&x2==s) W:=by
 have u3:=Tryz.underlying3;have D:=Tryz.isAgg3;have G:=Tryz.sizeOf3;have hS:alI.underlying 104=some (.struct (alI.fieldsOf 104)):=by kernel_rfl
 have y:alI.stoodInHeld 104=false:=by kernel_rfl
 rw[show(10000:Nat)=9999+1 from rfl,run_equalIn_agg W 9999 104 _ _ hS y];simp only[Program.fieldsOf,Tryz.underlying104];go_simp
 by_cases z:b=q<;>by_cases B:x2=s<;>simp[z,B]
theorem K_(xs:List aa)(B cap:Nat)(hl:xs.length<=1000000)(e8:xs.length<=cap)(w:World)(h:iV w B xs)(hB:B<w.heap.size):
  Calls alI 98 #[.slice (some ⟨B,0,none⟩) xs.length cap] w fun e w'=>
   e=.returned (.slice (some ⟨B,0,none⟩) (aw xs).length cap)/\iV w' B (aw xs)/\ag (fun i=>i=B) w w':=by
 have H:=alH h;clear h;by_cases h2:xs.length<2
 ·have e:aw xs=xs:=by
   match xs,h2 with
   |[],_=>rfl
   |[a],_=>rfl
   |_::_::_,h=>simp at h;omega
  rw[e];have g1:decide ((xs.length:Int)<2)=true:=by simp;omega
  go_enter amH,amC;go_wp2_with fail
  go_ret;exact⟨rfl,H.out,ag.refl _ _⟩
 ·have g1:decide ((xs.length:Int)<2)=false:=by simp;omega
  go_enter amH,amC;go_wp2_with fail
  go_loopw [3] (fun kv w'=>∃k:Nat,1<=k/\k<=xs.length/\kv=.int .i64 k/\aw (xs.take k)=xs.take k/\Gr w w') (fun kv _=>xs.length-(intOf kv).toNat)
  case atStart=>exact⟨1,alO _,by omega,rfl,by cases xs<;>rfl,Gr.refl _⟩
  case round=>
   obtain⟨k,h1,hk,rfl,hs,Z⟩:=hrel;obtain⟨m,rfl⟩:∃m,k=m+1:=⟨k-1,by omega⟩;by_cases b5:m+1<xs.length
   ·have b:=H.out (m+1) b5;have G:=H.out m (by omega);have f1:=fun d Q=>alJ (Z.keeps b.1.1) d Q;have f2:=fun d Q=>alJ (Z.keeps b.2.1) d Q;have f3:=fun d Q=>alJ (Z.keeps G.1.1) d Q;have f4:=fun d Q=>alJ (Z.keeps G.2.1) d Q;have J:aw (xs.take (m+1+1))=if xs[m+1]=xs[m]'(by omega)then aw (xs.take (m+1))else aw (xs.take (m+1))++[xs[m+1]]:=lN xs (m+1) (by omega) b5
    have g5:(m:Int)+1<(xs.length:Int):=by omega
    have g6:(m:Int)<(xs.length:Int):=by omega
    generalize b6:xs[m+1]=x at*;generalize c7:xs[m]'(by omega)=y at*;by_cases he:x=y
    ·have a3:=(J.trans (if_pos he)).trans hs;clear J;subst he;obtain⟨x1,x2⟩:=x;simp only at f1 f2 f3 f4;have hq:∀W,(Op.equalIn 10000 104 (.agg #[.int .i64 x1,.int .i64 x2]) (.agg #[.int .i64 x1,.int .i64 x2])).run alI W=.ok true W:=fun W=>by
      rw[jd];simp
     clear b G;go_wp2_with fail
     refine alF (by kernel_rfl) (by kernel_rfl) ?_
     repeat(go_big_quiet_step (fail))
     refine alK ?_;intro w3 a8;have Y:=Z.trans (cg a8);clear a8 f1 f2 f3 f4 Z;have g7:¬cap=m+1:=by omega
     have g8:(m:Int)+1<=(xs.length:Int):=by omega
     have b4:iV w3 B xs:=fun i hi=>⟨⟨Y.keeps (H.out i hi).1.1,(Y.frozen _ hB).trans (H.out i hi).1.2⟩,⟨Y.keeps (H.out i hi).2.1,(Y.frozen _ hB).trans (H.out i hi).2.2⟩⟩;have d5:=alH b4;have d6:=alH a3;clear b4 a3 b6 c7 hs;go_wp2_with fail
     go_loopw [3,5] (fun kv jv w'=>∃(q j:Nat) (I:List aa),1<=j/\m+1+j<=xs.length/\kv=.int .i64 q/\jv=.int .i64 j/\m+1<=q/\q<=m+j/\I.length=xs.length/\(∀i,q<=i->I[i]?=xs[i]?)/\aw (xs.take (m+1+j))=I.take q/\iV w' B I/\ag (fun i=>i=B) w w') (fun _ jv _=>xs.length-(intOf jv).toNat)
     case atStart=>exact⟨m+1,1,xs,alO _,by omega,by go_num,rfl,alO _,alO _,rfl,fun _ _=>rfl,d6.out,d5.out,ag.ak Y⟩
     case round=>
      obtain⟨q,j,I,g9,h0,rfl,rfl,d7,h3,a0,c8,c9,b9,a4⟩:=hrel;have s:=alH b9;have d0:=alH c9;have b7:=alH c8;clear b9 c9 c8 Y;by_cases e9:j<xs.length-(m+1)
      ·obtain⟨p,rfl⟩:∃p,j=p+1:=⟨j-1,by omega⟩;have c0:m+1+(p+1)<xs.length:=by omega
       have d8:I[m+1+(p+1)]'(by omega)=xs[m+1+(p+1)]:=by
        have:=b7.out (m+1+(p+1)) (by omega);rw[alL (by omega),alL c0]at this;exact amj this
       have d9:I[m+1+p]'(by omega)=xs[m+1+p]'(by omega):=by
        have:=b7.out (m+1+p) (by omega);rw[alL (by omega),alL (by omega)]at this;exact amj this
       have b:=s.out (m+1+(p+1)) (by omega);have G:=s.out (m+1+p) (by omega);rw[d8,show(m+1+(p+1))*2=(m+1)*2+(p+1)*2 by omega]at b;rw[d9,show(m+1+p)*2=(m+1)*2+p*2 by omega]at G;have f1:=fun d Q=>alJ b.1.1 d Q;have f2:=fun d Q=>alJ b.2.1 d Q;have f3:=fun d Q=>alJ G.1.1 d Q;have f4:=fun d Q=>alJ G.2.1 d Q;have J:aw (xs.take (m+1+(p+1)+1))=if xs[m+1+(p+1)]=xs[m+1+p]'(by omega)then aw (xs.take (m+1+(p+1)))else aw (xs.take (m+1+(p+1)))++[xs[m+1+(p+1)]]:=lN xs (m+1+(p+1)) (by omega) c0
       rw[d0.out]at J;have h4:(p:Int)+1<((xs.length-(m+1):Nat):Int):=by omega
       have h5:(p:Int)<((xs.length-(m+1):Nat):Int):=by omega
       generalize b6:xs[m+1+(p+1)]=x at*;generalize c7:xs[m+1+p]'(by omega)=y at*;by_cases he:x=y
       ·have a3:=J.trans (if_pos he);clear J;subst he;obtain⟨U,V⟩:=x;simp only at f1 f2 f3 f4;have hq:∀W,(Op.equalIn 10000 104 (.agg #[.int .i64 U,.int .i64 V]) (.agg #[.int .i64 U,.int .i64 V])).run alI W=.ok true W:=fun W=>by
         rw[jd];simp
        clear b G;go_wp2_with fail
        refine alF (by kernel_rfl) (by kernel_rfl) ?_
        repeat(go_big_quiet_step (fail))
        refine alK ?_;intro w4 a9;have D:=cg a9;clear a9 f1 f2 f3 f4;have a5:B<wr.heap.size:=alZ hB a4.2.2.2.1;go_wp2_with fail
        exact⟨⟨q,p+2,I,by omega,by omega,rfl,by go_num,d7,by omega,a0,b7.out,a3,s.out.gr D a5,a4.trans (ag.ak D)⟩,by simp[intOf];omega⟩
       ·have a3:=J.trans (if_neg he);clear J;obtain⟨U,V⟩:=x;obtain⟨b1,b2⟩:=y;simp only at f1 f2 f3 f4;have hq:∀W,(Op.equalIn 10000 104 (.agg #[.int .i64 U,.int .i64 V]) (.agg #[.int .i64 b1,.int .i64 b2])).run alI W=.ok false W:=fun W=>by
         rw[jd,show(U==b1&&V==b2)=false from by
          rw[al1];intro h;simp only[alX,beq_iff_eq]at h;exact he (by rw[h.1,h.2])]
        go_wp2_with fail
        refine alF (by kernel_rfl) (by kernel_rfl) ?_
        repeat(go_big_quiet_step (fail))
        refine alK ?_;intro w4 a9;have D:=cg a9;clear a9 f1 f2 f3 f4;have a5:B<wr.heap.size:=alZ hB a4.2.2.2.1;have e1:=D.keeps b.1.1;have e2:=D.keeps b.2.1;have b0:=s.out q (by omega);have d1:=D.keeps b0.1.1;have d2:=D.keeps b0.2.1;have z1:=(D.frozen _ a5).trans b0.1.2;have z2:=(D.frozen _ a5).trans b0.2.2;have h6:(q:Int)<(xs.length:Int):=by omega
        clear b G b0;go_wp2_with fail
        go_roundw
        case measure=>
         simp[intOf];omega
        case rel=>
         have L:∀i,q+1<=i->(I.set q (U,V))[i]?=xs[i]?:=fun i hi=>by
          rw[List.getElem?_set_ne (by omega)];exact b7.out i (by omega)
         have M:aw (xs.take (m+1+(p+2)))=(I.set q (U,V)).take (q+1):=by
          rw[show m+1+(p+2)=m+1+(p+1)+1 by omega,a3,alM (by rw[alP];omega),List.take_set_of_le (alO q)];simp
         have z:=(s.out.gr D a5).set (i:=q) (by omega) U V;have O:=((a4.trans (ag.ak D)).trans (ag.setCell (S:=fun i=>i=B) w4 (p:=⟨B,q*2,none⟩) (.int .i64 U) rfl)).trans (ag.setCell (S:=fun i=>i=B) _ (p:=⟨B,q*2+1,none⟩) (.int .i64 V) rfl)
         first|exact⟨_,_,_,_,_,_,_,_,_,_,_,_,_,_,_,_,_,_,_,_,_,_,_,_,_,_,⟨q+1,p+2,I.set q (U,V),by omega,by omega,by go_num,by go_num,by omega,by omega,by rw[alP];exact a0,L,M,z,O⟩,rfl⟩|exact⟨_,_,_,_,_,_,_,_,_,_,_,_,_,_,_,_,_,_,_,_,_,_,_,_,_,_,_,⟨q+1,p+2,I.set q (U,V),by omega,by omega,by go_num,by go_num,by omega,by omega,by rw[alP];exact a0,L,M,z,O⟩,rfl⟩|exact⟨_,_,_,_,_,_,_,_,_,_,_,_,_,_,_,_,_,_,_,_,_,_,_,_,_,⟨q+1,p+2,I.set q (U,V),by omega,by omega,by go_num,by go_num,by omega,by omega,by rw[alP];exact a0,L,M,z,O⟩,rfl⟩|exact⟨_,_,_,_,_,_,_,_,_,_,_,_,_,_,_,_,_,_,_,_,_,_,_,_,_,_,_,_,⟨q+1,p+2,I.set q (U,V),by omega,by omega,by go_num,by go_num,by omega,by omega,by rw[alP];exact a0,L,M,z,O⟩,rfl⟩|exact⟨_,_,_,_,_,_,_,_,_,_,_,_,_,_,_,_,_,_,_,_,_,_,_,_,⟨q+1,p+2,I.set q (U,V),by omega,by omega,by go_num,by go_num,by omega,by omega,by rw[alP];exact a0,L,M,z,O⟩,rfl⟩|exact⟨_,_,_,_,_,_,_,_,_,_,_,_,_,_,_,_,_,_,_,_,_,_,_,_,_,_,_,_,_,⟨q+1,p+2,I.set q (U,V),by omega,by omega,by go_num,by go_num,by omega,by omega,by rw[alP];exact a0,L,M,z,O⟩,rfl⟩
      ·have g0:m+1+j=xs.length:=by omega
       have b3:=d0.out;rw[al2 (by omega)]at b3;have a5:B<wr.heap.size:=alZ hB a4.2.2.2.1;have h7:q<xs.length:=by omega
       have h8:=oW wr 0 B (q*2) (xs.length-q) (cap-q) (by omega) (fun j hj=>by
        have hh:=s.out (q+j/2) (by omega);rcases alQ j with e|e
        ·rw[show q*2+j=(q+j/2)*2 by omega,hh.1.1]
         rfl
        ·rw[show q*2+j=(q+j/2)*2+1 by omega,hh.2.1]
         rfl) (fun j hj=>by
        have hh:=s.out (q+j/2) (by omega);rcases alQ j with e|e
        ·rw[show q*2+j=(q+j/2)*2 by omega,hh.1.2]
        ·rw[show q*2+j=(q+j/2)*2+1 by omega,hh.2.2])
       go_wp2_with fail
       go_ret;have c1:(I.take q).length=q:=by
        rw[ams];omega
       have c2:=World.cell?_setCells_out B (al3 ((xs.length-q)*2) (.int .i64 0)) (q*2) wr;have c3:=World.frozen?_setCells B (al3 ((xs.length-q)*2) (.int .i64 0)) (q*2) wr;refine⟨by rw[b3,c1];rfl,?_,a4.trans (ag.setCells B _ _ wr rfl)⟩;rw[b3];intro i hi;rw[c1]at hi;have hh:=s.out i (by omega);rw[List.getElem_take];exact⟨⟨(c2 _ (fun _ _=>Or.inl (by show i*2<q*2;omega))).trans hh.1.1,(c3 _).trans hh.1.2⟩,⟨(c2 _ (fun _ _=>Or.inl (by show i*2+1<q*2;omega))).trans hh.2.1,(c3 _).trans hh.2.2⟩⟩
    ·obtain⟨x1,x2⟩:=x;obtain⟨y1,y2⟩:=y;simp only at f1 f2 f3 f4;have hq:∀W,(Op.equalIn 10000 104 (.agg #[.int .i64 x1,.int .i64 x2]) (.agg #[.int .i64 y1,.int .i64 y2])).run alI W=.ok false W:=fun W=>by
      rw[jd,show(x1==y1&&x2==y2)=false from by
       rw[al1];intro h;simp only[alX,beq_iff_eq]at h;exact he (by rw[h.1,h.2])]
     clear b G;go_wp2_with fail
     refine alF (by kernel_rfl) (by kernel_rfl) ?_
     repeat(go_big_quiet_step (fail))
     refine alK ?_;intro w3 a8;have Y:=Z.trans (cg a8);clear a8 f1 f2 f3 f4 Z;go_wp2_with fail
     refine⟨⟨m+2,by omega,by omega,by go_num,?_,Y⟩,by simp[intOf];omega⟩;rw[alM b5,b6];have:=J;rw[if_neg he,alM b5,b6,hs]at this;exact this
   ·obtain h9:m+1=xs.length:=by omega
    go_wp2_with fail
    go_ret;have e:aw xs=xs:=by
     have:=hs;rw[al2 (by omega)]at this;exact this
    rw[e];exact⟨rfl,fun i hi=>⟨⟨Z.keeps (H.out i hi).1.1,(Z.frozen _ hB).trans (H.out i hi).1.2⟩,⟨Z.keeps (H.out i hi).2.1,(Z.frozen _ hB).trans (H.out i hi).2.2⟩⟩,ag.ak Z⟩
end
section
open Go Go.RowKit
def kI(v b:Value)(w w':World):Prop:=w.heap.size<=w'.heap.size/\∀k,k<w.heap.size->v.ownBlock≠some k->b.ownBlock≠some k/\∀o,w'.cell? ⟨k,o,none⟩=w.cell? ⟨k,o,none⟩/\w'.frozen? ⟨k,o,none⟩=w.frozen? ⟨k,o,none⟩
theorem kI.refl(v:Value)(w:World):kI v v w w:=⟨alO _,fun _ _ h=>⟨h,fun _=>⟨rfl,rfl⟩⟩⟩
theorem kI.trans{v y q:Value}{w w' s:World}(h:kI v y w w')(z:kI y q w' s):kI v q w s:=
 ⟨Nat.le_trans h.1 z.1,fun k B hv=>by
  have a:=h.2 k B hv;have b:=z.2 k (alZ B h.1) a.1;exact⟨b.1,fun o=>⟨(b.2 o).1.trans (a.2 o).1,(b.2 o).2.trans (a.2 o).2⟩⟩⟩
theorem kI.keeps{v b:Value}{w w':World}(h:kI v b w w'){k o:Nat}{u:Value}(hv:v.ownBlock≠some k)(hc:w.cell? ⟨k,o,none⟩=some u):w'.cell? ⟨k,o,none⟩=some u:=
 (((h.2 k (ad hc) hv).2 o).1).trans hc
theorem pL{P:Program}{a0 w:World}{G:Array Oper}{rest:List Oper}{o:Oper}{a:Act}{Q:Exit->Act->World->Prop}(L:o.guard=none)(s x:Operand)(t:TypeId)
  (Z:o.op=.call {callee:=.builtin .append,args:=#[s,x],argTypes:=#[t,t]}) (e:TypeId) (i:TypeInfo) (z:Value) (size bytes:Nat) (ht:P.underlying t=some (.slice e)) (hi:P.info? e=some i)
  (hz:i.zero=some z) (y:i.size=size) (M:i.bytes=bytes) (O:z.cells.size=size) (S:0<size) (v:Value) (n:Nat) (xs:List Value) (hs:a.eval s=v) (q:w.ownsRow a0.heap.size e size v n xs)
  (us:List Value) (U:us.length=size) (I:∀u∈us,u.oneCell'=true) (hx:a.eval x=.slice (some ⟨w.heap.size,0,none⟩) 1 1) (V:Gr a0 w) (a8:n+1<=4611686018427387904) (b:(n+1)*bytes<=140737488355328)
  (h:∀B w',w'.ownsRow a0.heap.size e size B (n+1) (xs++us)->Gr a0 w'->kI v B w w'->wpList P G Q rest (a.put o.dst B) w'):wpList P G Q (o::rest) a (w.alloc (.cells us.toArray e)):=by
 refine wpList_append_own_at _ L s x t Z a0.heap.size e i z size bytes ht hi hz y M O S v n xs hs (q.alloc _) ⟨w.heap.size,0,none⟩ 1 1 us hx (by rw[U,Nat.one_mul]) ?_ I (by unfold maxLen;omega) b (by have:=V.size;simp;omega)
  (fun B w' I J _ D=>h B w' I (iM (V.alloc _) J (aP q)) ⟨by have:=J.size;simp at this;omega,fun k hk H=>⟨fun e=>by
   rcases D with D|D
   ·exact H (D.symm.trans e)
   ·rw[D]at e;have:=amj e;simp at this;omega,fun o=>by
   have Y:w'.heap[k]?=w.heap[k]?:=(J.block k (by simp;omega) (fun e=>H e.symm)).trans (Below.heap_alloc _ _ _ hk);exact⟨World.cell?_of_block Y,World.frozen?_of_block Y⟩⟩⟩)
 intro j u hj;have he:(⟨w.heap.size,0,none⟩:Addr).add j=⟨w.heap.size,j,none⟩:=by
  unfold Addr.add
  split
  ·rename_i h0;rw[h0]
  ·simp
 rw[he,alE];simpa using hj
theorem SX(n:Nat)(h:n<9223372036854775808):bits BinOp.and amI (n:Int) 127=((n % 128:Nat):Int):=by
 show amI.wrap ((amD 64 (n:Int)&&&amD 64 ((127:Nat):Int)).toNat:Int)=_;rw[BitVec.toNat_and,et _ (by omega),et _ (by omega),Nat.and_two_pow_sub_one_eq_mod n 7];rw[IntKind.wrap_i64];omega
theorem Up(m:Nat):bits amN amL ((m:Int) % 128) 128=((128+m % 128).toUInt8.toNat:Int):=by
 have h:∀r:Fin 128,bits amN amL ((r.val:Nat):Int) 128=((128+r.val).toUInt8.toNat:Int):=by decide+kernel
 have:=h ⟨m % 128,Nat.mod_lt _ (by omega)⟩;rw[show((m:Int) % 128)=((m % 128:Nat):Int)by omega];exact this
theorem Oq(a0 w:World)(v:Value)(l:List UInt8)(n:Nat)(hn:n<1099511627776)(V:l.length<=100000000000)(z:Gr a0 w)(y:ey a0 w v l):
  Calls alI 147 #[v,.int .i64 n] w fun e w'=>∃M,e=.returned M/\ey a0 w' M (l++gf n)/\Gr a0 w'/\kI v M w w':=by
 obtain⟨O,hi,B,D,G⟩:=info_parts wj;have H:=alH y;clear y;go_enter Tryz.func147,Tryz.ntmps147;go_wp2_with fail
 go_loopw [1,0] (fun i u w'=>∃(m:Nat) (pre:List UInt8),m<=n/\i=.int .i64 m/\Gr a0 w'/\ey a0 w' u (l++pre)/\pre.length+m<=n/\pre++gf m=gf n/\kI v u w w') (fun i _ _=>(intOf i).toNat)
 case atStart=>exact⟨n,[],alO _,rfl,z,by simpa using H.out,by simp,by simp,kI.refl _ _⟩
 case round=>
  obtain⟨m,pre,Y,rfl,z,y,U,I,J⟩:=hrel;have H:=alH y;have L:=alH I;clear y I;by_cases h:m<128
  ·go_wp2_with(at_builtin;(refine pL (a0:=a0) rfl _ _ 188 rfl 5 O (.int .u8 0) 1 1 amn hi B D G rfl (by decide) _ _ _ rfl (ey.row H.out) [_] rfl (by simp;rfl) rfl z (by simp;omega) (by simp;omega) ?_);intro Q S b s q)
   go_ret;refine⟨_,rfl,?_,s,J.trans q⟩;rw[<-L.out,gH m h,<-amb];have e:lk m.toUInt8=.int .u8 (m:Int):=by
    unfold lk
    congr 1
    simp;omega
   exact nm (by rw[e];exact b)
  ·have ha:=SX m (by omega);go_wp2_with(at_builtin;(refine pL (a0:=a0) rfl _ _ 188 rfl 5 O (.int .u8 0) 1 1 amn hi B D G rfl (by decide) _ _ _ rfl (ey.row H.out) [_] rfl (by simp;rfl) rfl z (by simp;omega) (by simp;omega) ?_);intro Q S b s q)
   refine⟨⟨m/128,pre++[(128+m % 128).toUInt8],by omega,by go_num,s,?_,by rw[al9];simp;omega,?_,J.trans q⟩,by simp[intOf];omega⟩
   ·rw[<-amb];refine nm ?_;rw[lk,<-Up];exact b
   ·rw[<-L.out,oT m h,amb];rfl
theorem xH(a0 w:World)(v:Value)(l:List UInt8)(n:Int)(q:0<=n)(hn:n<1099511627776)(s:l.length<=100000000000)(y:Gr a0 w)(z:ey a0 w v l):
  Calls alI 147 #[v,.int .i64 n] w fun e w'=>∃b,e=.returned b/\ey a0 w' b (l++gf n.toNat)/\Gr a0 w'/\kI v b w w':=by
 obtain⟨m,rfl⟩:=Int.eq_ofNat_of_zero_le q;exact Oq a0 w v l m (by omega) s y z
