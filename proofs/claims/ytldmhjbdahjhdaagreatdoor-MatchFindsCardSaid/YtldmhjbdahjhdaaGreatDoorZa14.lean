/-
  Part 14 of the proof.
-/
import Derived.Test.YtldmhjbdahjhdaaGreatDoorZa13
import Derived.Test.YtldmhjbdahjhdaaGreatDoorZa9
open Go.Proofs.Tryz
open Go.World renaming cell?_alloc_new->ae,size_alloc->bz,cell?_setCell_other->bT,cell?_drew->cf
open Go.Lib renaming compareBytes->ak,hid->az,cut->cK,indexByte->cW,index->eY
open List renaming cons_append->ap,length_append->aJ,length_cons->aQ,append_assoc->aS,take_succ_eq_append_getElem->aX,take_of_length_le->bc,mem_cons_of_mem->bh,all_cons->bj,mem_cons_self->bu,eq_nil_of_length_eq_zero->bA,drop_append_of_le_length->bB,takeWhile_cons->bF,flatMap_cons->bX,drop_eq_nil_of_le->cg,getElem_cons_zero->ch,foldl_cons->cl,map_append->co,takeWhile_prefix->cs,take_succ_cons->cL,flatMap_append->cO,suffix_cons->dD,length_take->dJ,length_drop->dQ,nil_append->ea,range->em,flatMap->eH
open Go renaming World->aU,bodyPost_ret->bv,results->dr,Calls->dS,Value->dU,info_parts->ek,Ending->fl
open Nat renaming mul_le_mul_right->aV,lt_of_lt_of_le->bt,add_mul->cD,pow_le_pow_right->cF,pow_succ'->de,lt_irrefl->dg,le_trans->di,xor_comm->dA,le_refl->dT,mul_assoc->en,add_assoc->es,zero_mul->ew,zero_add->ez
open Bool renaming and_eq_true->a4,or_eq_true->dZ
open UInt8 renaming lt_iff_toNat_lt->be,toNat_lt->bP,toNat_inj->eb,lt_irrefl->eh,lt_trans->ej,not_lt->eA
open Go.ByteArray renaming toList_eq->bC
open Go.Value renaming string->bM,int->b_
open Go.Proofs.Tryz renaming results65->bQ,underlying133->dh,results63->el
open Option.some renaming injEq->bW
open Go.IntKind renaming u64->bZ,wrap_u64->dF
open BitVec renaming ofInt->cj
open Prod.mk renaming injEq->da
open ByteArray renaming size_extract->eB
open Go.World.ownsRow renaming cells->eT
open ByteArray.mk renaming injEq->eV
open Go.BinOp renaming xor->fe
set_option maxRecDepth 100000
set_option maxHeartbeats 100000000
set_option linter.all false
namespace Go.Proofs.YtldmhjbdahjhdaaGreatDoor
section
open Go Go.RowKit
def UH(N:Nat)(w:aU):Int:=match w.cell? ⟨N,1,none⟩with|some (.int _ n)=>n|_=>0
theorem El{N:Nat}{w:aU}{l:List ByteArray}{bad:Int}(h:mJ N w l bad):UH N w=bad:=by
 unfold UH;rw[h.2.1]
def Em(N:Nat)(w:aU):Nat:=if UH N w=0 then zW N w+1 else 0
theorem PV(N d:Nat)(y:List ByteArray->Rd)(Y:∀l q r,y l=.ok q r->fG r l)(a6:∀(G:List ByteArray) (w':aU),nH N w' G->dS prog 74 #[.pointer (some ⟨N,0,none⟩),.int .i64 d] w' (gT N w' (y G)))
  (l:List ByteArray) (w:aU) (h:nH N w l):dS prog 28 #[.pointer (some ⟨N,0,none⟩),.int .i64 d] w (gT N w (tj y l)):=by
 have HI:=az h;have U:=az a6;have Z:=az Y;have d4:=ad h.1.2.1;clear h a6 Y;generalize hR:tj y l=R;unfold tj at hR;have HR:=az hR;clear hR;go_enter func28,ntmps28;go_wp2_with fail
 refine(U.out l w HI.out).mono ?_;intro e w1 B;have a5:∃b,e=.returned (.pointer (some ⟨b,0,none⟩))/\
   ((∃q l n,ir N w1 q b/\nH N w1 l/\gO N w w1/\l.length<=n/\mc y n q l=R)\/(∃G m,mJ N w1 G m/\m≠0/\gO N w w1/\R=.bad m)):=by
  have hR:=HR.out;cases ho:y l with
  |bad m=>
   rw[ho]at hR B;obtain⟨b,G,rfl,hA,hm,Q⟩:=B;exact⟨b,rfl,.inr ⟨G,m,hA,hm,Q,hR.symm⟩⟩
  |ok q r=>
   rw[ho]at hR B;obtain⟨b,rfl,hq,hA,Q⟩:=B;have I:=HI.out.less hA (Z.out l q r ho).1;exact⟨b,rfl,.inl ⟨q,r,r.length,hq,I,Q,dT _,hR⟩⟩
 obtain⟨b,rfl,a1⟩:=a5;have V:=az a1;clear B a1;go_wp2_with fail
 go_loopw [5] (fun qv w'=>(∃(q:Qy) (b:Nat) (l:List ByteArray) (n:Nat),qv=.pointer (some ⟨b,0,none⟩)/\ir N w' q b/\nH N w' l/\gO N w w'/\l.length<=n/\mc y n q l=R)\/(∃(b:Nat) (G:List ByteArray) (m:Int),qv=.pointer (some ⟨b,0,none⟩)/\mJ N w' G m/\m≠0/\gO N w w'/\R=.bad m)) (fun _ w'=>Em N w')
 case atStart=>
  rcases V.out with⟨q,l,n,h1,h2,h3,h4,h5⟩|⟨G,m,h1,h2,h3,h4⟩
  ·exact .inl ⟨q,b,l,n,rfl,h1,h2,h3,h4,h5⟩
  exact .inr ⟨b,G,m,rfl,h1,h2,h3,h4⟩
 case round=>
  rcases hrel with⟨q,b,l,n,rfl,hq,I,Q,hn,z⟩|⟨b,G,m,rfl,hA,hm,Q,rfl⟩
  ·have HQ:=az hq;have H:=az I;have a7:Em N wr=l.length+1:=by unfold Em;rw[El I.1,if_pos rfl,gY I.1.1]
   clear hq I V;by_cases D:aW l=Fm
   ·obtain⟨s,t,rfl,a8⟩:=eS (l:=l) (by rw[D];decide);obtain rfl:s=⟨#[79,82]⟩:=a8.symm.trans D;obtain⟨n,rfl⟩:∃m,n=m+1:=⟨n-1,by simp at hn;omega⟩;rw[Ej _ _ _ _ D]at z
    change (match y t with| .bad m=>Rd.bad m| .ok q' r=>mc y n (.node 5 q q') r)=R at z;have J:=cQ N ⟨#[79,82]⟩ t H.out.2.1 _ H.out.1;cases hO:y t with
    |bad m=>
     rw[hO]at z;have a9:=az hO;subst z;clear hO D a8;go_wp2_with(go_at_call_of 75 (bM ⟨#[79,82]⟩);refine J.mono ?_;rintro e w2 ⟨rfl,PC,L⟩;have GN:=Q.trans L;have S:=H.out.less PC (dD _ t);clear L)
     refine(U.out _ _ S).mono ?_;rw[a9.out];rintro e O ⟨b2,l2,rfl,b7,b8,a2⟩;have M:Gr O (O.alloc (.cells #[.int .i64 5,.slice none 0 0,.pointer (some ⟨b,0,none⟩),.pointer (some ⟨b2,0,none⟩)] 123)):=(Gr.refl O).alloc _;have a3:=(GN.trans a2).trans (ag.ah M);have b9:=b7.gr M;have c0:=az b9;clear b7 b9 M;go_wp2_with fail
     refine⟨.inr ⟨O.heap.size,l2,m,rfl,c0.out,b8,a3,rfl⟩,?_⟩;rw[a7];unfold Em;rw[El c0.out,if_neg b8];exact Nat.succ_pos _
    |ok q2 r=>
     rw[hO]at z;have a9:=az hO;have b0:=Z.out _ q2 r hO;have d5:=az z;clear hO D a8 z;go_wp2_with(go_at_call_of 75 (bM ⟨#[79,82]⟩);refine J.mono ?_;rintro e w2 ⟨rfl,PC,L⟩;have GN:=Q.trans L;have S:=H.out.less PC (dD _ t);have QC:=ir.fL L q b HQ.out;clear L)
     refine(U.out _ _ S).mono ?_;rw[a9.out];rintro e O ⟨b2,rfl,c1,c2,a2⟩;have a3:=GN.trans a2;have d6:=ir.fL a2 q b QC;have b1:=S.less c2 b0.1;have d7:N<O.heap.size:=bt d4 a3.2.2.2.1;have c3:=sV 5 d6 c1 d7 123;have M:Gr O (O.alloc (.cells #[.int .i64 5,.slice none 0 0,.pointer (some ⟨b,0,none⟩),.pointer (some ⟨b2,0,none⟩)] 123)):=(Gr.refl O).alloc _;have c4:=b1.less (b1.1.gr M) (List.suffix_refl r);have e5:=b0.2;have d8:=az c3;have b3:=az c4;clear c3 b0 c1 c2 b1 S c4;go_wp2_with fail
     refine⟨.inl ⟨_,O.heap.size,r,n,rfl,d8.out,b3.out,a3.trans (ag.ah M),by simp at hn;omega,d5.out⟩,?_⟩;rw[a7];unfold Em;rw[El b3.out.1,if_pos rfl,gY b3.out.1.1,aQ];omega
   rw[Ei _ _ _ _ D]at z;subst z;have J:=gX N l ⟨#[79,82]⟩ H.out.2.1 _ H.out.1 D;clear D a7;go_wp2_with(go_at_call_of 75 (bM ⟨#[79,82]⟩);refine J.mono ?_;rintro e w2 ⟨rfl,rfl⟩)
   go_ret;exact⟨b,rfl,HQ.out,H.out.1,Q⟩
  have J:=xx N G m ⟨#[79,82]⟩ _ hA hm (by decide);clear V;go_wp2_with(go_at_call_of 75 (bM ⟨#[79,82]⟩);refine J.mono ?_;rintro e w2 ⟨rfl,rfl⟩)
  go_ret;exact⟨b,G,rfl,hA,hm,Q⟩
theorem Wc(N:Nat):∀(k d:Nat),d+k=13->∀(l:List ByteArray) (w:aU),nH N w l->dS prog 28 #[.pointer (some ⟨N,0,none⟩),.int .i64 d] w (gT N w (uL k l)):=by
 intro k
 induction k with
 |zero=>
  intro d hd l w h;exact PV N d (G_ 0) (kW 0) (fun y z B=>PU N d (Bi 0) (kV 0) (fun b q s=>OG N d (by omega) b q s) y z B) l w h
 |succ k D=>
  intro d hd l w h;refine PV N d (G_ (k+1)) (kW (k+1)) (fun y z B=>PU N d (Bi (k+1)) (kV (k+1)) (fun b q s=>?_) y z B) l w h;exact Wa N d (by omega) (uL k) (xq k) (fun G H I=>by
   have:=D (d+1) (by omega) G H I;rwa [show((d+1:Nat):Int)=(d:Int)+1 by omega]at this) b q s
def UI(w:aU)(r:Option Qy×Int)(e:fl)(w':aU):Prop:=
 match r with
 |(some q,_)=>∃N b,e=.returned (.tuple #[.pointer (some ⟨b,0,none⟩),.int .i64 0])/\ir N w' q b/\Gr w w'
 |(none,n)=>e=.returned (.tuple #[.pointer none,.int .i64 n])/\Gr w w'
theorem Sb{w:aU}{B:Nat}{v:dU}{ws:List ByteArray}(h:iB w B v ws)(T:TypeId):mJ w.heap.size (w.alloc (.cells #[v,.int .i64 0] T)) ws 0:=by
 obtain⟨z,c,b,s,D,y⟩:=fk h;have hc:ws.length<=c:=by
  rcases h.2 with⟨e,I⟩|⟨g,cap,H,e,_,J,hn,_⟩
  ·omega
  rw[s]at e;cases e;exact hn
 have G:0<ws.length->b<w.heap.size:=fun q=>ad (y 0 q);refine⟨⟨z,c,b,0,by rw[ae,<-s];rfl,hc,D,fun q=>by have:=G q;omega,fun i hi=>((Gr.refl w).alloc _).keeps (y i hi),?_⟩,by rw[ae];rfl,?_⟩
 ·simp
 simp
theorem Xw(s:ByteArray)(hs:s.size<=1000)(w:aU):dS prog 6 #[.string s] w (UI w (wj s)):=by
 have D:=RJ s hs w;generalize z:wj s=R;unfold wj at z;cases hc:c_ s.size s.data.toList with
 |none=>
  rw[hc]at z D;subst z;clear hc;go_enter func6,ntmps6;go_wp2_with fail
  refine D.mono ?_;rintro e L ⟨rfl,M⟩;go_wp2_with fail
  go_ret2;exact⟨rfl,M⟩
 |some Z=>
  rw[hc]at z D;obtain⟨b0,S⟩:=Ek _ _ _ hc;have a0:=PM _ _ _ hc;rw[<-size_data]at b0 S;have a8:Z.length<=1000:=by omega
  have b1:=az (fun p hp=>(⟨a0 p hp,di (S p hp) hs⟩:rH p/\p.size<=1000));have I:=az z;clear hc S a0 z;go_enter func6,ntmps6;go_wp2_with fail
  refine D.mono ?_;rintro e L ⟨v,rfl,J,M⟩;obtain⟨ao,cc,bb,rfl,_,_⟩:=fk J;have a1:=Sb J 71;have a2:Gr L (L.alloc (.cells #[.slice ao Z.length cc,.int .i64 0] 71)):=(Gr.refl L).alloc _;have O:=Wc L.heap.size 13 0 rfl Z _ ⟨a1,a8,b1.out⟩;rw[show((0:Nat):Int)=0 from rfl]at O;have a3:=M.trans a2;have Q:w.heap.size<=L.heap.size:=M.size;clear D J a1 a2;go_wp2_with fail
  generalize L.alloc (.cells #[.slice ao Z.length cc,.int .i64 0] 71)=w2 at*;generalize L.heap.size=N at*;refine O.mono ?_;have G:=I.out;cases hA:uL 13 Z with
  |bad n=>
   rw[hA]at G
   change (none,n)=R at G;subst G;rintro e w3 ⟨b,l',rfl,B,hn,U⟩;have y:=U.gr a3 (fun i hi=>by rw[hi];exact Q);obtain⟨⟨b2,c3,b3,a9,k1,_,_,_,_,_⟩,k2,_⟩:=id B;have c6:(n !=0)=true:=by simpa using hn
   have b4:sX n 3=n:=if_neg hn;have V:=az B;clear B O I;by_cases b5:0<l'.length
   ·have g1:decide ((0:Int)<(l'.length:Int))=true:=by simp;omega
    go_wp2_with(go_at_call 29;refine(jS N l' n 3 _ V.out).mono ?_;rintro e w4 ⟨rfl,AC,Y⟩;rw[b4]at AC;have k2:=AC.2.1;have y:=Y.gr y (fun i hi=>by rw[hi];exact Q))
    go_region
    go_wp2_with fail
    go_ret2;exact⟨rfl,y.drew⟩
   have g1:decide ((0:Int)<(l'.length:Int))=false:=decide_eq_false (by omega);go_wp2_with fail
   go_region
   go_wp2_with fail
   go_ret2;exact⟨rfl,y.drew⟩
  |ok q r=>
   rw[hA]at G
   change (if r=[]then(some q,0)else(none,3))=R at G;rintro e w3 ⟨b,rfl,a7,B,U⟩;have y:=U.gr a3 (fun i hi=>by rw[hi];exact Q);obtain⟨⟨b2,c3,b3,a9,k1,_,_,_,_,_⟩,k2,_⟩:=id B;have V:=az B;have b6:=az a7;clear B a7 O I hA;by_cases H:r=[]
   ·rw[if_pos H]at G;subst G H;go_wp2_with fail
    go_ret2;exact⟨N,b,rfl,b6.out,y⟩
   rw[if_neg H]at G;subst G;have b5:0<r.length:=List.length_pos_iff.2 H;have g1:decide ((0:Int)<(r.length:Int))=true:=by simp;omega
   clear H;go_wp2_with(go_at_call 29;refine(jS N r 0 3 _ V.out).mono ?_;rintro e w4 ⟨rfl,AC,Y⟩;have k2:=AC.2.1;rw[show sX 0 3=3 from rfl]at k2;have y:=Y.gr y (fun i hi=>by rw[hi];exact Q))
   go_region
   go_wp2_with fail
   go_ret2;exact⟨rfl,y.drew⟩
structure dl where
 kind:Int
 num:Int
 text:ByteArray
def dl.val(v:dl):dU:=.agg #[.int .i64 v.kind,.int .i64 v.num,.string v.text]
def fb(v:dl):Bool:=
 (v.kind==0&&v.num==0&&v.text.data.toList.isEmpty)||(v.kind==1&&v.text.data.toList.isEmpty)||
  (v.kind==2&&v.num==0&&decide (v.text.data.toList.length<=40)&&v.text.data.toList.all (·!=0))
def rl(a b:dl):Int:=if a.kind<b.kind then-1 else if b.kind<a.kind then 1 else if a.num<b.num then-1 else if b.num<a.num then 1 else ak a.text.data.toList b.text.data.toList
theorem pr(l:List UInt8)(c:UInt8):decide (cW l c<0)=l.all (·!=c):=by
 have z:=Lib.indexByte_ge l c;by_cases h:cW l c=-1
 ·have b:=Lib.indexByte_none h;rw[h];have:l.all (·!=c)=true:=by
   rw[List.all_eq_true];intro x s;obtain⟨k,y⟩:=List.getElem?_of_mem s;rw[bne_iff_ne];rintro rfl;exact b k y
  rw[this];rfl
 obtain⟨o,q⟩:=Int.eq_ofNat_of_zero_le (show 0<=cW l c by omega);have b:=(Lib.indexByte_some q).1;rw[q];have:l.all (·!=c)=false:=by
  rw[List.all_eq_false];exact⟨c,List.mem_of_getElem? b,by simp⟩
 rw[this];simp
theorem ni(v:dl)(hs:v.text.size<=9223372036854775807)(w:aU):dS prog 114 #[v.val] w (ar w (.bool (fb v))):=by
 obtain⟨k,n,s⟩:=v;unfold dl.val;simp only at hs⊢;go_enter func114,ntmps114;go_wp2_with(go_at_call 72;refine(Tryz.strings_IndexByte _ _ _).mono ?_;rintro e b ⟨rfl,rfl⟩)
 all_goals
  go_ret;refine ar.mk ?_ (by repeat(first|exact Gr.refl _|assumption|refine Gr.alloc ?_ _|refine Gr.drew ?_));simp only[size_data,bC,beq_iff_eq,beq_eq_false_iff_ne,ne_eq]at*;unfold fb;simp only;generalize s.data.toList=l at*;simp[pr, *]
  try omega
end
section
open Go
def oi(l:List UInt8):Nat:=l.foldl (fun n c=>n*256+c.toNat) 0
def fN:List UInt8->Option (dl×List UInt8)
 |[]=>none
 |k::s=>
  if k=1 then some (⟨0,0,⟨#[]⟩⟩,s)
  else if k=2 then(if s.length<8 then none else some (⟨1,(oi (s.take 8):Int)-9223372036854775808,⟨#[]⟩⟩,s.drop 8))
  else if k=3 then(if s.all (·!=0)then none else if 40<(s.takeWhile (·!=0)).length then none else some (⟨2,0,⟨(s.takeWhile (·!=0)).toArray⟩⟩,s.drop ((s.takeWhile (·!=0)).length+1)))
  else none
def ue:Nat->List UInt8->Option (List dl)
 |0,[]=>some []
 |0,_::_=>none
 |_+1,[]=>some []
 |n+1,c::s=>match fN (c::s)with
  |none=>none
  |some (v,r)=>(ue n r).map (v::·)
def fU(l:List UInt8):Option (List dl):=ue l.length l
theorem CX{l r:List UInt8}{v:dl}(h:fN l=some (v,r)):r.length<l.length:=by
 cases l with
 |nil=>cases h
 |cons k s=>
  rw[fN]at h;by_cases q:k=1
  ·rw[if_pos q]at h;simp only[bW,da]at h;rw[<-h.2];simp
  rw[if_neg q]at h;by_cases y:k=2
  ·rw[if_pos y]at h;by_cases b:s.length<8
   ·rw[if_pos b]at h;cases h
   rw[if_neg b]at h;simp only[bW,da]at h;rw[<-h.2];simp;omega
  rw[if_neg y]at h;by_cases b:k=3
  ·rw[if_pos b]at h;by_cases z:s.all (·!=0)=true
   ·rw[if_pos z]at h;cases h
   rw[if_neg z]at h;by_cases B:40<(s.takeWhile (·!=0)).length
   ·rw[if_pos B]at h;cases h
   rw[if_neg B]at h;simp only[bW,da]at h;rw[<-h.2];simp;omega
  rw[if_neg b]at h;cases h
theorem QN:∀(n m:Nat) (l:List UInt8),l.length<=n->l.length<=m->ue n l=ue m l:=by
 intro n
 induction n with
 |zero=>
  intro m l hn _;have:l=[]:=bA (by omega);subst this;cases m<;>rfl
 |succ n y=>
  intro m l hn q;cases l with
  |nil=>cases m<;>rfl
  |cons c s=>
   cases m with
   |zero=>simp at q
   |succ m=>
    simp only[ue];cases z:fN (c::s)with
    |none=>rfl
    |some p=>
     obtain⟨v,r⟩:=p;have b:=CX z;simp only[aQ]at b hn q;simp only;rw[y m r (by omega) (by omega)]
theorem KW(c:UInt8)(s:List UInt8)(h:fN (c::s)=none):fU (c::s)=none:=by
 unfold fU;simp only[aQ,ue,h]
theorem AE(c:UInt8)(s r:List UInt8)(v:dl)(h:fN (c::s)=some (v,r)):fU (c::s)=(fU r).map (v::·):=by
 have b:=CX h;simp only[aQ]at b;unfold fU;simp only[aQ,ue,h];rw[QN s.length r.length r (by omega) (dT _)]
theorem AF(l:List UInt8):eY l [0]=if l.all (·!=0)then-1 else((l.takeWhile (·!=0)).length:Int):=by
 induction l with
 |nil=>rfl
 |cons b l s=>
  rw[eY];by_cases q:b=0
  ·subst q;simp
  have y:[(0:UInt8)].isPrefixOf (b::l)=false:=by
   simp[List.isPrefixOf];exact fun h=>q h.symm
  rw[y,s];have z:(b !=0)=true:=by simpa using q
  simp only[bj,z,Bool.true_and,bF];by_cases ha:l.all (·!=0)=true
  ·simp[ha]
  simp only[ha];simp
theorem QO(l:List UInt8)(h:l.all (·!=0)=true):cK l [0]=(l,[],false):=by
 unfold cK;rw[AF,if_pos h,if_neg (by decide)]
theorem QP(l:List UInt8)(h:l.all (·!=0)=false):cK l [0]=(l.takeWhile (·!=0),l.drop ((l.takeWhile (·!=0)).length+1),true):=by
 unfold cK;rw[AF,h];simp only[Bool.false_eq_true,if_false];rw[if_pos (by omega),Int.toNat_natCast]
 congr 1
 exact(List.prefix_iff_eq_take.1 (cs _)).symm
theorem Vl(l:List UInt8):(l.takeWhile (·!=0)).all (·!=0)=true:=by
 induction l with
 |nil=>rfl
 |cons b l q=>
  rw[bF]
  split
  ·rename_i h;rw[bj,q,h];rfl
  rfl
end
section
open Go Go.RowKit
def mR(w:aU)(b q:Nat)(xs:List dl):Prop:=
 ∀i (h:i<xs.length),w.cell? ⟨b,q+i*3,none⟩=some (.int .i64 xs[i].kind)/\w.cell? ⟨b,q+i*3+1,none⟩=some (.int .i64 xs[i].num)/\w.cell? ⟨b,q+i*3+2,none⟩=some (.string xs[i].text)
theorem mR.gr{w w':aU}{b q:Nat}{xs:List dl}(h:mR w b q xs)(g:Gr w w'):mR w' b q xs:=
 fun i hi=>⟨g.keeps (h i hi).1,g.keeps (h i hi).2.1,g.keeps (h i hi).2.2⟩
def I0:List dl->List dl->Int
 |[],[]=>0
 |[],_::_=>-1
 |_::_,[]=>1
 |a::x,b::y=>if rl a b=0 then I0 x y else rl a b
end
section
open Go
def uh(m:Nat):List UInt8:=[(m/72057594037927936).toUInt8,(m/281474976710656).toUInt8,(m/1099511627776).toUInt8,(m/4294967296).toUInt8,(m/16777216).toUInt8,(m/65536).toUInt8,(m/256).toUInt8,(m/1).toUInt8]
theorem h_(m:Nat):(uh m).length=8:=rfl
def fX(v:dl):List UInt8:=if v.kind=1 then 2::uh (v.num+9223372036854775808).toNat else if v.kind=2 then 3::(v.text.data.toList++[0])else[1]
def eK(xs:List dl):List UInt8:=xs.flatMap fX
def fO:List dl->Option Nat
 |[]=>none
 |v::xs=>if fb v then(fO xs).map (·+1)else some 0
theorem I1(v:dl)(h:fb v=true):v.kind=0\/v.kind=1\/v.kind=2:=by
 unfold fb at h;simp only[dZ,a4,beq_iff_eq]at h;omega
def jK(v:dl):Prop:=fb v=true/\-9223372036854775808<=v.num/\v.num<=9223372036854775807
theorem Gp{s:ByteArray}(h:s.data.toList=[]):s=⟨#[]⟩:=by
 cases s;simp only[eV];exact Array.ext' h
theorem qs(v:dl)(h:jK v):v=⟨0,0,⟨#[]⟩⟩\/(∃n:Int,v=⟨1,n,⟨#[]⟩⟩/\-9223372036854775808<=n/\n<=9223372036854775807)\/(∃s:ByteArray,v=⟨2,0,s⟩/\s.data.toList.all (·!=0)=true/\s.data.toList.length<=40):=by
 obtain⟨k,n,s⟩:=v;obtain⟨h,b,q⟩:=h;unfold fb at h;simp only[dZ,a4,beq_iff_eq,decide_eq_true_eq,List.isEmpty_iff]at h;rcases h with(⟨⟨rfl,rfl⟩,h⟩|⟨rfl,h⟩)|⟨⟨⟨rfl,rfl⟩,h⟩,y⟩
 ·left;rw[Gp h]
 ·right;left;exact⟨n,by rw[Gp h],b,q⟩
 right;right;exact⟨s,rfl,y,h⟩
theorem CY(m:Nat)(h:m<18446744073709551616):oi (uh m)=m:=by
 unfold oi uh;simp only[cl,List.foldl_nil,Nat.toUInt8,UInt8.toNat_ofNat'];omega
theorem BG(x rest:List UInt8)(h:x.all (·!=0)=true):(x++0::rest).takeWhile (·!=0)=x:=by
 induction x with
 |nil=>rfl
 |cons c x b=>
  simp only[bj,a4]at h;rw[ap,bF,if_pos h.1,b h.2]
theorem Ng(v:dl)(rest:List UInt8)(h:jK v):fN (fX v++rest)=some (v,rest):=by
 rcases qs v h with rfl|⟨n,rfl,y,z⟩|⟨s,rfl,q,B⟩
 ·rfl
 ·have b:fX ⟨1,n,⟨#[]⟩⟩=2::uh (n+9223372036854775808).toNat:=rfl;rw[b,ap,fN,if_neg (by decide),if_pos rfl,if_neg (by rw[aJ,h_];omega),
   List.take_append_of_le_length (by rw[h_];omega),bc (by rw[h_];omega),CY _ (by omega),bB (by rw[h_];omega),
   cg (by rw[h_];omega),ea]
  have e:(((n+9223372036854775808).toNat:Nat):Int)-9223372036854775808=n:=by omega
  rw[e]
 have b:fX ⟨2,0,s⟩=3::(s.data.toList++[0]):=rfl;have ha:((s.data.toList++[0])++rest).all (·!=0)=false:=by simp
 have hw:((s.data.toList++[0])++rest).takeWhile (·!=0)=s.data.toList:=by
  rw[aS];exact BG _ _ q
 rw[b,ap,fN,if_neg (by decide),if_neg (by decide),if_pos rfl,if_neg (by rw[ha];decide),hw,if_neg (by omega)];have hd:((s.data.toList++[0])++rest).drop (s.data.toList.length+1)=rest:=by
  rw[bB (by simp),cg (by simp),ea]
 rw[hd]
theorem wV(v:dl):∃c l,fX v=c::l:=by
 unfold fX
 split
 ·exact⟨_,_,rfl⟩
 split
 ·exact⟨_,_,rfl⟩
 exact⟨_,_,rfl⟩
theorem zw(xs:List dl)(h:∀v∈xs,jK v):fU (eK xs)=some xs:=by
 induction xs with
 |nil=>rfl
 |cons v xs q=>
  have hv:=h v bu;have b:=Ng v (eK xs) hv;have e:eK (v::xs)=fX v++eK xs:=rfl;obtain⟨c,l,hc⟩:=wV v;rw[hc,ap]at b;rw[e,hc,ap,AE _ _ _ _ b,q (fun u hu=>h u (bh _ hu))]
  rfl
theorem zx(c:UInt8)(l:List UInt8):oi (c::l)=c.toNat*256^l.length+oi l:=by
 have:∀(l:List UInt8) (n:Nat),l.foldl (fun n c=>n*256+c.toNat) n=n*256^l.length+oi l:=by
  intro l
  induction l with
  |nil=>intro n;simp[oi]
  |cons d l b=>
   intro n;rw[cl,b,aQ,de,show oi (d::l)=l.foldl (fun n c=>n*256+c.toNat) (0*256+d.toNat)from rfl,b];simp only[ew,ez];rw[cD,en];omega
 have h:=this l c.toNat;show l.foldl (fun n c=>n*256+c.toNat) (0*256+c.toNat)=_;rw[ew,ez];exact h
theorem CZ(l:List UInt8):oi l<256^l.length:=by
 induction l with
 |nil=>simp[oi]
 |cons c l b=>
  rw[zx,aQ,de];have hc:=bP c;have:(c.toNat+1)*256^l.length<=256*256^l.length:=aV _ (by omega);rw[cD]at this;omega
theorem Nh:∀(a b s t:List UInt8),a.length=b.length->ak (a++s) (b++t)=if oi a<oi b then-1 else if oi b<oi a then 1 else ak s t:=by
 intro a
 induction a with
 |nil=>
  intro b s t h;have:b=[]:=bA h.symm;subst this;simp[oi]
 |cons x a D=>
  intro b s t h;cases b with
  |nil=>simp at h
  |cons y b=>
   have B:a.length=b.length:=by simpa using h
   simp only[ap,ak];have H:=CZ a;have G:=CZ b;rw[zx,zx,<-B];rw[<-B]at G;by_cases q:x<y
   ·have hn:x.toNat+1<=y.toNat:=be.1 q;have:=aV (256^a.length) hn;rw[cD]at this;rw[if_pos q,if_pos (by omega)]
   rw[if_neg q];by_cases z:y<x
   ·have hn:y.toNat+1<=x.toNat:=be.1 z;have:=aV (256^a.length) hn;rw[cD]at this;rw[if_pos z,if_neg (by omega),if_pos (by omega)]
   have e:x=y:=UInt8.le_antisymm (eA.1 z) (eA.1 q);subst e;rw[if_neg z,D b s t B];simp only[Nat.add_lt_add_iff_left]
theorem QQ:∀(x y s t:List UInt8),x.all (·!=0)=true->y.all (·!=0)=true->ak (x++0::s) (y++0::t)=if ak x y=0 then ak s t else ak x y:=by
 intro x
 induction x with
 |nil=>
  intro y s t _ b;cases y with
  |nil=>simp[ak]
  |cons c y=>
   simp only[bj,a4,bne_iff_ne]at b;have:(0:UInt8)<c:=by
    rw[be];have:c.toNat≠0:=fun h=>b.1 (eb.1 (by simpa using h));simp;omega
   simp[ak,this]
 |cons d x D=>
  intro y s t z b;simp only[bj,a4,bne_iff_ne]at z;cases y with
  |nil=>
   have:(0:UInt8)<d:=by
    rw[be];have:d.toNat≠0:=fun h=>z.1 (eb.1 (by simpa using h));simp;omega
   have q:¬d<0:=fun h=>eh _ (ej h this);simp[ak,this,q]
  |cons c y=>
   simp only[bj,a4,bne_iff_ne]at b;simp only[ap,ak];by_cases B:d<c
   ·simp[B]
   by_cases q:c<d
   ·simp[B,q]
   simp only[B,q,if_false];exact D y s t z.2 b.2
theorem Tt(v u:dl)(s t:List UInt8)(hv:jK v)(hu:jK u):ak (fX v++s) (fX u++t)=if rl v u=0 then ak s t else rl v u:=by
 have B:∀n,fX ⟨1,n,⟨#[]⟩⟩=2::uh (n+9223372036854775808).toNat:=fun _=>rfl;have D:∀s,fX ⟨2,0,s⟩=3::(s.data.toList++[0]):=fun _=>rfl;have G:fX ⟨0,0,⟨#[]⟩⟩=[1]:=rfl;have O:ak=ak:=rfl;have step:∀(c:UInt8) (a b:List UInt8),ak (c::a) (c::b)=ak a b:=fun c a b=>by simp[ak]
 have q:∀(c d:UInt8) (a b:List UInt8),c<d->ak (c::a) (d::b)=-1:=fun c d a b h=>by simp[ak,h]
 have z:∀(c d:UInt8) (a b:List UInt8),d<c->ak (c::a) (d::b)=1:=fun c d a b h=>by
  have:¬c<d:=fun H=>eh _ (ej h H);simp[ak,h,this]
 rcases qs v hv with rfl|⟨n,rfl,Q,H⟩|⟨x,rfl,L,_⟩<;>rcases qs u hu with rfl|⟨m,rfl,g1,g2⟩|⟨y,rfl,M,_⟩
 ·rw[G];simp[step,rl,ak]
 ·rw[G,B,ap,ap,q _ _ _ _ (by decide)];rfl
 ·rw[G,D,ap,ap,q _ _ _ _ (by decide)];rfl
 ·rw[G,B,ap,ap,z _ _ _ _ (by decide)];rfl
 ·rw[B,B,ap,ap,step,Nh (uh (n+9223372036854775808).toNat) (uh (m+9223372036854775808).toNat) _ _ (by rw[h_,h_]),CY _ (by omega),CY _ (by omega)];have hc:rl ⟨1,n,⟨#[]⟩⟩ ⟨1,m,⟨#[]⟩⟩=if n<m then-1 else if m<n then 1 else 0:=by
   unfold rl;simp[ak]
  rw[hc];by_cases I:n<m
  ·rw[if_pos (by omega),if_pos I];rfl
  rw[if_neg (by omega),if_neg I];by_cases J:m<n
  ·rw[if_pos (by omega),if_pos J];rfl
  rw[if_neg (by omega),if_neg J];rfl
 ·rw[B,D,ap,ap,q _ _ _ _ (by decide)];rfl
 ·rw[G,D,ap,ap,z _ _ _ _ (by decide)];rfl
 ·rw[B,D,ap,ap,z _ _ _ _ (by decide)];rfl
 rw[D,D,ap,ap,step,aS,aS];have hc:rl ⟨2,0,x⟩ ⟨2,0,y⟩=ak x.data.toList y.data.toList:=by
  unfold rl;simp
 rw[hc];exact QQ _ _ _ _ L M
theorem Ni:∀(a b:List dl),(∀v∈a,jK v)->(∀v∈b,jK v)->ak (eK a) (eK b)=I0 a b:=by
 intro a
 induction a with
 |nil=>
  intro b _ _;cases b with
  |nil=>rfl
  |cons u b=>
   obtain⟨c,l,hc⟩:=wV u;rw[show eK (u::b)=fX u++eK b from rfl,hc]
   rfl
 |cons v a y=>
  intro b ha s;cases b with
  |nil=>
   obtain⟨c,l,hc⟩:=wV v;rw[show eK (v::a)=fX v++eK a from rfl,hc]
   rfl
  |cons u b=>
   rw[show eK (v::a)=fX v++eK a from rfl,show eK (u::b)=fX u++eK b from rfl,Tt v u _ _ (ha v bu) (s u bu),
    y b (fun x q=>ha x (bh _ q)) (fun x q=>s x (bh _ q))]
   rfl
end
section
open Go Go.RowKit
theorem Nr{a0 b:aU}{v4:dU}{l:List UInt8}{m k:Nat}{q:Int}{c:UInt8}(hc:(uh m)[k]?=some c)(s:q=(c.toNat:Int))
  (h:b.ownsRow a0.heap.size 5 1 v4 ((l++(uh m).take k).length+1) ((l++(uh m).take k).map me++[.int .u8 q])):eW a0 b v4 (l++(uh m).take (k+1)):=by
 obtain⟨y,z⟩:=List.getElem?_eq_some_iff.1 hc;have e:l++(uh m).take (k+1)=(l++(uh m).take k)++[c]:=by rw[aX y,z,aS]
 unfold eW;rw[e,aJ,co];have B:[c].map me=[b_ .u8 q]:=by rw[s];rfl
 rw[B];exact h
theorem Xb(a0 w:aU)(v:dU)(l:List UInt8)(n:Int)(hn:-9223372036854775808<=n/\n<=9223372036854775807)(hl:l.length<=100000000000)(y:Gr a0 w)(b:eW a0 w v l):
  dS prog 115 #[v,.int .i64 n] w fun e q=>∃O,e=.returned O/\eW a0 q O (l++uh (n+9223372036854775808).toNat)/\Gr a0 q:=by
 obtain⟨V,hi,H,I,J⟩:=ek xI;go_enter func115,ntmps115;go_wp2_with fail
 have z:=P_ n hn.1 hn.2;rw[z];clear z;have Q:(n+9223372036854775808).toNat<18446744073709551616:=by omega
 generalize B:(n+9223372036854775808).toNat=m at*;have L:=az B;clear B;have Y:Hid (∃k:Nat,k<=8/\(7:Int)=7-(k:Int)/\eW a0 w v (l++(uh m).take k)):=az ⟨0,by omega,by omega,by simpa using b⟩;clear b;have HM:=az Q;clear Q;go_loopw [6,0] (fun i u q=>∃k:Nat,k<=8/\i=.int .i64 (7-(k:Int))/\Gr a0 q/\eW a0 q u (l++(uh m).take k)) (fun i _ _=>(intOf i+1).toNat)
 case atStart=>
  obtain⟨k,S,Z,b⟩:=Y.out;exact⟨k,S,by rw[<-Z],y,b⟩
 case round=>
  obtain⟨k,S,rfl,y,b⟩:=hrel;have D:=az b;clear b;have G:k=0\/k=1\/k=2\/k=3\/k=4\/k=5\/k=6\/k=7\/k=8:=by omega
  rcases G with rfl|rfl|rfl|rfl|rfl|rfl|rfl|rfl|rfl
  all_goals try clear G
  rotate_right
  ·go_wp2_with fail
   go_ret;refine⟨_,rfl,?_,y⟩;have U:=D.out;rw[bc (by rw[h_];omega),<-L.out]at U;exact U
  all_goals
   go_wp2_with(at_builtin;(refine bK (a0:=a0) rfl _ _ 188 rfl 5 V (.int .u8 0) 1 1 underlying188 hi H I J rfl (by decide) _ _ _ rfl (eW.row D.out) [_] rfl (by simp;rfl) rfl y (by simp;omega) (by simp;omega) ?_);intro v4 w4 s M)
   refine⟨⟨_+1,?_,?_,M,Nr rfl ?_ s⟩,?_⟩
  all_goals first|omega|(simp[intOf];done)|exact U3 m _|(simp;done)
def yg(w:aU)(xs:List dl)(e:fl)(w':aU):Prop:=
 match fO xs with
 |none=>e=.returned (.tuple #[.string ⟨(eK xs).toArray⟩,.nilIface])/\Gr w w'
 |some i=>∃b,e=.returned (.tuple #[.string ⟨#[]⟩,.iface 190 (.pointer (some ⟨b,0,none⟩))])/\w.heap.size<=b/\w'.cell? ⟨b,0,none⟩=some (.int .i64 1)/\w'.cell? ⟨b,1,none⟩=some (.int .i64 (i:Int))/\Gr w w'
theorem I3(xs:List dl)(j:Nat)(h:j<xs.length)(b:fO (xs.take j)=none)(q:fb xs[j]=false):fO xs=some j:=by
 induction xs generalizing j with
 |nil=>simp at h
 |cons v xs s=>
  cases j with
  |zero=>
   simp only[ch]at q;rw[fO,if_neg (by rw[q];decide)]
  |succ j=>
   rw[cL,fO]at b;by_cases hv:fb v=true
   ·rw[if_pos hv]at b;rw[fO,if_pos hv,s j (by simpa using h) (by simpa using b) (by simpa using q)]
    rfl
   rw[if_neg hv]at b;cases b
theorem Dd(xs:List dl)(j:Nat)(h:j<xs.length)(b:fO (xs.take j)=none)(q:fb xs[j]=true):fO (xs.take (j+1))=none:=by
 induction xs generalizing j with
 |nil=>simp at h
 |cons v xs s=>
  cases j with
  |zero=>
   simp only[ch]at q;simp[fO,q]
  |succ j=>
   rw[cL,fO]at b⊢;by_cases hv:fb v=true
   ·rw[if_pos hv]at b⊢;rw[s j (by simpa using h) (by simpa using b) (by simpa using q)]
    rfl
   rw[if_neg hv]at b;cases b
theorem Ns(xs:List dl)(j:Nat)(h:j<xs.length):eK (xs.take (j+1))=eK (xs.take j)++fX xs[j]:=by
 unfold eK;rw[aX h,cO];simp
theorem QV(xs:List dl)(j:Nat)(h:∀i (hi:i<xs.length),xs[i].text.size<=1000000):(eK (xs.take j)).length<=xs.length*1000009:=by
 have:∀(l:List dl),(∀v∈l,v.text.size<=1000000)->(eK l).length<=l.length*1000009:=by
  intro l
  induction l with
  |nil=>intro _;simp[eK]
  |cons v l s=>
   intro hv;have b:=s (fun u hu=>hv u (bh _ hu));have q:=hv v bu;have z:(fX v).length<=1000009:=by
    unfold fX;have y:=q;rw[size_data]at y
    split
    ·simp[h_]
    split<;>simp<;>omega
   unfold eK at b⊢;rw[bX,aJ,aQ];omega
 have b:=this (xs.take j) (fun v hv=>by
  obtain⟨i,hi,rfl⟩:=List.getElem_of_mem (List.mem_of_mem_take hv);exact h i hi)
 have q:(xs.take j).length<=xs.length:=List.length_take_le' _ _;exact di b (aV 1000009 q)
theorem Xc(xs:List dl)(b b7 c:Nat)(ao:Option Addr)(b8:0<xs.length->ao=some ⟨b,b7,none⟩)(hl:xs.length<=1000)(hr:∀i (h:i<xs.length),(-9223372036854775808<=xs[i].num/\xs[i].num<=9223372036854775807)/\xs[i].text.size<=1000000)(w:aU)(hc:mR w b b7 xs):
  dS prog 63 #[.slice ao xs.length c] w (yg w xs):=by
 obtain⟨i0,hi,L,M,O⟩:=ek xI;have HC:=az hc;have HA:=az b8;have HR:=az hr;clear hc b8 hr;go_enter func63,ntmps63;go_wp2_with fail
 go_loopw [9,4] (fun i u w'=>∃j:Nat,j<=xs.length/\i=.int .i64 j/\Gr w w'/\fO (xs.take j)=none/\eW w w' u (eK (xs.take j))) (fun i _ _=>xs.length-(intOf i).toNat)
 case atStart=>exact⟨0,Nat.zero_le _,rfl,Gr.refl _,rfl,⟨rfl,.inl ⟨rfl,rfl⟩⟩⟩
 case round=>
  obtain⟨j,hj,rfl,hg,D,ho⟩:=hrel;have HO:=az ho;have HF:=az D;clear ho D;by_cases G:j<xs.length
  ·obtain rfl:=HA.out (by omega);have hv:=HC.out.gr hg j G;obtain⟨c0,c1,c2⟩:=hv;have c8:=(HR.out j G).2;generalize b9:xs[j]=x at*;have HX:=az b9;clear b9;cases H:fb x
   ·have HB:=az H;clear H;go_wp2_with(go_at_call 114;refine(ni x (by omega) _).mono ?_;rintro e w1 ⟨rfl,q⟩;rw[HB.out])
    have D:=I3 xs j G HF.out (by rw[HX.out];exact HB.out);refine bv (v:=.tuple #[.string ⟨#[]⟩,.iface 190 (.pointer (some ⟨w1.heap.size,0,none⟩))]) (by simp[dr,el,go_sem]) rfl ?_;unfold yg;rw[D];have B:=(hg.alloc _).trans q;exact⟨_,rfl,B.size,by rw[ae];rfl,by rw[ae];rfl,B.alloc _⟩
   have HB:=az H;have c5:=I1 x H;have a7:=az (Dd xs j G HF.out (by rw[HX.out];exact H));have a8:=Ns xs j G;rw[HX.out]at a8;have a9:=az a8;have g3:=QV xs j (fun i h=>(HR.out i h).2);have z:¬u4.ownBlock=some wr.heap.size:=fun h=>dg _ (bd (eW.row HO.out) _ h);have b0:=(HR.out j G).1;rw[HX.out]at b0;have I:x.text.size<=9223372036854775807:=by omega
   clear H a8;obtain⟨kx,nx,V⟩:=x;simp only at c0 c1 c2 c8 c5 b0 I;rcases c5 with rfl|rfl|rfl
   ·go_wp2_with fail
    refine(ni ⟨0,nx,V⟩ I _).mono ?_;rintro e w1 ⟨rfl,q⟩;rw[HB.out];have Y:=q.keeps (b:=wr.heap.size) (o:=0) (v:=.int .i64 0) (by rw[ae];rfl);have Z:=q.keeps (b:=wr.heap.size) (o:=1) (v:=.int .i64 nx) (by rw[ae];rfl);have k2:=q.keeps (b:=wr.heap.size) (o:=2) (v:=.string V) (by rw[ae];rfl);have Q:=q.size;have S:=aF (eW.row HO.out) (((Gr.refl _).alloc _).trans q);have B:=(hg.alloc _).trans q;simp only[bz]at Q;go_wp2_with(first|(at_builtin;refine nX (a0:=w) rfl _ _ 188 rfl 5 i0 (.int .u8 0) 1 1 underlying188 hi L M O rfl (by decide) _ _ _ rfl S [_] rfl (by simp;rfl) rfl B (by omega) (by omega) ?_;intro v3 w3 s U y;have m0:=(y wr.heap.size 0 (by omega) z).1.trans Y;have m1:=(y wr.heap.size 1 (by omega) z).1.trans Z;have m2:=(y wr.heap.size 2 (by omega) z).1.trans k2;clear Y Z k2;have H3:Hid (eW w w3 v3 (eK (xs.take j)++[1])):=az (oC s);clear s;have J:Hid ((eK (xs.take j)++[(1:UInt8)]).length=(eK (xs.take j)).length+1):=az (by rw[aJ];rfl)))
    refine⟨⟨j+1,by omega,by go_num,U,a7.out,?_⟩,by simp[intOf];omega⟩;rw[a9.out];exact H3.out
   ·go_wp2_with fail
    refine(ni ⟨1,nx,V⟩ I _).mono ?_;rintro e w1 ⟨rfl,q⟩;rw[HB.out];have Y:=q.keeps (b:=wr.heap.size) (o:=0) (v:=.int .i64 1) (by rw[ae];rfl);have Z:=q.keeps (b:=wr.heap.size) (o:=1) (v:=.int .i64 nx) (by rw[ae];rfl);have k2:=q.keeps (b:=wr.heap.size) (o:=2) (v:=.string V) (by rw[ae];rfl);have Q:=q.size;have S:=aF (eW.row HO.out) (((Gr.refl _).alloc _).trans q);have B:=(hg.alloc _).trans q;simp only[bz]at Q;go_wp2_with(first|(at_builtin;refine nX (a0:=w) rfl _ _ 188 rfl 5 i0 (.int .u8 0) 1 1 underlying188 hi L M O rfl (by decide) _ _ _ rfl S [_] rfl (by simp;rfl) rfl B (by omega) (by omega) ?_;intro v3 w3 s U y;have m0:=(y wr.heap.size 0 (by omega) z).1.trans Y;have m1:=(y wr.heap.size 1 (by omega) z).1.trans Z;have m2:=(y wr.heap.size 2 (by omega) z).1.trans k2;clear Y Z k2;have H3:Hid (eW w w3 v3 (eK (xs.take j)++[2])):=az (oC s);clear s;have J:Hid ((eK (xs.take j)++[(2:UInt8)]).length=(eK (xs.take j)).length+1):=az (by rw[aJ];rfl))|(go_at_call 115;refine(Xb w w3 v3 _ nx b0 (by rw[J.out];omega) U H3.out).mono ?_;rintro e w4 ⟨v4,rfl,c6,b1⟩;have H4:=az c6;clear c6))
    refine⟨⟨j+1,by omega,by go_num,b1,a7.out,?_⟩,by simp[intOf];omega⟩;rw[a9.out];have h4:=H4.out;rw[aS]at h4;exact h4
   go_wp2_with fail
   refine(ni ⟨2,nx,V⟩ I _).mono ?_;rintro e w1 ⟨rfl,q⟩;rw[HB.out];have Y:=q.keeps (b:=wr.heap.size) (o:=0) (v:=.int .i64 2) (by rw[ae];rfl);have Z:=q.keeps (b:=wr.heap.size) (o:=1) (v:=.int .i64 nx) (by rw[ae];rfl);have k2:=q.keeps (b:=wr.heap.size) (o:=2) (v:=.string V) (by rw[ae];rfl);have Q:=q.size;have S:=aF (eW.row HO.out) (((Gr.refl _).alloc _).trans q);have B:=(hg.alloc _).trans q;simp only[bz]at Q;go_wp2_with(first|(at_builtin;refine nX (a0:=w) rfl _ _ 188 rfl 5 i0 (.int .u8 0) 1 1 underlying188 hi L M O rfl (by decide) _ _ _ rfl S [_] rfl (by simp;rfl) rfl B (by omega) (by omega) ?_;intro v3 w3 s U y;have m0:=(y wr.heap.size 0 (by omega) z).1.trans Y;have m1:=(y wr.heap.size 1 (by omega) z).1.trans Z;have m2:=(y wr.heap.size 2 (by omega) z).1.trans k2;clear Y Z k2;have H3:Hid (eW w w3 v3 (eK (xs.take j)++[3])):=az (oC s);clear s;have J:Hid ((eK (xs.take j)++[(3:UInt8)]).length=(eK (xs.take j)).length+1):=az (by rw[aJ];rfl))|(at_builtin;refine H8 (a0:=w) rfl _ _ 188 9 rfl 5 i0 underlying188 underlying9 hi L M O _ _ _ rfl (eW.row H3.out) V rfl U (by rw[J.out];omega) ?_;intro v4 w4 b5 b1 d9)|(at_builtin;refine nX (a0:=w) rfl _ _ 188 rfl 5 i0 (.int .u8 0) 1 1 underlying188 hi L M O rfl (by decide) _ _ _ rfl b5 [_] rfl (by simp;rfl) rfl b1 (by rw[J.out];omega) (by rw[J.out];omega) ?_;intro v5 w5 b6 c9 e0))
   refine⟨⟨j+1,by omega,by go_num,c9,a7.out,?_⟩,by simp[intOf];omega⟩;rw[a9.out];have h5:eW w w5 v5 ((eK (xs.take j)++[3])++V.data.toList++[0]):=by
    unfold eW;rw[aJ,co,aJ,co,<-size_data];exact b6
   rw[aS,aS]at h5;exact h5
  have g4:=pY HO.out;go_wp2_with fail
  refine bv (v:=.tuple #[.string ⟨(eK (xs.take j)).toArray⟩,.nilIface]) (by simp[dr,el,go_sem]) rfl ?_;have e:xs.take j=xs:=bc (by omega);have D:=HF.out;rw[e]at D;rw[e];unfold yg;rw[D];exact⟨rfl,hg⟩
def tf(a0 w:aU)(v:dU)(xs:List dl):Prop:=w.ownsRow a0.heap.size 132 3 v xs.length (xs.flatMap fun x=>[.int .i64 x.kind,.int .i64 x.num,.string x.text])
def li(w:aU)(l:List UInt8)(e:fl)(w':aU):Prop:=
 match fU l with
 |none=>e=.returned (.tuple #[.slice none 0 0,.iface 24 (.int .i64 3)])/\Gr w w'
 |some xs=>∃v,e=.returned (.tuple #[v,.nilIface])/\tf w w' v xs/\Gr w w'
theorem QW:(prog.info? 132).map (fun i=>(i.zero,i.size,i.bytes))=some (some (.agg #[.int .i64 0,.int .i64 0,.string ⟨#[]⟩]),3,32):=by kernel_rfl
def mA(w:aU):Prop:=∃m:Int,w.cell? ⟨2,0,none⟩=some (.int .i64 m)
theorem mA.gr{w w':aU}(h:mA w)(g:Gr w w'):mA w':=by
 obtain⟨m,h⟩:=h;exact⟨m,g.keeps h⟩
theorem nQ(s b:ByteArray)(w:aU)(hs:s.size<4294967281)(q:mA w):
  dS prog 118 #[.string s,.string b] w (ar w (.tuple #[.string ⟨(cK s.data.toList b.data.toList).1.toArray⟩,.string ⟨(cK s.data.toList b.data.toList).2.1.toArray⟩,.bool (cK s.data.toList b.data.toList).2.2])):=by
 obtain⟨m,q⟩:=q;refine(Tryz.strings_Cut s b m w hs q).mono ?_;rintro e y ⟨rfl,n,rfl⟩;exact⟨rfl,(Gr.refl w).drewN n⟩
theorem w_{a0 w:aU}{v:dU}{xs:List dl}{x:dl}(h:w.ownsRow a0.heap.size 132 3 v (xs.length+1) ((xs.flatMap fun x=>[.int .i64 x.kind,.int .i64 x.num,.string x.text])++[.int .i64 x.kind,.int .i64 x.num,.string x.text])):tf a0 w v (xs++[x]):=by
 unfold tf;rw[aJ,cO];simpa using h
theorem tf.row{a0 w:aU}{v:dU}{xs:List dl}(h:tf a0 w v xs):w.ownsRow a0.heap.size 132 3 v xs.length (xs.flatMap fun x=>[.int .i64 x.kind,.int .i64 x.num,.string x.text]):=h
theorem I4(x:List UInt8)(h:fb ⟨2,0,⟨x.toArray⟩⟩=true):¬40<x.length:=by
 unfold fb at h;simp at h;omega
theorem K8(x:List UInt8)(b:x.all (·!=0)=true)(h:fb ⟨2,0,⟨x.toArray⟩⟩=false):40<x.length:=by
 unfold fb at h;simp only[b]at h;simp at h;omega
theorem qI(a b:Int)(s:ByteArray):∀u∈[b_ .i64 a,b_ .i64 b,bM s],u.oneCell'=true:=by
 intro u hu;simp only[List.mem_cons,List.mem_nil_iff,or_false]at hu;rcases hu with rfl|rfl|rfl<;>rfl
theorem xb{l:List UInt8}{us:List dl}{k:UInt8}{s r:List UInt8}{v:dl}(h:fU l=(fU (k::s)).map (us++·))(b:fN (k::s)=some (v,r)):fU l=(fU r).map ((us++[v])++·):=by
 rw[h,AE _ _ _ _ b,Option.map_map]
 congr 1
 funext x
 simp
theorem vr{l:List UInt8}{us:List dl}{k:UInt8}{s:List UInt8}(h:fU l=(fU (k::s)).map (us++·))(b:fN (k::s)=none):fU l=none:=by
 rw[h,KW _ _ b];rfl
theorem Tz(U c:Nat)(q:U<72057594037927936)(hc:c<256):bits BinOp.or bZ ((U:Int)*256) (c:Int)=((U*256+c:Nat):Int):=by
 have e:((U:Int)*256)=((U*256:Nat):Int):=by omega
 rw[e];show bZ.wrap ((cj 64 ((U*256:Nat):Int)|||cj 64 (c:Int)).toNat:Int)=_;rw[BitVec.toNat_or,eU _ (by omega),eU _ (by omega),dF];have h:=Nat.two_pow_add_eq_or_of_lt (i:=8) (b:=c) hc U;rw[Nat.mul_comm]at h;rw[show(2:Nat)^8=256 from rfl]at h;rw[<-h];omega
theorem QX(M:Nat)(h:M<18446744073709551616):wrap64 (bits fe bZ (M:Int) 9223372036854775808)=(M:Int)-9223372036854775808:=by
 have q:bits fe bZ (M:Int) 9223372036854775808=bZ.wrap ((cj 64 (M:Int)^^^cj 64 ((9223372036854775808:Nat):Int)).toNat:Int):=rfl;rw[q,BitVec.toNat_xor,eU M h,eU _ (by omega),dF];have e:((M^^^9223372036854775808:Nat):Int)=if M<9223372036854775808 then(M:Int)+9223372036854775808 else(M:Int)-9223372036854775808:=by
  split
  ·rename_i b
   have:=xH M b;rw[dA,show(9223372036854775808:Nat)=2^63 from rfl,<-this];omega
  rename_i b
  obtain⟨y,rfl⟩:=Nat.exists_eq_add_of_le (Nat.le_of_not_lt b);have:=xH y (by omega);rw[show(9223372036854775808:Nat)=2^63 from rfl,this,dA (2^63) y,Nat.xor_assoc,Nat.xor_self,Nat.xor_zero];rw[dA,<-this];omega
 rw[e];unfold wrap64
 split<;>omega
theorem QY(R:ByteArray)(q:Nat)(h:q<R.size):oi (R.data.toList.take (q+1))=oi (R.data.toList.take q)*256+R[q].toNat:=by
 have b:q<R.data.toList.length:=by rw[<-size_data];exact h
 unfold oi;rw[aX b,List.foldl_append,bm R q h]
 rfl
theorem Pw(l:List UInt8):oi l<256^l.length:=by
 have:∀(l:List UInt8) (n:Nat),l.foldl (fun n c=>n*256+c.toNat) n<(n+1)*256^l.length:=by
  intro l
  induction l with
  |nil=>intro n;simp
  |cons c l b=>
   intro n;have q:=b (n*256+c.toNat);have s:=bP c;rw[cl,aQ,de];refine bt q ?_;rw[<-en];refine aV _ ?_;omega
 simpa[oi]using this l 0
def TA(w:aU)(l:List UInt8)(b:Nat)(x u:dU)(w':aU):Prop:=
 ∃(t:ByteArray) (us:List dl),x=.string t/\t.size+us.length<=b/\Gr w w'/\tf w w' u us/\fU l=(fU t.data.toList).map (us++·)
theorem Px(s:ByteArray)(hs:s.size<4294967281)(w:aU)(hm:mA w):dS prog 65 #[.string s] w (li w s.data.toList):=by
 obtain⟨i0,hi,a5,a6,a7⟩:=ek QW;have HM:=az hm;clear hm;go_enter func65,ntmps65;go_wp2_with fail
 go_loopw [0,4] (fun x u w'=>TA w s.data.toList s.size x u w') (fun x _ _=>lenOf x)
 case atStart=>exact⟨s,[],rfl,by simp,Gr.refl _,⟨rfl,.inl ⟨rfl,rfl⟩⟩,by simp⟩
 case round=>
  obtain⟨t,us,rfl,h0,S,ho,b5⟩:=hrel;have HO:=az ho;have HR:=az b5;clear ho b5;cases B:t.data.toList with
  |nil=>
   have hb:(!t.toList.isEmpty)=false:=by rw[bC,B];rfl
   have HT:=az B;clear B;go_wp2_with fail
   go_ret2;unfold li;rw[HR.out,HT.out];exact⟨_,rfl,by simpa[fU,ue]using HO.out,S⟩
  |cons k r=>
   have hb:(!t.toList.isEmpty)=true:=by rw[bC,B];rfl
   have d0:0<t.size:=by rw[size_data,B];simp
   have hk:=SM t k r B d0;obtain⟨R,rfl⟩:∃R:ByteArray,R.data.toList=r:=⟨⟨r.toArray⟩,rfl⟩;have b6:t.size=R.size+1:=by rw[size_data,B,size_data];rfl
   have hx:t.extract 1 (R.size+1)=R:=by rw[<-b6,Qa t k _ B]
   have I:Hid (fU s.data.toList=(fU (k::R.data.toList)).map (us++·)):=az (by rw[HR.out,B]);have h4:=bP k;have a8:=az b6;have h5:us.length+R.size+1<=s.size:=by omega
   clear B HR;have d3:k=1\/k=2\/k=3\/(k≠1/\k≠2/\k≠3):=by
    by_cases h1:k=1
    ·exact .inl h1
    by_cases h2:k=2
    ·exact .inr (.inl h2)
    by_cases h3:k=3
    ·exact .inr (.inr (.inl h3))
    exact .inr (.inr (.inr ⟨h1,h2,h3⟩))
   rcases d3 with rfl|rfl|rfl|⟨h1,h2,h3⟩
   ·go_wp2_with fail
    refine(ni ⟨0,0,⟨#[]⟩⟩ (by decide) _).mono ?_;rintro e w1 ⟨rfl,y⟩;rw[show fb ⟨0,0,⟨#[]⟩⟩=true from rfl];have k0:=y.keeps (b:=wr.heap.size) (o:=0) (v:=.int .i64 0) (by rw[ae];rfl);have k1:=y.keeps (b:=wr.heap.size) (o:=1) (v:=.int .i64 0) (by rw[ae];rfl);have k2:=y.keeps (b:=wr.heap.size) (o:=2) (v:=.string ⟨#[]⟩) (by rw[ae];rfl);have J:=aF (tf.row HO.out) (((Gr.refl _).alloc _).trans y);have L:=(S.alloc _).trans y;go_wp2_with(at_builtin;refine bK (a0:=w) rfl _ _ 133 rfl 132 i0 (.agg #[.int .i64 0,.int .i64 0,.string ⟨#[]⟩]) 3 32 dh hi a5 a6 a7 rfl (by decide) _ _ _ rfl J [_,_,_] rfl (qI _ _ _) rfl L (by omega) (by omega) ?_;intro v4 w4 D V)
    exact⟨⟨R,us++[⟨0,0,⟨#[]⟩⟩],rfl,by rw[aJ];simp;omega,V,w_ D,xb I.out rfl⟩,by show R.size<t.size;rw[a8.out];omega⟩
   ·by_cases h8:R.size<8
    ·go_wp2_with fail
     refine bv (v:=.tuple #[.slice none 0 0,.iface 24 (.int .i64 3)]) (by simp[dr,bQ,go_sem]) rfl ?_;unfold li;rw[vr I.out (by rw[fN,if_neg (by decide),if_pos rfl,if_pos (by rw[<-size_data];exact h8)])];exact⟨rfl,S.alloc _⟩
    go_wp2_with fail
    go_loop [31,6] (fun i u=>∃q:Nat,q<=8/\i=.int .i64 q/\u=.int .u64 (oi (R.data.toList.take q))) (fun i _=>8-(intOf i).toNat)
    case atStart=>exact⟨0,by omega,rfl,rfl⟩
    case round=>
     obtain⟨q,hq,rfl,rfl⟩:=hrel;by_cases h6:q<8
     ·have d4:q<R.size:=by omega
      have Y:=Pw (R.data.toList.take q);have c3:=QY R q d4;generalize oi (R.data.toList.take q)=U at*;have d5:=az c3;clear c3;have d6:=bP R[q];have hU:U<72057594037927936:=bt Y (by
       rw[show(72057594037927936:Nat)=256^7 from rfl];exact cF (by omega) (by rw[dJ];omega))
      clear Y;go_wp2_with fail
      refine⟨⟨q+1,by omega,by go_num,?_⟩,by simp[intOf];omega⟩;rw[d5.out,Tz U R[q].toNat hU d6]
     obtain rfl:q=8:=by omega
     have Y:=Pw (R.data.toList.take 8);have hM:oi (R.data.toList.take 8)<18446744073709551616:=bt Y (by
      rw[show(18446744073709551616:Nat)=256^8 from rfl];exact cF (by omega) (by rw[dJ];omega))
     clear Y;generalize c4:oi (R.data.toList.take 8)=M at*;have d7:=az c4;have HM:=az hM;clear c4 hM;go_wp2_with fail
     go_region
     go_wp2_with fail
     rw[QX M HM.out];have z:fN (2::R.data.toList)=some (⟨1,(M:Int)-9223372036854775808,⟨#[]⟩⟩,(R.extract 8 R.size).data.toList):=by
      rw[fN,if_neg (by decide),if_pos rfl,if_neg (by rw[<-size_data];omega),d7.out,Lib.extract_data,bc (by rw[dQ,<-size_data];omega)]
     have h7:(R.extract 8 R.size).size<=R.size:=by rw[eB];omega
     generalize c5:(M:Int)-9223372036854775808=n at*;generalize R.extract 8 R.size=R2 at*;have HP:=az z;have h9:=az c5;clear z c5;refine(ni ⟨1,n,⟨#[]⟩⟩ (by show(0:Nat)<=9223372036854775807;omega) _).mono ?_;rintro e w1 ⟨rfl,y⟩;rw[show fb ⟨1,n,⟨#[]⟩⟩=true from rfl];have k0:=y.keeps (b:=wr.heap.size) (o:=0) (v:=.int .i64 1) (by rw[cf,ae];rfl);have k1:=y.keeps (b:=wr.heap.size) (o:=1) (v:=.int .i64 n) (by rw[cf,ae];rfl);have k2:=y.keeps (b:=wr.heap.size) (o:=2) (v:=.string ⟨#[]⟩) (by rw[cf,ae];rfl);have J:=aF (tf.row HO.out) (((Gr.refl _).alloc _).drew.trans y);have L:=(S.alloc _).drew.trans y;clear y;go_wp2_with(at_builtin;refine bK (a0:=w) rfl _ _ 133 rfl 132 i0 (.agg #[.int .i64 0,.int .i64 0,.string ⟨#[]⟩]) 3 32 dh hi a5 a6 a7 rfl (by decide) _ _ _ rfl J [_,_,_] rfl (qI _ _ _) rfl L (by omega) (by omega) ?_;intro v4 w4 D V)
     exact⟨⟨R2,us++[⟨1,n,⟨#[]⟩⟩],rfl,by rw[aJ];simp;omega,V,w_ D,xb I.out HP.out⟩,by show R2.size<t.size;rw[a8.out];omega⟩
   ·have c6:=nQ R ⟨#[0]⟩;cases O:R.data.toList.all (·!=0)
    ·have Z:=QP R.data.toList O;have c7:=Vl R.data.toList;have i1:(R.data.toList.takeWhile (·!=0)).length<=R.size:=by rw[size_data];exact(cs _).length_le
     have z:fN (3::R.data.toList)=if 40<(R.data.toList.takeWhile (·!=0)).length then none else some (⟨2,0,⟨(R.data.toList.takeWhile (·!=0)).toArray⟩⟩,R.data.toList.drop ((R.data.toList.takeWhile (·!=0)).length+1)):=by
      rw[fN,if_neg (by decide),if_neg (by decide),if_pos rfl,if_neg (by rw[O];decide)]
     have d8:(R.data.toList.drop ((R.data.toList.takeWhile (·!=0)).length+1)).length<=R.size:=by rw[dQ,<-size_data];omega
     generalize R.data.toList.drop ((R.data.toList.takeWhile (·!=0)).length+1)=r2 at*;generalize R.data.toList.takeWhile (·!=0)=x at*;have a9:=az Z;have HP:=az z;have d9:=az c7;clear Z z c7 O c6;go_wp2_with fail
     refine(nQ R ⟨#[0]⟩ _ (by omega) (HM.out.gr (S.alloc _))).mono ?_;rintro e w1 ⟨rfl,y⟩;rw[show(⟨#[0]⟩:ByteArray).data.toList=[0]from rfl,a9.out];simp only;have k0:=y.keeps (b:=wr.heap.size) (o:=0) (v:=.int .i64 2) (by rw[ae];rfl);have k1:=y.keeps (b:=wr.heap.size) (o:=1) (v:=.int .i64 0) (by rw[ae];rfl);have k2:=y.keeps (b:=wr.heap.size) (o:=2) (v:=.string ⟨#[]⟩) (by rw[ae];rfl);have kf:=(y.frozen (b:=wr.heap.size) 2 (by simp)).trans (World.frozen?_alloc_new ..);have e0:=y.size;simp only[bz]at e0;have J:=aF (tf.row HO.out) (((Gr.refl _).alloc _).trans y);have L:=(S.alloc _).trans y;have e1:=S.size;have c8:=cX J (a:=⟨wr.heap.size,2,none⟩) (u:=.string ⟨x.toArray⟩) (fun h=>dg _ (bd (tf.row HO.out) _ h));have b0:=L.setCell (p:=⟨wr.heap.size,2,none⟩) e1 (.string ⟨x.toArray⟩);clear y J L;cases Q:fb ⟨2,0,⟨x.toArray⟩⟩
     ·have b1:=az Q;have H:=K8 x d9.out Q;have b2:=az H;clear Q H;go_wp2_with fail
      refine(ni ⟨2,0,⟨x.toArray⟩⟩ (by rw[size_data];show x.length<=_;omega) _).mono ?_;rintro e w2 ⟨rfl,G⟩;rw[b1.out];go_wp2_with fail
      refine bv (v:=.tuple #[.slice none 0 0,.iface 24 (.int .i64 3)]) (by simp[dr,bQ,go_sem]) rfl ?_;unfold li;rw[vr I.out (by rw[HP.out,if_pos b2.out])];exact⟨rfl,b0.trans G⟩
     have b1:=az Q;have H:=I4 x Q;have b2:=az H;clear Q H;go_wp2_with fail
     refine(ni ⟨2,0,⟨x.toArray⟩⟩ (by rw[size_data];show x.length<=_;omega) _).mono ?_;rintro e w2 ⟨rfl,G⟩;rw[b1.out];have c0:=G.keeps (b:=wr.heap.size) (o:=0) (v:=.int .i64 2) (by rw[bT (h:=by intro h;injection h with _ h2 _;omega)];exact k0);have c1:=G.keeps (b:=wr.heap.size) (o:=1) (v:=.int .i64 0) (by rw[bT (h:=by intro h;injection h with _ h2 _;omega)];exact k1);have c2:=G.keeps (b:=wr.heap.size) (o:=2) (v:=.string ⟨x.toArray⟩) (World.cell?_setCell_same (h:=k2) ..);clear k0 k1 k2 kf;have e2:=aF c8 G;have e3:=b0.trans G;clear c8 b0 G;go_wp2_with(at_builtin;refine bK (a0:=w) rfl _ _ 133 rfl 132 i0 (.agg #[.int .i64 0,.int .i64 0,.string ⟨#[]⟩]) 3 32 dh hi a5 a6 a7 rfl (by decide) _ _ _ rfl e2 [_,_,_] rfl (qI _ _ _) rfl e3 (by omega) (by omega) ?_;intro v4 w4 D V)
     have c9:(⟨r2.toArray⟩:ByteArray).size<=R.size:=by rw[size_data];exact d8
     exact⟨⟨⟨r2.toArray⟩,us++[⟨2,0,⟨x.toArray⟩⟩],rfl,di (Nat.add_le_add_right c9 _) (by rw[aJ];simp only[aQ,List.length_nil];omega),V,w_ D,xb I.out (by rw[HP.out,if_neg b2.out])⟩,Nat.lt_of_le_of_lt c9 (by show R.size<t.size;rw[a8.out];omega)⟩
    have Z:=QO R.data.toList O;have z:fN (3::R.data.toList)=none:=by
     rw[fN,if_neg (by decide),if_neg (by decide),if_pos rfl,if_pos O]
    have a9:=az Z;have HP:=az z;clear Z z O c6;go_wp2_with fail
    refine(nQ R ⟨#[0]⟩ _ (by omega) (HM.out.gr (S.alloc _))).mono ?_;rintro e w1 ⟨rfl,y⟩;rw[show(⟨#[0]⟩:ByteArray).data.toList=[0]from rfl,a9.out];simp only;go_wp2_with fail
    refine bv (v:=.tuple #[.slice none 0 0,.iface 24 (.int .i64 3)]) (by simp[dr,bQ,go_sem]) rfl ?_;unfold li;rw[vr I.out HP.out];exact⟨rfl,(S.alloc _).trans y⟩
   have g1:((k.toNat:Int)-1==0)=false:=by have:=yR h1;simp at this⊢;omega
   have g2:((k.toNat:Int)-1==1)=false:=by have:=yR h2;simp at this⊢;omega
   have g3:((k.toNat:Int)-1==2)=false:=by have:=yR h3;simp at this⊢;omega
   have z:fN (k::R.data.toList)=none:=by rw[fN,if_neg h1,if_neg h2,if_neg h3]
   have HP:=az z;clear z h1 h2 h3;have g4:0<=(k.toNat:Int):=by omega
   go_wp2_with fail
   refine bv (v:=.tuple #[.slice none 0 0,.iface 24 (.int .i64 3)]) (by simp[dr,bQ,go_sem]) rfl ?_;unfold li;rw[vr I.out HP.out];exact⟨rfl,S.alloc _⟩
theorem Py:∀(xs:List dl) (i:Nat) (h:i<xs.length),(xs.flatMap fun x=>[b_ .i64 x.kind,.int .i64 x.num,.string x.text])[i*3]?=some (.int .i64 xs[i].kind)/\(xs.flatMap fun x=>[b_ .i64 x.kind,.int .i64 x.num,.string x.text])[i*3+1]?=some (.int .i64 xs[i].num)/\(xs.flatMap fun x=>[b_ .i64 x.kind,.int .i64 x.num,.string x.text])[i*3+2]?=some (.string xs[i].text)
 |[],i,h=>by simp at h
 |x::xs,0,_=>by simp
 |x::xs,i+1,h=>by
  have:=Py xs i (by simpa using h);have e:(i+1)*3=i*3+3:=by omega
  rw[e,bX];simpa using this
theorem tf.Wy{a0 w:aU}{v:dU}{xs:List dl}(h:tf a0 w v xs):∃y b c,v=.slice y xs.length c/\(0<xs.length->y=some ⟨b,0,none⟩)/\mR w b 0 xs:=by
 have hc:=fun g q=>eT (g:=g) h.row q;rcases h.row.2 with⟨rfl,G⟩|⟨g,cap,H,rfl,_⟩
 ·have s:xs.length=0:=G;exact⟨none,0,0,by rw[s],fun h=>by omega,fun i hi=>by omega⟩
 refine⟨_,g,cap,rfl,fun _=>rfl,fun i hi=>?_⟩;have q:=Py xs i hi;have z:=hc g rfl _ _ q.1;have B:=hc g rfl _ _ q.2.1;have D:=hc g rfl _ _ q.2.2;have e:∀j,(⟨g,0,none⟩:Addr).add j=⟨g,0+j,none⟩:=by
  intro j;unfold Addr.add;split<;>simp_all
 rw[e]at z B D;refine⟨z,?_,?_⟩
 ·rw[es];exact B
 rw[es];exact D
theorem qx:∀(k n:Nat) (r:List UInt8),n<128^k->0<k->go k (ic n++r)=some (n,r)
 |0,_,_,_,h=>absurd h (dg 0)
 |k+1,n,r,hn,_=>by
  by_cases h:n<128
  ·rw[io n h];have hc:n.toUInt8.toNat=n:=by simp;omega
   simp[go,hc,h]
  rw[qt n h];have hc:(128+n % 128).toUInt8.toNat=128+n % 128:=by simp;omega
  have b:0<k:=by
   rcases Nat.eq_zero_or_pos k with rfl|b
   ·simp at hn;omega
   exact b
  have q:=qx k (n/128) r (by rw[Nat.div_lt_iff_lt_mul (by omega)];rw[Nat.pow_succ]at hn;exact hn) b;rw[ap];unfold go;rw[hc,if_neg (by omega),q];simp;omega
theorem AN(n:Nat):1<=(ic n).length:=by
 by_cases h:n<128
 ·rw[io n h];simp
 rw[qt n h];simp
def lI(a:aa):List aa->List UInt8
 |[]=>[]
 |p::t=>rs a p++lI p t
theorem Q9(a p:aa):1<=(rs a p).length:=by
 unfold rs
 split
 ·exact AN _
 rw[aJ];have:=AN (2*(p.1-a.1)+1).toNat;omega
theorem Ll:∀(xs:List aa) (a:aa),xs.length<=(lI a xs).length
 |[],_=>dT _
 |p::t,a=>by
  have:=Ll t p;have:=Q9 a p;unfold lI;rw[aJ,aQ];omega
theorem Dm:∀(xs:List aa) (a:aa),((em xs.length).flatMap fun i=>rs (match i with|0=>a|k+1=>xs.getD k (0,0)) (xs.getD i (0,0)))=lI a xs
 |[],a=>rfl
 |p::t,a=>by
  have b:=Dm t p;rw[aQ,List.range_succ_eq_map,bX,List.flatMap_map];unfold lI;rw[<-b]
  congr 1
  have:∀i,(match i+1 with|0=>a|k+1=>(p::t).getD k (0,0))=(match i with|0=>p|k+1=>t.getD k (0,0)):=fun i=>by
   cases i<;>simp
  refine congrArg (fun f=>eH f (em t.length)) (funext fun i=>?_);cases i<;>simp
theorem AO(xs:List aa):cT xs=lI (0,0) xs:=by
 rw[<-Dm xs (0,0)];unfold cT zA;refine congrArg (fun f=>eH f (em xs.length)) (funext fun i=>?_);cases i<;>rfl
def Ja(a:aa):List aa->Prop
 |[]=>True
 |p::t=>(0<=a.1/\0<=a.2/\p.1<=1073741824/\0<=p.2/\p.2<=1073741823/\a.1<=p.1/\(a.1=p.1->a.2<=p.2))/\Ja p t
theorem Q_{xs:List aa}(h:dG xs=true):Ja (0,0) xs:=by
 have q:∀m k,k+m=xs.length->Ja (eq xs k) (xs.drop k):=by
  intro m
  induction m with
  |zero=>
   intro k G;rw[List.drop_of_length_le (by omega)]
   trivial
  |succ m H=>
   intro k G;have b:k<xs.length:=by omega
   have s:=H (k+1) (by omega);have y:xs.getD k (0,0)=xs[k]:=by simp[List.getD_eq_getElem?_getD,b]
   obtain⟨z,I,L,J,M,B,D⟩:=um b (fun i hi=>nk h i (by omega));rw[List.drop_eq_getElem_cons b];rw[y]at z B D;have hi:=iM.1 z;refine⟨⟨I,J,hi.2.1,hi.2.2.1,hi.2.2.2,B,D⟩,?_⟩;have:eq xs (k+1)=xs[k]:=y;rw[<-this];exact s
 have:=q xs.length 0 (by omega);simpa[eq]using this
theorem PD:∀(xs:List aa) (a:aa),Ja a xs->lY a (lI a xs)=some xs
 |[],a,_=>Le a
 |p::t,a,h=>by
  obtain⟨⟨I,J,L,M,O,Q,D⟩,S⟩:=h;have G:=PD t p S;obtain⟨q,b⟩:=p;obtain⟨s,y⟩:=a;simp only at I J L M O Q D;unfold lI rs;simp only;by_cases H:q=s
  ·subst H;rw[if_pos rfl];have hd:=D rfl;have z:=qx 5 (2*(b-y)).toNat (lI (q,b) t) (by omega) (by omega);rw[Gx z (by omega)];have e:(q,y+(((2*(b-y)).toNat/2:Nat):Int))=(q,b):=by
    congr 1
    omega
   simp only;rw[e,G]
   rfl
  rw[if_neg H,aS];have z:=qx 5 (2*(q-s)+1).toNat (ic b.toNat++lI (q,b) t) (by omega) (by omega);have B:=qx 5 b.toNat (lI (q,b) t) (by omega) (by omega);rw[Lf z (by omega) B];have e:(s+(((2*(q-s)+1).toNat/2:Nat):Int),((b.toNat:Nat):Int))=(q,b):=by
   congr 1<;>omega
  simp only;rw[e,G]
  rfl
theorem AP{xs:List aa}(h:dG xs=true):kQ (cT xs)=some xs:=by
 unfold kQ;rw[AO,PD xs (0,0) (Q_ h)];simp[h,AO]
