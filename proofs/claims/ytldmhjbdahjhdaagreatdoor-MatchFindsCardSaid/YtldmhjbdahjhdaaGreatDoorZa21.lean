/-
  Part 23 of the proof.
-/
import Derived.Test.YtldmhjbdahjhdaaGreatDoorZa20
open Go.Proofs.Tryz
open Go.Lib renaming hid->ae
open List renaming length_cons->ak,length_tail->az,getElem_mem->aJ,mem_cons_self->aQ,pairwise_iff_getElem->aS,tail_suffix->aX,mem_filter->bh,mem_map->bt
open Nat renaming le_refl->ap,lt_or_ge->aV,le_trans->bj,zero_le->bu
open Go.IntKind renaming wrap_i64->aU,i64->be
open Bool renaming and_eq_true->bc
open Go.Proofs.Tryz renaming ntmps3->bv,func3->bA
open Go renaming World->bz
set_option maxRecDepth 100000
set_option maxHeartbeats 100000000
set_option linter.all false
namespace Go.Proofs.YtldmhjbdahjhdaaGreatDoor
section
open Go Go.RowKit
theorem L_(b:Value)(n:Int)(w:bz)(q:dL w)(h:tG w b n (-1)):Calls prog 9 #[b,.int .i64 n] w (ar w (.bool true)):=by
 have:=U1 b n (-1) n w q h;simpa using this
def gK(l:List ByteArray):Prop:=∀p∈l,p.size<=300
theorem gK.less{l r:List ByteArray}(h:gK l)(b:r<:+l):gK r:=fun p q=>h p (b.subset q)
def Fq(q:Qy)(l r:List ByteArray):Prop:=pJ q/\jA q+r.length<=l.length
theorem xz(s:ByteArray):∀x∈aD s,cI x:=fun x b=>(Lw (yt s x b)).1
theorem OT(s:ByteArray):(aD s).length<=s.size+1:=by
 rw[sG,List.length_map,size_data];exact Ji _ _ _
theorem Ma{kind:Int}{a b:Qy}(q:kind=4\/kind=5\/kind=6)(ha:pJ a)(s:pJ b):pJ (.node kind a b):=⟨q,ha,s⟩
theorem Wd(y:List ByteArray->Rd)(ha:∀l q r,gK l->y l=.ok q r->Fq q l r)(l:List ByteArray)(L:gK l)(q:Qy)(r:List ByteArray)(h:yA y l=.ok q r):Fq q l r:=by
 unfold yA at h
 dsimp only at h
 split at h
 ·cases h
 rename_i M
 have hn:aW l≠gG:=fun e=>M (.inl e);obtain⟨s,t,rfl,O⟩:=eS hn;rw[O]at h;have hs:=L s aQ
 split at h
 ·split at h
  ·cases h
  rename_i U r1 Q
  split at h
  ·cases h;have z:=ha t q r1 (L.less (List.suffix_cons s t)) Q;have V:r1.tail.length<=r1.length:=by simp
   have Y:=z.2;exact⟨z.1,by rw[ak];omega⟩
  cases h
 split at h
 ·split at h
  ·cases h
  rename_i G
  cases h;obtain⟨S,ws,hw⟩:=List.exists_cons_of_ne_nil G;refine⟨.inl ⟨rfl,rfl,S,ws,hw,?_,?_⟩,?_⟩
  ·rw[<-hw];exact xz _
  ·have z:=OT (je s.data.toList.tail);rw[hw,size_data,gu,az,ak]at z;rw[size_data]at hs;omega
  show 1+t.length<=(s::t).length;rw[ak];omega
 split at h
 ·split at h
  ·cases h;refine⟨.inr (.inl ⟨rfl,rfl,_,rfl⟩),?_⟩;show 1+t.tail.length<=(s::t).length;rw[ak,az];omega
  cases h
 split at h
 ·rename_i a H
  have B:cI a:=xz s a (by rw[H];exact aQ)
  split at h
  ·split at h
   ·cases h
   split at h
   ·rename_i b I
    cases h;have J:cI b:=xz _ b (by rw[I];exact aQ);refine⟨.inr (.inr ⟨rfl,rfl,a,b,rfl,B,J⟩),?_⟩;show 1+t.tail.tail.length<=(s::t).length;rw[ak,az,az];omega
   cases h
  cases h;refine⟨.inl ⟨rfl,rfl,a,[],rfl,fun x D=>?_,by simp⟩,?_⟩
  ·rcases List.mem_cons.1 D with e|D
   ·rw[e];exact B
   cases D
  show 1+t.length<=(s::t).length;rw[ak];omega
 cases h
theorem UJ(b:List ByteArray->Rd)(L:∀l q r,gK l->b l=.ok q r->Fq q l r)(y:∀l q r,b l=.ok q r->fG r l):∀(n:Nat) (q:Qy) (l:List ByteArray) (z:Qy) (r:List ByteArray),gK l->pJ q->nV b n q l=.ok z r->pJ z/\jA z+r.length<=jA q+l.length:=by
 intro n
 induction n with
 |zero=>
  intro q l z r D B h;unfold nV at h
  split at h
  ·cases h;exact⟨B,ap _⟩
  cases h
 |succ n M=>
  intro q l z r D B h;unfold nV at h
  split at h
  ·cases h;exact⟨B,ap _⟩
  dsimp only at h
  split at h
  ·cases h
  rename_i G r1 H
  have s:gK (if aW l=f_\/aW l=iC then l.tail else l)/\(if aW l=f_\/aW l=iC then l.tail else l).length<=l.length:=by
   split
   ·exact⟨D.less (aX l),by simp⟩
   exact⟨D,ap _⟩
  have I:=L _ _ _ s.1 H;have J:=M _ _ _ _ (s.1.less (y _ _ _ H).1) (Ma (by split<;>simp) B I.1) h;have O:=J.2;have S:=I.2;have Q:∀k:Int,jA (.node k q G)=jA q+jA G:=fun _=>rfl;rw[Q]at O;exact⟨J.1,by have:=s.2;omega⟩
theorem PW(b:List ByteArray->Rd)(y:∀l q r,gK l->b l=.ok q r->Fq q l r)(s:∀l q r,b l=.ok q r->fG r l)(l:List ByteArray)(q:Qy)(r:List ByteArray)(z:gK l)(h:ti b l=.ok q r):Fq q l r:=by
 unfold ti at h
 split at h
 ·cases h
 rename_i H r1 B
 have D:=y _ _ _ z B;have G:=UJ b y s _ _ _ _ _ (z.less (s _ _ _ B).1) D.1 h;exact⟨G.1,bj G.2 D.2⟩
theorem UK(b:List ByteArray->Rd)(L:∀l q r,gK l->b l=.ok q r->Fq q l r)(s:∀l q r,b l=.ok q r->fG r l):∀(n:Nat) (q:Qy) (l:List ByteArray) (y:Qy) (r:List ByteArray),gK l->pJ q->mc b n q l=.ok y r->pJ y/\jA y+r.length<=jA q+l.length:=by
 intro n
 induction n with
 |zero=>
  intro q l y r D z h;unfold mc at h
  split at h
  ·cases h
  cases h;exact⟨z,ap _⟩
 |succ n M=>
  intro q l y r D z h;unfold mc at h
  split at h
  ·dsimp only at h
   split at h
   ·cases h
   rename_i G r1 H
   have B:gK l.tail:=D.less (aX l);have I:=L _ _ _ B H;have J:=M _ _ _ _ (B.less (s _ _ _ H).1) (Ma (by simp) z I.1) h;have O:=J.2;have Q:=I.2;have S:jA (.node 5 q G)=jA q+jA G:=rfl;rw[S]at O;rw[az]at Q;exact⟨J.1,by omega⟩
  cases h;exact⟨z,ap _⟩
theorem PX(b:List ByteArray->Rd)(y:∀l q r,gK l->b l=.ok q r->Fq q l r)(s:∀l q r,b l=.ok q r->fG r l)(l:List ByteArray)(q:Qy)(r:List ByteArray)(z:gK l)(h:tj b l=.ok q r):Fq q l r:=by
 unfold tj at h
 split at h
 ·cases h
 rename_i H r1 B
 have D:=y _ _ _ z B;have G:=UK b y s _ _ _ _ _ (z.less (s _ _ _ B).1) D.1 h;exact⟨G.1,bj G.2 D.2⟩
theorem UL:∀(k:Nat) (l:List ByteArray) (q:Qy) (r:List ByteArray),gK l->Bi k l=.ok q r->Fq q l r:=by
 intro k
 induction k with
 |zero=>intro l q r _ h;cases h
 |succ k s=>exact fun l q r b h=>Wd _ (fun l q r b h=>PX _ (fun l q r b h=>PW _ s (kV k) l q r b h) (kW k) l q r b h) l b q r h
theorem UM(k:Nat)(l:List ByteArray)(q:Qy)(r:List ByteArray)(b:gK l)(h:uL k l=.ok q r):Fq q l r:=
 PX _ (fun l q r b h=>PW _ (UL k) (kV k) l q r b h) (kW k) l q r b h
theorem We(s:ByteArray)(hs:s.size<=300)(q:Qy)(n:Int)(h:wj s=(some q,n)):pJ q/\jA q<=300:=by
 unfold wj at h;cases hc:c_ s.size s.data.toList with
 |none=>rw[hc]at h;cases h
 |some y=>
  rw[hc]at h;have b:=Ek _ _ _ hc;have z:gK y:=fun p D=>by
   have:=b.2 p D;rw[<-size_data]at this;omega
  cases hA:uL 13 y with
  |bad m=>simp only[hA]at h;cases h
  |ok H r=>
   simp only[hA]at h
   split at h
   ·cases h;have B:=UM 13 y q r z hA;have I:=B.2;have G:=b.1;rw[<-size_data]at G;exact⟨B.1,by omega⟩
   cases h
end
section
open Go Go.RowKit Go.Shelf Go.Lib Go.Sort Go.Maps
def zX:ByteArray:=⟨#[110]⟩
theorem rM:cI zX:=⟨by decide,by decide⟩
def UN(w:bz)(q:Option Addr)(ts:List ByteArray):Prop:=∀i (h:i<ts.length),∃B b,q=some ⟨B,b,none⟩/\w.cell? ⟨B,b+i,none⟩=some (.string ts[i])
theorem OX(w:bz):jO (w.heap.size+1) (w.alloc (.cells #[.slice none 0 0] 38)) w.heap.size zX []:=by
 refine⟨⟨.slice none 0 0,by rw[World.cell?_alloc_new];rfl,World.ownsRow_nil _ _ _ _⟩,?_,Nat.lt_succ_self _⟩;simp
theorem OY{y:List bY}{k:Int}(h:∀x∈y,1<=x.2.1/\x.2.1<=k)(kind:Int)(ws:List ByteArray)(r:Int)(q:0<pN y kind ws r):1<=r/\r<=k:=by
 have s:∀wd,∀p∈df y wd,1<=p.1/\p.1<=k:=fun wd p q=>h _ (rK.1 q);unfold pN at q
 split at q
 ·obtain⟨p,b,rfl⟩:=nF.1 q;exact xw (P:=fun p=>1<=p.1/\p.1<=k) s _ _ (s _) p b
 split at q
 ·obtain⟨p,b,rfl⟩:=nF.1 q;rw[bO]at b;unfold nT at b;obtain⟨x,B,rfl⟩:=bt.1 b;exact h x (bh.1 B).1
 unfold uU at q
 split at q
 ·rename_i z
  rw[bO]at z;unfold bG at z;obtain⟨p,b,rfl⟩:=bt.1 z;exact s _ p (bh.1 b).1
 omega
theorem JK{s:List bY}{k:Int}(h:∀x∈s,1<=x.2.1/\x.2.1<=k):∀(q:Qy) (r:Int),0<HR s q r->1<=r/\r<=k
 | .leaf kind ws _,r,y=>OY h kind ws r y
 | .node kind a b,r,y=>by
  have z:=vz kind (HR s a r) (HR s b r);have B:0<eI kind (HR s a r) (HR s b r):=y;rcases Nat.eq_zero_or_pos (HR s a r)with e|e
  ·exact JK h b r (by omega)
  exact JK h a r e
theorem Sc{out:List bS}{H:Int->Nat}(h:jF out H){j:Nat}{r:Int}(B:∀i (hi:i<out.length),i<j->out[i].1<r)(D:∀i (hi:i<out.length),j<=i->r<=out[i].1)(G:0<H r):∃q:j<out.length,out[j].1=r/\out[j].2=(H r:Int):=by
 obtain⟨x,z,s⟩:=h.all r G;obtain⟨i,hi,rfl⟩:=List.getElem_of_mem z;have I:j<=i:=by
  rcases aV i j with b|b
  ·have:=B i hi b;omega
  exact b
 have q:j<out.length:=by omega
 have y:j=i:=by
  rcases aV j i with b|b
  ·have J:=aS.1 h.up j i q hi b;have L:=D j q (ap _);omega
  omega
 subst y;refine⟨q,s,?_⟩;have:=(h.val _ z).1;rw[this,s]
theorem Sd{out:List bS}{H:Int->Nat}(h:jF out H){j:Nat}{r:Int}(q:∀i (hi:i<out.length),j<=i->r<=out[i].1)(s:H r=0):∀i (hi:i<out.length),j<=i->r+1<=out[i].1:=fun i hi y=>by
 have z:=q i hi y;have B:=(h.val _ (aJ hi)).2;rcases Int.lt_or_eq_of_le z with b|b
 ·omega
 rw[<-b,s]at B;omega
theorem Se{out:List bS}{H:Int->Nat}(h:jF out H){j:Nat}{r:Int}(z:∀i (hi:i<out.length),j<=i->r<=out[i].1)(q:j<out.length)(B:out[j].1=r)(s:∀i (hi:i<out.length),i<j->out[i].1<r):(∀i (hi:i<out.length),i<j+1->out[i].1<r+1)/\∀i (hi:i<out.length),j+1<=i->r+1<=out[i].1:=by
 constructor
 ·intro i hi y;rcases aV i j with b|b
  ·have:=s i hi b;omega
  have:i=j:=by omega
  subst this;omega
 intro i hi y;have:=aS.1 h.up j i q hi (by omega);omega
theorem zY(ts:List ByteArray)(ao:Option Addr)(cap:Nat)(s:ByteArray)(v4:ts.length<=9223372036854775807)(hs:s.size<=9223372036854775807)(w:bz)(ht:UN w ao ts)(i9:∀t∈ts,t.size<=9223372036854775807)(he:fP w)(hE:dL w)(hM:mA w):
  Calls prog 3 #[.slice ao ts.length cap,.string s] w (ar w (.bool true)):=by
 by_cases o5:ts.length<=25
 ·have o6:decide ((25:Int)<(ts.length:Int))=false:=by simp;omega
  have s4:¬(25:Int)<(ts.length:Int):=by omega
  by_cases m9:s.size<=300
  ·have g3:decide ((300:Int)<(s.size:Int))=false:=by simp;omega
   have O:=Xw s (by omega) w;have HP:=ae (fun W (hW:fP W)=>UG s (by omega) W hW);have e7:=ae he;have j0:=ae hE;have j1:=ae hM;have o7:=ae ht;have o8:=ae i9;clear he hE hM ht i9;obtain⟨oq,n,hR⟩:∃oq n,wj s=(oq,n):=⟨_,_,rfl⟩;rw[hR]at O;have j4:=ae hR;have e8:Hid (∀q m,(oq,n)=(some q,m)->pJ q/\jA q<=300):=ae (fun q m h=>We s m9 q m (hR.trans h));clear hR;cases oq with
   |none=>
    have v5:(n !=0)=!decide (n=0):=by by_cases h:n=0<;>simp[h]
    clear e8;by_cases v7:n=0
    all_goals
      go_enter bA,bv;go_wp2_with fail
      refine O.mono ?_;rintro e w1 ⟨rfl,U⟩;go_wp2_with fail
      refine(HP.out w1 (e7.out.gr U)).mono ?_;rw[j4.out];rintro e w2 ⟨rfl,a5⟩;go_wp2_with fail
      refine(Pv w2).mono ?_;rintro e w3 ⟨FP,TP,PB,DB,M,rfl,hF,Y,c7⟩;have j5:=(U.trans a5).trans c7;go_wp2_with(go_at_call 9;refine(L_ _ _ _ (j0.out.gr j5) (.inr (.inl ⟨rfl,rfl⟩))).mono ?_;rintro e w4 ⟨rfl,o9⟩)
      go_ret;exact ar.mk rfl (j5.trans o9)
   |some q=>
    obtain⟨a7,j6⟩:=e8.out q n rfl;have HV:=ae (And.intro a7 j6);clear e8 a7 j6;go_enter bA,bv;go_wp2_with fail
    refine O.mono ?_;rintro e w1 ⟨N1,b1,rfl,j8,U⟩;go_wp2_with fail
    refine(HP.out w1 (e7.out.gr U)).mono ?_;rw[j4.out];rintro e w2 ⟨N2,b2,rfl,j9,a5⟩;have L:=ae (U.trans a5);have p0:=ae (ir.gr a5 j8);have p1:=ae j9;clear j8 j9 U a5 O;go_wp2_with fail
    refine(Pv w2).mono ?_;rintro e w3 ⟨FP,TP,PB,DB,M,rfl,hF,Y,c7⟩;have k0:=ae hF;have g0:=ae Y;have k2:=ae c7;clear hF Y c7;have g4:=ae (OX w3);go_wp2_with fail
    obtain⟨w5,g5⟩:∃w5,Hid (w5=w3.alloc (.cells #[.slice none 0 0] 38)):=⟨_,ae rfl⟩;obtain⟨J,g6⟩:∃J,Hid (J=w3.heap.size):=⟨_,ae rfl⟩;rw[<-g5.out,<-g6.out]at g4;rw[<-g5.out,<-g6.out];have b4:Gr w3 w5:=by
      rw[g5.out];exact(Gr.refl w3).alloc _
    have p2:=ae (k0.out.gr b4);have p3:=ae (k2.out.trans b4);have a8:Hid (Ca w2 PB DB M):=ae ⟨e7.out.gr L.out,j0.out.gr L.out,j1.out.gr L.out,⟨g0.out.2.2.1,g0.out.2.2.2.1,g0.out.2.2.2.2⟩⟩;have a9:Hid (FP<J/\TP<J/\PB<J/\DB<J/\M<J/\w2.heap.size<=J):=ae (by
      rw[g6.out];have z:=k0.out.lt;have h2:=k2.out.size;exact⟨z.1,z.2.1,z.2.2.1,z.2.2.2.1,z.2.2.2.2,h2⟩)
    have p4:Hid (J<w5.heap.size):=ae (ad g4.out.ex.choose_spec.1);clear b4;go_loopw [11] (fun iv w'=>∃i:Nat,i<=ts.length/\iv=.int .i64 i/\∃c X,jn w' FP TP PB DB M c kP 0 wZ/\tl wZ.pg zX ts i c X/\jO (J+1) w' J zX (kX ts i)/\J<w'.heap.size/\Gr w2 w') (fun iv _=>ts.length-(intOf iv).toNat)
    case atStart=>exact⟨0,bu _,rfl,_,_,p2.out,Oy zX ts,g4.out,p4.out,p3.out⟩
    case round=>as_aux_lemma=>
     obtain⟨i,hi,rfl,c,X,hF,hT,hX,k4,G⟩:=hrel;have HF:=ae hF;have HT:=ae hT;have HX:=ae hX;have HG:=ae G;have HL:=ae k4;clear hF hT hX k4;by_cases b0:i<ts.length
     ·have p5:(i:Int)<(ts.length:Int):=by omega
      obtain⟨B,g7,rfl,hc⟩:=o7.out i b0;have p6:=ad hc;have k1:=(L.out.trans G).keeps hc;have v8:be.wrap ((i:Int)+1)=(i:Int)+1:=by
        rw[aU];omega
      have g8:ts.getD i ⟨#[]⟩=ts[i]:=by simp[b0]
      have n1:=o8.out _ (aJ b0);obtain⟨tx,k6⟩:∃tx,ts[i]=tx:=⟨_,rfl⟩;rw[k6]at k1 g8 n1;have c8:=ae g8;clear k6 hc G g8;by_cases Z:tx.size<=40
      · have p7:decide ((40:Int)<(tx.size:Int))=false:=by simp;omega
        have n2:¬(40:Int)<(tx.size:Int):=by omega
        have a0:=RW rM (by decide) HT.out (by omega) (by rw[c8.out];exact Z);have a1:=vE (ts:=ts) (k:=i) (by rw[c8.out];exact Z);have g9:=yJ ts i;rw[c8.out]at a0 a1;have k7:=fun W (g:Gr wr W)=>Xx (Q:=tl wZ.pg zX ts (i+1)) a8.out (HG.out.trans g) (HF.out.gr g) HT.out.lays rM (by decide) (row:=(i:Int)+1) (by omega) Z a0.1 a0.2.1 a0.2.2.1 a0.2.2.2;have p8:=(ot Z).1;have p9:=ae k7;have c9:=ae a1;have h0:=ae (show(kX ts i).length+(aD tx).length<=500 by omega);have q0:Hid (∀x∈kX ts i,x.2.1≠(i:Int)+1):=ae (fun x hx=>by have:=(pK hx).1;omega);have k8:Hid (B<w2.heap.size/\¬(B=PB\/B=DB\/B=M)/\¬B=J):=ae (by
         have z:=a8.out.lo;have h2:=a9.out;have h3:=L.out.size;omega)
        clear a0 a1 g9 k7 p8 p6;go_wp2_with fail
        have Gc:Gr wr wr.drew:=(Gr.refl wr).drew;have y1:=Gc.keeps k1;go_region_held3(fun w'=>w'.cell? ⟨B,g7+i,none⟩=some (.string tx)) (first|exact y1|exact k1) (first
         |( go_at_call 10;refine(p9.out _ Gc).mono ?_;rintro e w6 ⟨rfl,c6,X6,k9,l0,I⟩;have y1:=I.2.keeps k8.out.2.1 y1)
         |( go_at_call 11;refine(VJ ((HX.out.gr Gc).ay I.2 (fun b hb=>by have:=a9.out;omega)) (by have:=I.2.2.2.2.1;have:=HL.out;have:=Gc.size;omega) rM (by decide) (by omega) Z q0.out h0.out).mono ?_;rintro e w7 ⟨rfl,l2,D⟩;have y1:=D.keeps k8.out.2.2 y1)
         |( go_at_call 9;refine(L_ _ _ _ (a8.out.err.gr ((D.gr (a8.out.pg (HG.out.trans Gc) I) (fun b hb=>by rw[hb];exact a9.out.2.2.2.2.2)))) (.inl ⟨rfl,rfl,rfl⟩)).mono ?_;rintro e w8 ⟨rfl,a2⟩;have y1:=a2.keeps y1))
        have d9:Gr w2 w8:=(D.gr (a8.out.pg (HG.out.trans Gc) I) (fun b hb=>by rw[hb];exact a9.out.2.2.2.2.2)).trans a2;have l3:=(k9.ay D (by have:=a9.out;omega)).gr a2;have h6:=l2.gr a2;rw[<-c9.out]at h6;have l4:J<w8.heap.size:=by
         have z:=HL.out;have h2:=Gc.size;have h3:=I.2.2.2.2.1;have h4:=D.2.2.2.1;have h5:=a2.size;omega
        have HE:=ae (And.intro l3 (And.intro l0 (And.intro h6 (And.intro l4 d9))));clear d9 l3 h6 l4 k9 l0 I l2 D a2 Gc y1 k1;go_wp2_with fail
        obtain⟨e1,e2,e3,e4,e5⟩:=HE.out;exact⟨⟨i+1,b0,by go_num,c6,X6,e1,e2,e3,e4,e5⟩,by simp[intOf];omega⟩
      have p7:decide ((40:Int)<(tx.size:Int))=true:=by simp;omega
      have n2:(40:Int)<(tx.size:Int):=by omega
      have e0:¬(ts.getD i ⟨#[]⟩).size<=40:=by rw[c8.out];exact Z
      go_wp2_with fail
      exact⟨⟨i+1,b0,by go_num,c,X,HF.out,RV HT.out e0,by rw[vD e0];exact HX.out,HL.out,HG.out⟩,by simp[intOf];omega⟩
     have p5:¬(i:Int)<(ts.length:Int):=by omega
     have q1:i=ts.length:=by omega
     rw[q1]at HT HX;obtain⟨K,V,l6,hV⟩:=HT.out.wR o5;have g9:=yJ ts ts.length;obtain⟨ls,l7,l8,l9⟩:=Xt rM (by decide) l6 hV (by omega) (fun x hx=>by
       have z:=pK hx;refine⟨z.2.1,?_,by have:=z.1;omega⟩;simp only[iD,bc,decide_eq_true_eq];have:=z.1;have:=z.2.2.2;omega)
     have a7:=JJ HF.out (j1.out.gr (L.out.trans G)) HT.out.lays rM l7 l8 q wr b2 (Gr.refl wr) (gv.R_ (S:=fun _=>False) (ag.ah G) (fun _ h=>h.elim) _ _ p1.out) HV.out.1 (by have:=HV.out.2;omega);have e6:=ae a7;have m0:=ae (fun r=>OC l9 q r);have h0:=ae (show(kX ts ts.length).length<=1000 by omega);clear a7 l6 l7 l8 l9 g9;go_wp2_with fail
     refine e6.out.mono ?_;rintro e w6 ⟨v6,out,rfl,h7,m1,d0⟩;have m2:=OB h0.out (fun x hx=>by
       have z:=pK hx;simp only[iD,bc,decide_eq_true_eq];have:=z.1;have:=z.2.2.2;omega) q w6 b1 HV.out.1 (by have:=HV.out.2;omega) (HX.out.gr d0) (ir.gr (G.trans d0) p0.out)
     have m3:=ae m2;have m4:=ae h7;have h8:=ae m1;have q2:=ae (G.trans d0);obtain⟨a6,c6,I⟩:=h7.form;clear m2 h7 m1 d0 G;subst I;go_wp2_with fail
     refine m3.out.mono ?_;rintro e w7 ⟨MP,rfl,q3,m5,D⟩;have h9:=ae m5;have q4:=ae (m4.out.gr D);have q5:=ae (q2.out.trans D);clear q3 m5 D;go_wp2_with fail
     have c5:jF out (HR (kX ts ts.length) q):=by
       have z:=h8.out.PP;rw[show HN (df (kX ts ts.length)) ls q=HR (kX ts ts.length) q from funext m0.out]at z;exact z
     have y:=ae c5;have b5:Hid (∀r,0<HR (kX ts ts.length) q r->1<=r/\r<=(ts.length:Int)):=ae (JK (fun x hx=>(pK hx).1) q);have q6:=ae h8.out.len;obtain⟨H,HH⟩:∃H,Hid (H=HR (kX ts ts.length) q):=⟨_,ae rfl⟩;rw[<-HH.out]at y b5 h9;clear c5 h8 m0 e6 m3 m4 HX HT;go_loopw [14,15] (fun nv rv w'=>∃j k:Nat,nv=.int .i64 j/\rv=.int .i64 (k:Int)/\(1<=k/\k<=ts.length+1)/\j<=out.length/\(∀i (hi:i<out.length),i<j->out[i].1<(k:Int))/\(∀i (hi:i<out.length),j<=i->(k:Int)<=out[i].1)/\Gr w7 w') (fun _ rv _=>ts.length+1-(intOf rv).toNat)
     case atStart=>exact⟨0,1,rfl,rfl,⟨ap _,by omega⟩,bu _,fun i hi h=>absurd h (Nat.not_lt_zero _),fun i hi _=>(b5.out _ (y.out.val _ (aJ hi)).2).1,Gr.refl _⟩
     case round=>as_aux_lemma=>
      obtain⟨j,k,rfl,rfl,⟨v9,w0⟩,hj,Y,m6,G⟩:=hrel;have b6:=ae Y;have d3:=ae m6;have HG:=ae G;have s5:=q6.out;clear Y m6;by_cases w9:k<=ts.length
      ·have q7:(k:Int)<=(ts.length:Int):=by omega
       have i0:=h9.out.gr G;have q8:=i0.look (r:=(k:Int)) (by omega);have x0:be.wrap ((k:Int)+1)=(k:Int)+1:=by
         rw[aU];omega
       by_cases hz:H (k:Int)=0
       · have m7:((H (k:Int):Int)==0)=true:=by simp[hz]
         clear i0 G;go_wp2_with fail
         exact⟨⟨j,k+1,rfl,by go_num,⟨by omega,by omega⟩,hj,fun i hi hl=>by have:=b6.out i hi hl;omega,fun i hi hl=>by have:=Sd y.out d3.out hz i hi hl;omega,HG.out⟩,by simp[intOf];omega⟩
       have m7:((H (k:Int):Int)==0)=false:=by simp;omega
       obtain⟨a3,e1,e2⟩:=Sc y.out b6.out d3.out (by omega:0<H (k:Int));have a1:=Se y.out d3.out a3 e1 b6.out;have c9:=ae a1;obtain⟨b9,a4,rfl,c1,c2⟩:∃b9 a4,a6=some ⟨b9,a4,none⟩/\w7.cell? ⟨b9,a4+j*2,none⟩=some (.int .i64 out[j].1)/\w7.cell? ⟨b9,a4+j*2+1,none⟩=some (.int .i64 out[j].2):=by
         rcases q4.out.lZ with⟨_,e9⟩|⟨b,g7,c,e,hb,hp⟩
         ·rw[e9]at a3;exact absurd a3 (by simp)
         cases e;exact⟨b,g7,rfl,(hp j a3).1,(hp j a3).2⟩
       rw[e1]at c1;rw[e2]at c2;have d1:=G.keeps c1;have d2:=G.keeps c2;obtain⟨hv,i1⟩:∃hv,H (k:Int)=hv:=⟨_,rfl⟩;have n3:=fun m:Nat=>(h9.out.gr (G.drewN m)).look (r:=(k:Int)) (by omega);rw[i1]at m7 q8 d2 hz;simp only[i1]at n3;have x1:decide ((out.length:Int)<=(j:Int))=false:=by simp;omega
       have x2:(j:Int)<(out.length:Int):=by omega
       have x3:be.wrap ((j:Int)+1)=(j:Int)+1:=by
         rw[aU];omega
       have x4:((k:Int) !=(k:Int))=false:=by simp
       have x5:((hv:Int) !=(hv:Int))=false:=by simp
       clear i0 G c1 c2 e1 e2 a1 i1;go_wp2_with fail
       go_quiet (fail)
       go_wp2_with fail
       exact⟨⟨j+1,k+1,by go_num,by go_num,⟨by omega,by omega⟩,a3,fun i hi hl=>by have:=c9.out.1 i hi hl;omega,fun i hi hl=>by have:=c9.out.2 i hi hl;omega,HG.out.drewN _⟩,by simp[intOf];omega⟩
      have q7:¬(k:Int)<=(ts.length:Int):=by omega
      have q9:j=out.length:=by
        rcases aV j out.length with h3|h3
        · have h4:=d3.out j h3 (ap _)
          have h5:=(b5.out _ (y.out.val _ (aJ h3)).2).2;omega
        omega
      have x6:((j:Int)==(out.length:Int))=true:=by simp[q9]
      clear G;go_wp2_with fail
      go_ret;exact ar.mk rfl (L.out.trans (q5.out.trans HG.out))
  have g3:decide ((300:Int)<(s.size:Int))=true:=by simp;omega
  go_enter bA,bv;go_wp2_with fail
  go_ret;exact ar.mk rfl (Gr.refl _)
 have o6:decide ((25:Int)<(ts.length:Int))=true:=by simp;omega
 go_enter bA,bv;go_wp2_with fail
 go_ret;exact ar.mk rfl (Gr.refl _)
