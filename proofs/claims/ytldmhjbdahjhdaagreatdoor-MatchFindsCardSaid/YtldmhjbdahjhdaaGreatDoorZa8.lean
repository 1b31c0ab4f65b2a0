/-
  Part 8 of the proof.
-/
import Derived.Test.YtldmhjbdahjhdaaGreatDoorZa7
open Go.Proofs.Tryz
open Go.Lib renaming hid->ae
open Go.World renaming cell?_alloc_new->ak,cell?_setCell_other->aJ,cell?_setCell_same->bt
open Go.Value renaming slice->ap
open List renaming getElem?_eq_getElem->az,length_map->aQ,nodup_append->aS,eq_nil_of_length_eq_zero->aU,flatMap_cons->bc,mem_of_getElem?->bh,flatMap_append->bj,mem_append_left->bu,isEmpty_iff->bA,mem_append->bF,nodup_cons->bM,length_set->bP,set_getElem_self->bQ,mem_cons_of_mem->bT,mem_map_of_mem->bW,mem_cons->bX,length_append->bZ,getElem?_map->cf,mem_flatMap->cg,getElem_map->ch,map_set->cs
open Nat renaming lt_of_lt_of_le->aV,zero_add->bz,le_trans->bB
open Prod renaming fst->aX,snd->cK
open Option.some renaming inj->bv
open Go renaming World->bC,bodyPost_ret->b_,Calls->co,results->cF
open Go.Proofs.Tryz renaming results256->cj
open Go.IntWalk renaming i64_in->cl
open Go.IntKind renaming i64->cD
set_option maxRecDepth 100000
set_option maxHeartbeats 100000000
set_option linter.all false
namespace Go.Proofs.YtldmhjbdahjhdaaGreatDoor
section
open Go Go.RowKit
def xo(lc:Bool)(c:Ch)(nl:List En)(i:Nat)(pa pb2:Nat)(ea eb:List En)(key:ByteArray):Ch×List En:=
 if 1024<aj lc (IG lc ea key eb)then(c,nl)else((c.write (pa:Nat) (aw lc (IG lc ea key eb))).free (pb2:Nat),nl.eraseIdx (i+1))
theorem Bg(k:ByteArray)(l:List En):(mL k l).length=l.length:=by
 cases l<;>rfl
theorem Oa{leaf:Bool}{k:ByteArray}(q:k.size<=60){l:List En}(h:∀e∈l,e.ok leaf):∀e∈mL k l,e.ok leaf:=by
 cases l with
 |nil=>exact fun e b=>by cases b
 |cons x r=>
  intro e b;rcases bX.1 b with rfl|b
  ·have:=h x List.mem_cons_self;exact⟨q,this.item,this.cU,this.WS,this.node⟩
  exact h e (bT _ b)
theorem RA{a0 w:bC}{l:List En}{B cap:Nat}(h:ba a0 w (.slice (some ⟨B,0,none⟩) l.length cap) l)(H:l≠[])(k:ByteArray):ba a0 (w.setCell ⟨B,0,none⟩ (.string k)) (.slice (some ⟨B,0,none⟩) l.length cap) (mL k l):=by
 rcases h.row.2 with⟨_,I⟩|⟨J,q,y,hv,L,s,z,hc,D,M⟩
 ·exact absurd (aU I) H
 obtain⟨rfl,rfl⟩:B=J/\cap=q:=by
  injection hv with b I O
  injection b with b
  injection b with b
  exact⟨b,O⟩
 have G:B<w.heap.size:=(Array.getElem?_eq_some_iff.1 s).1;rw[setCell_eq_setRow w B 0 y _ _ (.string k) s];refine tO L G hc z (Bg k l) (by rw[Array.size_setIfInBounds];exact D) ?_ s;rw[Array.toList_setIfInBounds,List.take_set,M];cases l with
 |nil=>exact absurd rfl H
 |cons e r=>rfl
theorem ag.own{S T:Nat->Prop}{w b q:bC}(h:ag S w b)(k:ag T b q)(y:∀j,T j->S j\/w.heap.size<=j):ag S w q:=
 ⟨k.1.trans h.1,k.2.1.trans h.2.1,k.2.2.1.trans h.2.2.1,bB h.2.2.2.1 k.2.2.2.1,fun j s hs=>(k.block (aV s h.2.2.2.1) (fun e=>(y j e).elim hs fun e=>by omega)).trans (h.block s hs)⟩
theorem GV(q:bC)(RB:Nat)(v0 v1 v2:Value):ag (fun b=>b=RB) q (((q.setCell ⟨RB,0,none⟩ v0).setCell ⟨RB,1,none⟩ v1).setCell ⟨RB,2,none⟩ v2):=
 ((ag.setCell (S:=fun b=>b=RB) (p:=⟨RB,0,none⟩) q _ rfl).trans (ag.setCell (S:=fun b=>b=RB) (p:=⟨RB,1,none⟩) _ _ rfl)).trans (ag.setCell (S:=fun b=>b=RB) (p:=⟨RB,2,none⟩) _ _ rfl)
section
variable{w:bC}{PB DB M:Nat}{c:Ch}{sv:Head}{t:Int}{d:Dk}
theorem T9(h:cG w PB DB M c sv t d){TP root:Nat}(ht:bH w TP PB root)(k9:TP≠PB/\TP≠DB/\TP≠M){p:Nat}{nl:List En}{s:Value}{a0:bC}(ho:ba a0 w s nl)(ha:a0.heap.size<=w.heap.size)(E3:PB<a0.heap.size/\DB<a0.heap.size/\M<a0.heap.size/\TP<a0.heap.size)
  {k:Nat} {lc:Bool} {pb:Nat} {be:List En} {sb:Value} (o3:oX w sb be) (r7:∀e∈be,e.ok lc) (E4:be.length<=600) (hc:¬341<aj lc be) {i:Nat} (o4:i<nl.length) (o5:i=k-1) (E5:k<=10000) (e0:i+1<nl.length) (w1:nl.length<=10000)
  {pa pb2:Nat} {ea eb:List En} {key:ByteArray} (w2:(nl[i]'o4).cU=pa) (w3:(nl[i+1]'e0).cU=pb2) (r8:(nl[i+1]'e0).key=key)
  (l3:iy c d.pg lc pa ea) (i1:(∀e∈ea,e.ok lc)/\aj lc ea<=1024) (o6:iy c d.pg lc pb2 eb) (e4:(∀e∈eb,e.ok lc)/\aj lc eb<=1024) (l4:eb≠[]) (x3:key.size<=60) (x4:pa≠pb2):
  co prog 256 #[.pointer (some ⟨TP,0,none⟩),bi p false s,.int .i64 (k:Int),bi pb lc sb] w fun e w'=>∃s',e=.returned (.tuple #[bi p false s',.nilIface])/\ba a0 w' s' (xo lc c nl i pa pb2 ea eb key).2/\cG w' PB DB M (xo lc c nl i pa pb2 ea eb key).1 sv t d/\(∀b,s'.ownBlock=some b->s.ownBlock=some b\/w.heap.size<=b)/\ag (fun b=>b=PB\/b=DB\/b=M\/s.ownBlock=some b) w w':=by
 rcases ho.at' with⟨_,rfl⟩|⟨SB,cap,rfl,q2,q3,q4,q5,q6⟩
 ·simp at e0
 have o7:=fun W (g:Gr w W)=>tP pb lc sb be W (o3.gr g) r7 (by omega);obtain⟨bo,cb,rfl⟩:=o3.form;unfold bi at*;have x5:=ae o7;clear o7;have l5:xo lc c nl i pa pb2 ea eb key=if 1024<aj lc (ea++(if lc then eb else mL key eb))then(c,nl)else((c.write (pa:Nat) (aw lc (ea++(if lc then eb else mL key eb)))).free (pb2:Nat),nl.eraseIdx (i+1)):=rfl
 obtain⟨JR,l6⟩:∃JR,xo lc c nl i pa pb2 ea eb key=JR:=⟨_,rfl⟩;rw[l6];rw[l6]at l5;have c4:=ae l5;clear l5;go_enter func256,ntmps256;go_wp2_with fail
 have hj:=Jn.made w p (.slice (some ⟨SB,0,none⟩) nl.length cap) (.int .i64 (pb:Int)) (.bool lc) (.slice bo be.length cb) rfl;generalize((w.alloc (.cells #[.int .i64 (p:Int),.bool false,.slice (some ⟨SB,0,none⟩) nl.length cap] 200)).alloc (.cells #[.int .i64 (pb:Int),.bool lc,.slice bo be.length cb] 200)).alloc (.cells #[.int .i64 0,.bool false,.slice none 0 0] 200)=W3 at*;generalize E6:w.heap.size+1+1=H at*;generalize E7:w.heap.size=J at*;refine(x5.out _ hj.g).mono ?_;rintro e w4 ⟨rfl,a2⟩;have n0:=a2.keeps hj.n0;have n1:=a2.keeps hj.n1;have n2:=a2.keeps hj.n2;have r0:=a2.keeps hj.r0;have r1:=a2.keeps hj.r1;have r2:=a2.keeps hj.r2;have rf:∀o,w4.frozen? ⟨H,o,none⟩=false:=fun o=>(a2.frozen o hj.Xl).trans (hj.rf o);have HJ:=ae hj;have r9:Hid (∀o,w4.frozen? ⟨J,o,none⟩=false):=ae (fun o=>(a2.frozen o (ad hj.n0)).trans (hj.nf o));have i2:=ae (And.intro n0 (And.intro n1 n2));have e5:=ae (And.intro r0 (And.intro r1 (And.intro r2 rf)));have HG:=ae (hj.g.trans a2);have s0:=ae a2.size;clear hj;have x6:¬(341:Int)<(aj lc be:Int):=by omega
 have x7:¬(nl.length:Int)<2:=by omega
 have x8:max ((k:Int)-1) 0=(i:Int):=by omega
 have E8:=ae o5;clear o5;obtain⟨_,_,x2⟩:=(q5.gr HG.out) i o4;obtain⟨z0,_,z2⟩:=(q5.gr HG.out) (i+1) e0;rw[bz,w2]at x2;rw[bz,r8]at z0;rw[bz,w3]at z2;have x9:(i:Int)<(nl.length:Int):=by omega
 have s3:(i:Int)+1<(nl.length:Int):=by omega
 have l7:((i:Int)+1).toNat=i+1:=by omega
 have l8:=fun W (g:Gr w W)=>mP (h.gr g).s (ht.gr g) l3 i1.1 i1.2;have l9:=fun W (g:Gr w W)=>mP (h.gr g).s (ht.gr g) o6 e4.1 e4.2;unfold bi at l8 l9;have y3:=ae l8;have y4:=ae l9;clear l8 l9;go_wp2_with(go_at_call_of 120 (Value.int .i64 (pa:Int));refine(y3.out _ HG.out).mono ?_;rintro e Y ⟨s1,rfl,e6,a3⟩;obtain⟨a5,c5,rfl⟩:=e6.form;(have gA:Gr Y (Y.alloc (.cells #[.int .i64 (pa:Int),.bool lc,.slice a5 ea.length c5] 200)):=(Gr.refl Y).alloc _);(have n0:=gA.keeps (a3.keeps n0));(have n1:=gA.keeps (a3.keeps n1));(have n2:=gA.keeps (a3.keeps n2));(have z0:=gA.keeps (a3.keeps z0));(have z2:=gA.keeps (a3.keeps z2)))
 obtain⟨L,y5⟩:∃L,Y.heap.size=L:=⟨_,rfl⟩;have k0:(Y.alloc (.cells #[.int .i64 (pa:Int),.bool lc,.slice a5 ea.length c5] 200)).cell? ⟨Y.heap.size,0,none⟩=some (.int .i64 (pa:Int)):=by rw[ak];rfl
 have k1:(Y.alloc (.cells #[.int .i64 (pa:Int),.bool lc,.slice a5 ea.length c5] 200)).cell? ⟨Y.heap.size,1,none⟩=some (.bool lc):=by rw[ak];rfl
 have k2:(Y.alloc (.cells #[.int .i64 (pa:Int),.bool lc,.slice a5 ea.length c5] 200)).cell? ⟨Y.heap.size,2,none⟩=some (.slice a5 ea.length c5):=by rw[ak];rfl
 have kf:∀o,(Y.alloc (.cells #[.int .i64 (pa:Int),.bool lc,.slice a5 ea.length c5] 200)).frozen? ⟨Y.heap.size,o,none⟩=false:=fun o=>by simp
 have g0:=(HG.out.trans a3).trans gA;rw[y5]at k0 k1 k2 kf⊢;have m3:=e6.gr gA;generalize Y.alloc (.cells #[.int .i64 (pa:Int),.bool lc,.slice a5 ea.length c5] 200)=w6 at*;refine(y4.out _ g0).mono ?_;rintro e w7 ⟨s2,rfl,m4,d4⟩;obtain⟨a7,c7,rfl⟩:=m4.form;have gB:Gr w7 (w7.alloc (.cells #[.int .i64 (pb2:Int),.bool lc,.slice a7 eb.length c7] 200)):=(Gr.refl w7).alloc _;have V:=d4.trans gB;have n0:=V.keeps n0;have n1:=V.keeps n1;have n2:=V.keeps n2;have z0:=V.keeps z0;have E9:=ad k0;have k0:=V.keeps k0;have k1:=V.keeps k1;have k2:=V.keeps k2;have o9:Hid (L<w6.heap.size):=ae (by assumption);have C6:=ad k0;have F0:=g0.trans V;have m0:(w7.alloc (.cells #[.int .i64 (pb2:Int),.bool lc,.slice a7 eb.length c7] 200)).cell? ⟨w7.heap.size,0,none⟩=some (.int .i64 (pb2:Int)):=by rw[ak];rfl
 have m1:(w7.alloc (.cells #[.int .i64 (pb2:Int),.bool lc,.slice a7 eb.length c7] 200)).cell? ⟨w7.heap.size,1,none⟩=some (.bool lc):=by rw[ak];rfl
 have m2:(w7.alloc (.cells #[.int .i64 (pb2:Int),.bool lc,.slice a7 eb.length c7] 200)).cell? ⟨w7.heap.size,2,none⟩=some (.slice a7 eb.length c7):=by rw[ak];rfl
 have m5:=m4.gr gB;have m3:=m3.gr V;rcases m5.at' with⟨_,e9⟩|⟨B2,s4,e9,b2,b3,b4,b5,b6⟩
 ·exact absurd e9 l4
 obtain⟨rfl,rfl⟩:a7=some ⟨B2,0,none⟩/\c7=s4:=by
  injection e9 with e1 e2 e3
  exact⟨e1,e3⟩
 have i3:0<eb.length:=List.length_pos_iff.2 l4;have s5:(0:Int)<(eb.length:Int):=by omega
 have y0:=(b5 0 i3).1;have y0:(w7.alloc (.cells #[.int .i64 (pb2:Int),.bool lc,.slice (some ⟨B2,0,none⟩) eb.length c7] 200)).cell? ⟨B2,0,none⟩=some (.string (eb[0]'i3).key):=y0;have yf:=b6 0;go_upto_if 61 with(fail)
 obtain⟨BB,y6⟩:∃BB,w7.heap.size=BB:=⟨_,rfl⟩;rw[y6]at m0 m1 m2⊢;generalize w7.alloc (.cells #[.int .i64 (pb2:Int),.bool lc,.slice (some ⟨B2,0,none⟩) eb.length c7] 200)=w8 at*;generalize(eb[0]'i3).key=ky0 at*;go_cut [13] (fun y7 wx=>y7=.pointer (some ⟨BB,0,none⟩)/\ba w6 wx (.slice (some ⟨B2,0,none⟩) eb.length c7) (if lc then eb else mL key eb)/\ag (fun b=>b=B2) w8 wx)
 case first=>
  have i4:cD.wrap ((i:Int)+1)=(i:Int)+1:=cl _ (by omega);have s6:=ae (RA m5 l4 key);cases lc with
  |true=>
   go_wp2_with fail
   go_meet
   exact⟨rfl,by simpa using m5,ag.refl _ _⟩
  |false=>
   go_wp2_with fail
   go_region
   all_goals
    go_wp2_with fail
    go_meet
    exact⟨rfl,by simpa using s6.out.gr (Gr.refl _).drew,(ag.setCell (S:=fun b=>b=B2) (p:=⟨B2,0,none⟩) w8 _ rfl).trans (ag.drew _)⟩
 case rest=>
  obtain⟨rfl,p0,a1⟩:=hcut;have m6:(if lc then eb else mL key eb).length=eb.length:=by
   cases lc
   ·exact Bg key eb
   rfl
  obtain⟨D,j7⟩:∃D,(if lc then eb else mL key eb)=D:=⟨_,rfl⟩;rw[j7]at p0 m6 c4;have c6:∀j,j<w6.heap.size->¬j=B2:=fun j hj e=>by omega
  have g9:J<w6.heap.size:=by
   have:=g0.size;have:=HJ.out.Xl;have:=HJ.out.rb;have:=HG.out.size;have h9:=a3.size;have h8:=gA.size;have h7:=s0.out;omega
  have n0:=a1.keeps (c6 J g9) n0;have n1:=a1.keeps (c6 J g9) n1;have n2:=a1.keeps (c6 J g9) n2;have a8:L<w6.heap.size:=o9.out;have k0:=a1.keeps (c6 L a8) k0;have k1:=a1.keeps (c6 L a8) k1;have k2:=a1.keeps (c6 L a8) k2;have p1:∀o,wc.frozen? ⟨L,o,none⟩=false:=fun o=>by
   rw[a1.frozen o (aV a8 V.size) (c6 L a8),V.frozen o a8];exact kf o
  have y8:Gr w4 wc:=a1.gr ((a3.trans gA).trans V) (fun j e=>by
   have:=a3.size;have:=gA.size;omega)
  have y9:=m3.ay a1 (fun b U e=>by
   have:=bd e6 b U;have:=gA.size;omega)
  have z1:=ae y9;have s7:=ae y8;have z3:=ae p0.qW;have s8:ea.length+D.length<=2000:=by
   have h1:=d_ lc ea;have h2:=d_ lc eb;have h3:=i1.2;have h4:=e4.2;unfold aj at h3 h4;omega
  have p3:ea.length+D.length<=1000000:=by omega
  have g5:(ap a5 ea.length c5).ownBlock≠some L:=fun e=>by
   have:=bd e6 _ e;omega
  have h0:eb.length=D.length:=m6.symm;have z4:=ae h0;rw[z4.out]at m2;have m2:=m2;have s9:Hid (oX wc (.slice (some ⟨B2,0,none⟩) D.length c7) D):=ae (by rw[<-h0];exact z3.out);clear m6 h0;have j8:BB≠B2:=fun e=>by
   have:=bd m4 B2 rfl;omega
  have m2:=a1.keeps j8 m2;have t0:=ad k0;go_wp2_with(at_builtin;(refine oe (a0:=w4) (w:=wc) rfl _ _ rfl (.slice a5 ea.length c5) ea rfl z1.out (.slice (some ⟨B2,0,none⟩) D.length c7) D rfl s9.out p3 s7.out ?_);intro v9 w9 m7 z5 g6 p4;(have k0:=g6.keeps g5 k0);(have k1:=g6.keeps g5 k1);(have k2:=g6.keeps g5 k2);(have kz:w9.frozen? ⟨L,2,none⟩=false:=(g6.frozen 2 t0 g5).trans (p1 2));(obtain⟨a9,c9,rfl⟩:=m7.form))
  have z6:w4.heap.size<=L:=by
   have:=a3.size;omega
  have z7:Gr w4 (w9.setCell ⟨L,2,none⟩ (.slice a9 (ea.length+D.length) c9)):=z5.setCell z6 _;rw[bZ]at m7 p4;have gS:ag (fun b=>b=L) w9 (w9.setCell ⟨L,2,none⟩ (.slice a9 (ea.length+D.length) c9)):=ag.setCell (S:=fun b=>b=L) (p:=⟨L,2,none⟩) w9 _ rfl;have k4:=m7.ay gS (fun b U e=>by
   rcases p4 with h1|h1
   ·exact g5 (by rw[<-h1,U,e])
   rw[h1]at U;have:=bv U;omega)
  have d5:∀e∈ea++D,e.ok lc:=by
   intro e he;rcases bF.1 he with he|he
   ·exact i1.1 e he
   rw[<-j7]at he;cases lc
   ·exact Oa x3 e4.1 e he
   exact e4.1 e he
  have p5:BB≠L:=by
   have:=d4.size;have:=o9.out;omega
  have z8:¬((ap a5 ea.length c5).ownBlock=some BB):=fun e=>by
   have:=bd e6 _ e;have:=d4.size;have:=gA.size;omega
  have m0:=gS.keeps p5 (g6.keeps z8 (a1.keeps j8 m0));have p6:(w9.setCell ⟨L,2,none⟩ (.slice a9 (ea.length+D.length) c9)).cell? ⟨L,0,none⟩=some (.int .i64 (pa:Int)):=by
   rw[aJ _ _ _ _ (by simp)];exact k0
  have p7:(w9.setCell ⟨L,2,none⟩ (.slice a9 (ea.length+D.length) c9)).cell? ⟨L,1,none⟩=some (.bool lc):=by
   rw[aJ _ _ _ _ (by simp)];exact k1
  have p8:=bt w9 ⟨L,2,none⟩ (.slice a9 (ea.length+D.length) c9) k2;generalize w9.setCell ⟨L,2,none⟩ (.slice a9 (ea.length+D.length) c9)=w10 at*;have m8:=tP pa lc _ (ea++D) w10 k4.qW d5 (by rw[bZ];omega);unfold bi at m8;obtain⟨Z,hZ⟩:∃Z,aj lc (ea++D)=Z:=⟨_,rfl⟩;rw[hZ]at c4 m8;refine m8.mono ?_;rintro e g7 ⟨rfl,b0⟩;have a6:=z7.trans b0;have n0:=a6.keeps i2.out.1;have n1:=a6.keeps i2.out.2.1;have n2:=a6.keeps i2.out.2.2;have r0:=a6.keeps e5.out.1;have r1:=a6.keeps e5.out.2.1;have r2:=a6.keeps e5.out.2.2.1;have rf:∀o,g7.frozen? ⟨H,o,none⟩=false:=fun o=>(a6.frozen o (ad e5.out.1)).trans (e5.out.2.2.2 o);have GW:=HG.out.trans a6;have F1:w.heap.size<=H:=by
   have:=HJ.out.rb;omega
  have z9:∀b,(ap (some ⟨SB,0,none⟩) nl.length cap).ownBlock=some b->¬b=H:=fun b U e=>by
   have:=bd ho b U;omega
  have how:=ho.gr GW;have F2:=ae GW;have C7:=ae how;by_cases m9:1024<Z
  ·have p9:(1024:Int)<(Z:Int):=by omega
   rw[if_pos m9]at c4;have y:=ae (mE (v0:=.int .i64 (p:Int)) (v1:=.bool false) (v2:=.slice (some ⟨SB,0,none⟩) nl.length cap) r0 r1 r2);have gR:ag (fun b=>b=H) g7 (((g7.setCell ⟨H,0,none⟩ (.int .i64 (p:Int))).setCell ⟨H,1,none⟩ (.bool false)).setCell ⟨H,2,none⟩ (.slice (some ⟨SB,0,none⟩) nl.length cap)):=((ag.setCell (S:=fun b=>b=H) (p:=⟨H,0,none⟩) g7 _ rfl).trans (ag.setCell (S:=fun b=>b=H) (p:=⟨H,1,none⟩) _ _ rfl)).trans (ag.setCell (S:=fun b=>b=H) (p:=⟨H,2,none⟩) _ _ rfl);have GF:=ae (gR.gr GW (fun j e=>by omega));have OF:=ae (how.ay gR z9);clear gR;go_wp2_with fail
   obtain⟨y0,y1,y2⟩:=y.out;have gF:=GF.out;have oF:=OF.out;generalize(((g7.setCell ⟨H,0,none⟩ (.int .i64 (p:Int))).setCell ⟨H,1,none⟩ (.bool false)).setCell ⟨H,2,none⟩ (.slice (some ⟨SB,0,none⟩) nl.length cap))=n3 at*;refine b_ (v:=.tuple #[.agg #[.int .i64 (p:Int),.bool false,.slice (some ⟨SB,0,none⟩) nl.length cap],.nilIface]) (by simp[cF,cj,go_sem,y0,y1,y2]) rfl ?_;rw[c4.out];exact⟨_,rfl,oF,h.gr gF,fun b U=>.inl U,ag.ah gF⟩
  have p9:¬(1024:Int)<(Z:Int):=by omega
  rw[if_neg m9]at c4;have m0:=b0.keeps m0;have l0:=b0.keeps p6;have l1:=b0.keeps p7;have l2:=b0.keeps p8;have i4:=m_ (h.gr GW) (ht.gr GW) (k4.qW.gr b0) d5 (by omega) l3.1;unfold bi at i4;have A0:=ae i4;clear i4;have n7:=ad n0;have z:J≠PB/\J≠DB/\J≠M:=by omega
  have q:H≠PB/\H≠DB/\H≠M:=by omega
  have n4:BB≠PB/\BB≠DB/\BB≠M:=by
   have:=d4.size;have:=g0.size;omega
  go_wp2_with(go_at_call 200;refine A0.out.mono ?_;rintro e n3 ⟨rfl,t1,B⟩;(have n0:=B.keeps z.1 z.2.1 z.2.2 n0);(have n1:=B.keeps z.1 z.2.1 z.2.2 n1);(have n2:=B.keeps z.1 z.2.1 z.2.2 n2))
  have n8:=how.ay B.2 (fun b U e=>by
   have:=aP ho b U;omega)
  have i5:=zj a0 n3 _ nl (i+1) n8 e0 (by have:=GW.size;have:=B.size;omega) w1;obtain⟨R,hR⟩:∃R,nl.eraseIdx (i+1)=R:=⟨_,rfl⟩;rw[hR]at i5 c4;clear hR;have q7:((i+1:Nat):Int)=(i:Int)+1:=by omega
  have q8:(i:Int)+1+1=(i:Int)+2:=by omega
  rw[q7,q8]at i5;have q9:=ae i5;clear i5 q7 q8;have g8:¬((ap (some ⟨SB,0,none⟩) nl.length cap).ownBlock=some J):=fun e=>by
   have:=bd ho _ e;have:=HJ.out.nb;omega
  have A1:n3.frozen? ⟨J,2,none⟩=false:=by
   rw[B.2.frozen 2 n7 (fun e=>e.elim z.1 fun e=>e.elim z.2.1 z.2.2),a6.frozen 2 (ad i2.out.1)];exact r9.out 2
  have n9:=ad n0;go_wp2_with(go_at_call 255;refine q9.out.mono ?_;rintro e a4 ⟨F3,rfl,h5,G,b9⟩;obtain⟨O,Q,rfl⟩:=h5.form;(have n0:=G.keeps g8 n0);(have n1:=G.keeps g8 n1);(have n2:=G.keeps g8 n2);(have nz:=(G.frozen 2 n9 g8).trans A1))
  have d6:∀b,(ap (some ⟨SB,0,none⟩) nl.length cap).ownBlock=some b->a0.heap.size<=b:=fun b U=>aP ho b U;have n5:∀b,(ap (some ⟨SB,0,none⟩) nl.length cap).ownBlock=some b->b<w.heap.size:=fun b U=>bd ho b U;have c3:¬((ap (some ⟨SB,0,none⟩) nl.length cap).ownBlock=some H):=fun e=>by
   have:=n5 _ e;omega
  have F4:w.heap.size<=BB:=by
   have:=d4.size;have:=g0.size;omega
  have t2:¬((ap (some ⟨SB,0,none⟩) nl.length cap).ownBlock=some BB):=fun e=>by
   have:=n5 _ e;omega
  have A2:J=w.heap.size:=HJ.out.nb;have t3:H=w.heap.size+1+1:=HJ.out.rb;have i6:H≠J:=by omega
  have A3:BB≠J:=by
   have:=d4.size;omega
  have i0:=ad r0;have r0:=G.keeps c3 (B.keeps q.1 q.2.1 q.2.2 r0);have r1:=G.keeps c3 (B.keeps q.1 q.2.1 q.2.2 r1);have r2:=G.keeps c3 (B.keeps q.1 q.2.1 q.2.2 r2);have m0:=G.keeps t2 (B.keeps n4.1 n4.2.1 n4.2.2 m0);have k5:∀o,a4.frozen? ⟨H,o,none⟩=false:=fun o=>by
   rw[G.frozen o (aV i0 B.size) c3,B.2.frozen o i0 (fun e=>e.elim q.1 fun e=>e.elim q.2.1 q.2.2)];exact rf o
  have gS:ag (fun b=>b=J) a4 (a4.setCell ⟨J,2,none⟩ (.slice O R.length Q)):=ag.setCell (S:=fun b=>b=J) (p:=⟨J,2,none⟩) a4 _ rfl;have A4:∀b,(ap O R.length Q).ownBlock=some b->¬b=J:=fun b U e=>g8 (by rw[<-b9,U,e]);have A5:∀b,(ap O R.length Q).ownBlock=some b->¬b=H:=fun b U e=>c3 (by rw[<-b9,U,e]);have A6:∀b,(ap O R.length Q).ownBlock=some b->¬(b=PB\/b=DB\/b=M):=fun b U e=>by
   have:=d6 b (by rw[<-b9];exact U);omega
  have k6:=h5.ay gS A4;have k7:=(t1.ay G (fun e=>by have:=d6 _ e;omega) (fun e=>by have:=d6 _ e;omega) (fun e=>by have:=d6 _ e;omega)).ay gS (fun e=>z.1 e.symm) (fun e=>z.2.1 e.symm) (fun e=>z.2.2 e.symm);have k8:=(((ht.gr GW).pg B k9.1 k9.2.1 k9.2.2).ay G (fun e=>by have:=d6 _ e;omega)).ay gS (fun e=>by omega);have r3:ag (fun b=>b=PB\/b=DB\/b=M\/(ap (some ⟨SB,0,none⟩) nl.length cap).ownBlock=some b) w (a4.setCell ⟨J,2,none⟩ (.slice O R.length Q)):=
   (((ag.ah GW).own B.2 (fun j e=>.inl (e.elim .inl fun e=>e.elim (fun e=>.inr (.inl e)) fun e=>.inr (.inr (.inl e))))).own G (fun j e=>.inl (.inr (.inr (.inr e))))).own gS (fun j e=>.inr (by omega))
  have r0:=gS.keeps i6 r0;have r1:=gS.keeps i6 r1;have r2:=gS.keeps i6 r2;have m0:=gS.keeps A3 m0;have A7:(a4.setCell ⟨J,2,none⟩ (.slice O R.length Q)).cell? ⟨J,0,none⟩=some (.int .i64 (p:Int)):=by
   rw[aJ _ _ _ _ (by simp)];exact n0
  have A8:(a4.setCell ⟨J,2,none⟩ (.slice O R.length Q)).cell? ⟨J,1,none⟩=some (.bool false):=by
   rw[aJ _ _ _ _ (by simp)];exact n1
  have A9:=bt a4 ⟨J,2,none⟩ (.slice O R.length Q) n2;have B0:∀o,(a4.setCell ⟨J,2,none⟩ (.slice O R.length Q)).frozen? ⟨H,o,none⟩=false:=fun o=>by
   have F5:=G.2.2.2.1;have F6:=B.size;rw[gS.frozen o (by omega) i6];exact k5 o
  clear q9 G gS h5 k5 n0 n1 n2;generalize a4.setCell ⟨J,2,none⟩ (.slice O R.length Q)=w14 at*;have tp:=k8.p;have r4:aj lc (ea++D)<=1024:=by omega
  have l7:fE (c.write (pa:Nat) (aw lc (ea++D))) pb2:=(gV (pg:=d.pg) h.f l3.1 (dY d5 r4)).1.IE o6.1 (by simpa using fun e:pb2=pa=>x4 e.symm);have r5:=fun W (g:Gr w14 W)=>BT (k7.gr g) l7;have B1:=ae r5;have t4:=ae r3;have t5:=ae k6;have o0:H<w14.heap.size:=ad r0;have r6:∀(Y:bC) (o:Nat),aY PB DB M M w14 Y->Y.frozen? ⟨H,o,none⟩=false:=fun Y o f5=>(f5.2.frozen o o0 (fun e=>e.elim q.1 fun e=>e.elim q.2.1 q.2.2)).trans (B0 o);have n6:=ae r6;clear r5 r6 r3 k6 k7 k8 A2 t3 r4 l7 d5 x6 x7 x8 x9 s3 s5 i3 p3 s8 p5 n5 d6 k0 k1 k2 kz l0 l1 l2 p6 p7 p8 m1 y0 z0 z2 x2 l6 hZ m9 p9 q2 q3 q5 q6 b2 b3 b5 b6 kf p1;generalize(c.write (pa:Nat) (aw lc (ea++D))).free (pb2:Nat)=CF at*;go_region_with(go_at_call 204;refine(B1.out _ ?_).mono ?_;(with_reducible exact(Gr.refl _).drew);rintro e Y ⟨rfl,B3,B4⟩;(have I:=(aY.ah PB DB M (Gr.refl w14).drew).trans B4);(have r0:=I.keeps q.1 q.2.1 q.2.2 r0);(have r1:=I.keeps q.1 q.2.1 q.2.2 r1);(have r2:=I.keeps q.1 q.2.1 q.2.2 r2);(have x0:=n6.out _ 0 I);(have x1:=n6.out _ 1 I);(have x2:=n6.out _ 2 I);(have q0:=I.keeps z.1 z.2.1 z.2.2 A7);(have q1:=I.keeps z.1 z.2.1 z.2.2 A8);(have q2:=I.keeps z.1 z.2.1 z.2.2 A9))
  all_goals
   have y:=ae (mE (v0:=.int .i64 (p:Int)) (v1:=.bool false) (v2:=.slice O R.length Q) r0 r1 r2);have g3:=ae (GV Y H (.int .i64 (p:Int)) (.bool false) (.slice O R.length Q));go_wp2_with fail
   obtain⟨y0,y1,y2⟩:=y.out;have g3:=g3.out;generalize(((Y.setCell ⟨H,0,none⟩ (.int .i64 (p:Int))).setCell ⟨H,1,none⟩ (.bool false)).setCell ⟨H,2,none⟩ (.slice O R.length Q))=w9 at*;refine b_ (v:=.tuple #[.agg #[.int .i64 (p:Int),.bool false,.slice O R.length Q],.nilIface]) (by simp[cF,cj,go_sem,y0,y1,y2]) rfl ?_;rw[c4.out];exact⟨_,rfl,(t5.out.ay I.2 A6).ay g3 A5,B3.ay g3 (fun e=>q.1 e.symm) (fun e=>q.2.1 e.symm) (fun e=>q.2.2 e.symm),fun b U=>.inl (by rw[<-b9];exact U),(t4.out.own I.2 (fun j e=>.inl (e.elim .inl fun e=>e.elim (fun e=>.inr (.inl e)) fun e=>.inr (.inr (.inl e))))).own g3 (fun j e=>.inr (by have:=HJ.out.rb;omega))⟩
end
theorem T_{T:Nat->Prop}{PB DB M:Nat}{w q s:bC}(h:aY PB DB M M w q)(k:ag (fun b=>b=PB\/b=DB\/b=M\/T b) q s)(z:∀j,T j->w.heap.size<=j):aY PB DB M M w s:=
 ⟨.inl rfl,k.1.trans h.2.1,k.2.1.trans h.2.2.1,k.2.2.1.trans h.2.2.2.1,bB h.size k.2.2.2.1,fun j y hs=>(k.block (aV y h.size) (fun e=>e.elim (fun e=>hs (.inl e)) fun e=>e.elim (fun e=>hs (.inr (.inl e))) fun e=>e.elim (fun e=>hs (.inr (.inr e))) fun e=>by have:=z j e;omega)).trans (h.2.block y hs)⟩
section
variable{w:bC}{PB DB M:Nat}{c:Ch}{sv:Head}{t:Int}{d:Dk}
theorem Ob(h:cG w PB DB M c sv t d){TP root:Nat}(ht:bH w TP PB root)(V:TP≠PB/\TP≠DB/\TP≠M){p:Nat}{l:List En}(hp:iy c d.pg false p l)(p3:∀e∈l,e.ok false)(I:aj false l<=1024)(key:ByteArray)
  {K:Nat} (hK:aL (aH l) key=K) (g5:K<l.length) {c1 C2:Ch} {pb:Nat} {lc:Bool} {be R:List En}
  (a8:∀W,Gr w W->co prog 203 #[.pointer (some ⟨TP,0,none⟩),.int .i64 (l[K].cU:Int),.string key] W fun e w'=>∃s,e=.returned (.tuple #[bi pb lc s,.nilIface])/\ba W w' s be/\cG w' PB DB M c1 sv t d/\aY PB DB M M W w')
  (e6:be≠[]->∀(a0 W:bC) s sb,cG W PB DB M c1 sv t d->bH W TP PB root->ba a0 W s l->a0.heap.size<=W.heap.size->(PB<a0.heap.size/\DB<a0.heap.size/\M<a0.heap.size/\TP<a0.heap.size)->oX W sb be->
   co prog 256 #[.pointer (some ⟨TP,0,none⟩),bi p false s,.int .i64 (K:Int),bi pb lc sb] W fun e w'=>∃s',e=.returned (.tuple #[bi p false s',.nilIface])/\ba a0 w' s' R/\cG w' PB DB M C2 sv t d/\(∀b,s'.ownBlock=some b->s.ownBlock=some b\/W.heap.size<=b)/\ag (fun b=>b=PB\/b=DB\/b=M\/s.ownBlock=some b) W w')
  (e7:be=[]->fE c1 pb/\C2=c1.free (pb:Nat)/\R=l.eraseIdx K) (hR:(∀e∈R,e.ok false)/\aj false R<=1024) (p4:fE C2 p) (v5:be.length<=1000):
  co prog 203 #[.pointer (some ⟨TP,0,none⟩),.int .i64 (p:Int),.string key] w fun e w'=>∃s,e=.returned (.tuple #[bi p false s,.nilIface])/\ba w w' s R/\cG w' PB DB M (C2.write (p:Nat) (aw false R)) sv t d/\aY PB DB M M w w':=by
 have b9:=fun W (g:Gr w W)=>mP (h.gr g).s (ht.gr g) hp p3 I;have p5:=ae b9;clear b9;have n5:=ae a8;have HJ:=ae e6;have k4:=ae e7;clear a8 e6 e7;have i0:Gr w (w.alloc (.cells #[.int .i64 0,.bool false,.slice none 0 0] 200)):=(Gr.refl w).alloc _;have U:(w.alloc (.cells #[.int .i64 0,.bool false,.slice none 0 0] 200)).cell? ⟨w.heap.size,0,none⟩=some (.int .i64 0):=by rw[ak];rfl
 have r1:(w.alloc (.cells #[.int .i64 0,.bool false,.slice none 0 0] 200)).cell? ⟨w.heap.size,1,none⟩=some (.bool false):=by rw[ak];rfl
 have r2:(w.alloc (.cells #[.int .i64 0,.bool false,.slice none 0 0] 200)).cell? ⟨w.heap.size,2,none⟩=some (.slice none 0 0):=by rw[ak];rfl
 have rf:∀o,(w.alloc (.cells #[.int .i64 0,.bool false,.slice none 0 0] 200)).frozen? ⟨w.heap.size,o,none⟩=false:=fun o=>by simp
 have hl:l.length<=600:=by
  have:=d_ false l;unfold aj at I;omega
 have v7:(aH l).length=l.length:=by unfold aH;rw[aQ]
 obtain⟨CW,i1⟩:∃CW,C2.write (p:Nat) (aw false R)=CW:=⟨_,rfl⟩;rw[i1];have p6:=ae i1;clear i1;go_enter func203,ntmps203;go_wp2_with fail
 have g6:Hid (w.heap.size<(w.alloc (.cells #[.int .i64 0,.bool false,.slice none 0 0] 200)).heap.size):=ae (by simp);have b9:=p5.out _ i0;have c0:=ae i0;obtain⟨WB,l2⟩:∃WB,w.alloc (.cells #[.int .i64 0,.bool false,.slice none 0 0] 200)=WB:=⟨_,rfl⟩;rw[l2]at b9 U r1 r2 rf c0 g6⊢;clear l2 i0;obtain⟨RB,l3⟩:∃RB,w.heap.size=RB:=⟨_,rfl⟩;have c2:=ae l3;rw[l3]at U r1 r2 rf g6⊢;refine b9.mono ?_;rintro e w1 ⟨s',rfl,d1,i2⟩;obtain⟨ao,ca,rfl⟩:=d1.form;have i3:=fun W (g:Gr w1 W)=>qh p false l (.slice ao l.length ca) key W (d1.qW.gr g) (by omega);simp only[Bool.false_eq_true,if_false]at i3;have d2:Gr w1 (w1.alloc (.cells #[.int .i64 (p:Int),.bool false,.slice ao l.length ca] 200)):=(Gr.refl w1).alloc _;unfold bi at*;have l4:=ae i3;have d3:=i2.trans d2;have U:=d3.keeps U;have r1:=d3.keeps r1;have r2:=d3.keeps r2;have k0:(w1.alloc (.cells #[.int .i64 (p:Int),.bool false,.slice ao l.length ca] 200)).cell? ⟨w1.heap.size,0,none⟩=some (.int .i64 (p:Int)):=by rw[ak];rfl
 have k1:(w1.alloc (.cells #[.int .i64 (p:Int),.bool false,.slice ao l.length ca] 200)).cell? ⟨w1.heap.size,1,none⟩=some (.bool false):=by rw[ak];rfl
 have k2:(w1.alloc (.cells #[.int .i64 (p:Int),.bool false,.slice ao l.length ca] 200)).cell? ⟨w1.heap.size,2,none⟩=some (.slice ao l.length ca):=by rw[ak];rfl
 have kf:∀o,(w1.alloc (.cells #[.int .i64 (p:Int),.bool false,.slice ao l.length ca] 200)).frozen? ⟨w1.heap.size,o,none⟩=false:=fun o=>by simp
 clear b9 i3;go_wp2_with fail
 obtain⟨G,i4⟩:∃G,w1.heap.size=G:=⟨_,rfl⟩;rw[i4]at k0 k1 k2 kf⊢;rw[hK]at l4;generalize dR (aH l) key=hit at*;rcases d1.at' with⟨_,e2⟩|⟨B,cap,e3,h2,h3,h4,h5,h6⟩
 ·rw[e2]at g5;exact absurd g5 (by simp)
 obtain⟨rfl,rfl⟩:ao=some ⟨B,0,none⟩/\ca=cap:=by
  injection e3 with e1 e2 e3
  exact⟨e1,e3⟩
 refine(l4.out _ d2).mono ?_;rintro e w2 ⟨rfl,O⟩;have U:=O.keeps U;have r1:=O.keeps r1;have r2:=O.keeps r2;have k0:=O.keeps k0;have k1:=O.keeps k1;have k2:=O.keeps k2;have l6:=d1.gr (d2.trans O);have i5:=d3.trans O;have v8:(K:Int)<(l.length:Int):=by omega
 obtain⟨_,_,b2⟩:=(h5.gr (d2.trans O)) K g5;rw[bz]at b2;have i6:=c0.out.trans i5;have a8:=n5.out _ i6;generalize(l[K].cU:Int)=pgi at*;have p7:=ae a8;have v9:=ae hK;clear a8 hK;have n6:G<w2.heap.size:=ad k0;have n7:RB<w2.heap.size:=ad U;have p8:=h.lt;have w0:=ad ht.p;have p9:WB.heap.size<=G:=by
  rw[<-i4];exact i2.size
 have w4:RB<WB.heap.size:=g6.out;have l7:=c0.out.size;rw[c2.out]at l7;have c4:=c2.out;have q:G≠PB/\G≠DB/\G≠M/\G≠TP/\G≠RB:=by omega
 have z:RB≠PB/\RB≠DB/\RB≠M/\RB≠TP:=by omega
 have b1:∀o,w2.frozen? ⟨G,o,none⟩=false:=fun o=>(O.frozen o (by rw[<-i4];simp)).trans (kf o);have b3:∀o,w2.frozen? ⟨RB,o,none⟩=false:=fun o=>(i5.frozen o g6.out).trans (rf o);have i7:=ae i6;have l8:=ae l6;clear i6 l6 i5 O d3 d2 i2 kf rf c4 l7;go_wp2_with fail
 refine p7.out.mono ?_;rintro e J ⟨s3,rfl,i9,l9,H⟩;obtain⟨a3,c3,rfl⟩:=i9.form;unfold bi at*;replace U:=H.keeps z.1 z.2.1 z.2.2.1 U;replace r1:=H.keeps z.1 z.2.1 z.2.2.1 r1;replace r2:=H.keeps z.1 z.2.1 z.2.2.1 r2;replace k0:=H.keeps q.1 q.2.1 q.2.2.1 k0;replace k1:=H.keeps q.1 q.2.1 q.2.2.1 k1;replace k2:=H.keeps q.1 q.2.1 q.2.2.1 k2;replace b1:∀o,J.frozen? ⟨G,o,none⟩=false:=fun o=>(H.2.frozen o n6 (fun e=>e.elim q.1 fun e=>e.elim q.2.1 q.2.2.1)).trans (b1 o);replace b3:∀o,J.frozen? ⟨RB,o,none⟩=false:=fun o=>(H.2.frozen o n7 (fun e=>e.elim z.1 fun e=>e.elim z.2.1 z.2.2.1)).trans (b3 o);have Z:Gr J (J.alloc (.cells #[.int .i64 (pb:Int),.bool lc,.slice a3 be.length c3] 200)):=(Gr.refl J).alloc _;have z0:(J.alloc (.cells #[.int .i64 (pb:Int),.bool lc,.slice a3 be.length c3] 200)).cell? ⟨J.heap.size,0,none⟩=some (.int .i64 (pb:Int)):=by rw[ak];rfl
 have z1:(J.alloc (.cells #[.int .i64 (pb:Int),.bool lc,.slice a3 be.length c3] 200)).cell? ⟨J.heap.size,1,none⟩=some (.bool lc):=by rw[ak];rfl
 have z2:(J.alloc (.cells #[.int .i64 (pb:Int),.bool lc,.slice a3 be.length c3] 200)).cell? ⟨J.heap.size,2,none⟩=some (.slice a3 be.length c3):=by rw[ak];rfl
 have h8:G<J.heap.size:=ad k0;have n8:RB<J.heap.size:=ad U;replace U:=Z.keeps U;replace r1:=Z.keeps r1;replace r2:=Z.keeps r2;replace k0:=Z.keeps k0;replace k1:=Z.keeps k1;replace k2:=Z.keeps k2;replace b1:∀o,(J.alloc (.cells #[.int .i64 (pb:Int),.bool lc,.slice a3 be.length c3] 200)).frozen? ⟨G,o,none⟩=false:=fun o=>(Z.frozen o h8).trans (b1 o);replace b3:∀o,(J.alloc (.cells #[.int .i64 (pb:Int),.bool lc,.slice a3 be.length c3] 200)).frozen? ⟨RB,o,none⟩=false:=fun o=>(Z.frozen o n8).trans (b3 o);have m0:=ae (l9.gr Z);have m1:=ae (((aY.ah PB DB M i7.out).trans H).trans (aY.ah PB DB M Z));have j0:=((ht.gr i7.out).pg H V.1 V.2.1 V.2.2).gr Z;have n9:PB<WB.heap.size/\DB<WB.heap.size/\M<WB.heap.size/\TP<WB.heap.size:=by
  have:=c2.out;omega
 have j1:∀b,(ap (some ⟨B,0,none⟩) l.length ca).ownBlock=some b->WB.heap.size<=b:=fun b I=>aP l8.out b I;have m2:=ae ((l8.out.ay H.2 (fun b I e=>by have:=j1 b I;omega)).gr Z);have q3:=ae (i9.qW.gr Z);have Y:=ae j1;have q4:G≠J.heap.size/\RB≠J.heap.size/\PB≠J.heap.size/\DB≠J.heap.size/\M≠J.heap.size:=by
  have:=H.size;have:=i7.out.size;have:=H.2.2.2.2.1;omega
 have tp:=j0.p;have j2:=ae j0;have a4:¬((ap (some ⟨B,0,none⟩) l.length ca).ownBlock=some G):=fun e=>by
  have:=bd d1 _ e;omega
 have b4:¬((ap (some ⟨B,0,none⟩) l.length ca).ownBlock=some RB):=fun e=>by
  have:=Y.out _ e;omega
 have h9:WB.heap.size<=(J.alloc (.cells #[.int .i64 (pb:Int),.bool lc,.slice a3 be.length c3] 200)).heap.size:=bB (Nat.le_of_lt (Nat.lt_of_le_of_lt p9 h8)) Z.size;clear j0 j1 l9 H i9 Z b2;go_upto_if 66 with(fail)
 obtain⟨ZB,m3⟩:∃ZB,J.heap.size=ZB:=⟨_,rfl⟩;rw[m3]at z0 z1 z2 q4⊢;clear m3;generalize J.alloc (.cells #[.int .i64 (pb:Int),.bool lc,.slice a3 be.length c3] 200)=W4 at*;go_cut [9] (fun s9 wx=>s9=.nilIface/\∃aR cR,(wx.cell? ⟨G,0,none⟩=some (.int .i64 (p:Int))/\wx.cell? ⟨G,1,none⟩=some (.bool false)/\wx.cell? ⟨G,2,none⟩=some (.slice aR R.length cR))/\(wx.cell? ⟨RB,0,none⟩=some (.int .i64 0)/\wx.cell? ⟨RB,1,none⟩=some (.bool false)/\wx.cell? ⟨RB,2,none⟩=some (.slice none 0 0)/\∀o,wx.frozen? ⟨RB,o,none⟩=false)/\(ba WB wx (.slice aR R.length cR) R/\∀b,(ap aR R.length cR).ownBlock=some b->¬b=G/\¬b=RB)/\cG wx PB DB M C2 sv t d/\bH wx TP PB root/\aY PB DB M M w wx)
 case first=>
  by_cases g7:be=[]
  ·have q5:(be.length:Int)=0:=by rw[g7];rfl
   obtain⟨hu,hC,m4⟩:=k4.out g7;have j3:=fun W (g:Gr W4 W)=>BT (m0.out.gr g) hu;rw[<-hC]at j3;have q6:=ae j3;have q7:=ae m4;have c4:cD.wrap ((K:Int)+1)=(K:Int)+1:=cl _ (by omega);clear j3 m4 hC;go_wp2_with fail
   go_region_with(go_at_call 204;refine(q6.out _ ?_).mono ?_;(with_reducible exact(Gr.refl _).drew);rintro e w5 ⟨rfl,b5,g8⟩)
   all_goals
    have D:=(aY.ah PB DB M (Gr.refl W4).drew).trans g8;have j4:=ad k0;have j5:=ad U;have q0:=D.keeps q.1 q.2.1 q.2.2.1 k0;have q1:=D.keeps q.1 q.2.1 q.2.2.1 k1;have q2:=D.keeps q.1 q.2.1 q.2.2.1 k2;have p0:=D.keeps z.1 z.2.1 z.2.2.1 U;have p1:=D.keeps z.1 z.2.1 z.2.2.1 r1;have p2:=D.keeps z.1 z.2.1 z.2.2.1 r2;have qz:w5.frozen? ⟨G,2,none⟩=false:=(D.2.frozen 2 j4 (fun e=>e.elim q.1 fun e=>e.elim q.2.1 q.2.2.1)).trans (b1 2);have pz:∀o,w5.frozen? ⟨RB,o,none⟩=false:=fun o=>(D.2.frozen o j5 (fun e=>e.elim z.1 fun e=>e.elim z.2.1 z.2.2.1)).trans (b3 o);have PZ:=ae pz;have c7:=m2.out.ay D.2 (fun b I e=>by have:=Y.out b I;omega);have j6:=zj WB w5 _ l K c7 g5 (bB h9 D.size) (by omega);rw[<-q7.out]at j6;have q8:=ae j6;have j7:=ae b5;have m5:=ae D;have q9:=ad q0;have g9:=ad p0;clear j6 b5 g8 D c7 pz;go_wp2_with(refine q8.out.mono ?_;rintro e w6 ⟨v6,rfl,b6,L,e5⟩;obtain⟨a6,c6,rfl⟩:=b6.form;(have q0:=L.keeps a4 q0);(have q1:=L.keeps a4 q1);(have q2:=L.keeps a4 q2);(have qz:=(L.frozen 2 q9 a4).trans qz))
    have gS:ag (fun b=>b=G) w6 (w6.setCell ⟨G,2,none⟩ (.slice a6 R.length c6)):=ag.setCell (S:=fun b=>b=G) (p:=⟨G,2,none⟩) w6 _ rfl;have r3:RB<w6.heap.size:=aV g9 L.2.2.2.1;go_meet
    refine⟨rfl,a6,c6,⟨?_,?_,bt _ _ _ q2⟩,⟨gS.keeps q.2.2.2.2.symm (L.keeps b4 p0),gS.keeps q.2.2.2.2.symm (L.keeps b4 p1),gS.keeps q.2.2.2.2.symm (L.keeps b4 p2),fun o=>?_⟩,⟨b6.ay gS ?_,?_⟩,?_,?_,?_⟩
    ·rw[aJ _ _ _ _ (by simp)];exact q0
    ·rw[aJ _ _ _ _ (by simp)];exact q1
    ·rw[gS.frozen o r3 q.2.2.2.2.symm,L.frozen o g9 b4];exact PZ.out o
    ·exact fun b I e=>a4 (by rw[<-e5,I,e])
    ·exact fun b I=>⟨fun e=>a4 (by rw[<-e5,I,e]),fun e=>b4 (by rw[<-e5,I,e])⟩
    ·exact(j7.out.ay L (fun e=>by have:=Y.out _ e;omega) (fun e=>by have:=Y.out _ e;omega) (fun e=>by have:=Y.out _ e;omega)).ay gS (fun e=>q.1 e.symm) (fun e=>q.2.1 e.symm) (fun e=>q.2.2.1 e.symm)
    ·exact((j2.out.pg m5.out V.1 V.2.1 V.2.2).ay L (fun e=>by have:=Y.out _ e;omega)).ay gS (fun e=>q.2.2.2.1 e.symm)
    exact((m1.out.trans m5.out).own L (fun j e=>by have:=Y.out _ e;have:=c0.out.size;omega)).own gS (fun j e=>by have:=c2.out;omega)
  have q5:¬(be.length:Int)=0:=fun e=>g7 (aU (by omega));have hj:=HJ.out g7 WB W4 _ _ m0.out j2.out m2.out h9 n9 q3.out;unfold bi at hj;have r4:=ae hj;clear hj;go_wp2_with fail
  refine r4.out.mono ?_;rintro e w5 ⟨s5,rfl,c7,b5,m7,Q⟩;obtain⟨a5,c5,rfl⟩:=c7.form;have j4:=ad k0;have j5:=ad U;have d9:¬(G=PB\/G=DB\/G=M\/(ap (some ⟨B,0,none⟩) l.length ca).ownBlock=some G):=fun e=>e.elim q.1 fun e=>e.elim q.2.1 fun e=>e.elim q.2.2.1 a4;have e0:¬(RB=PB\/RB=DB\/RB=M\/(ap (some ⟨B,0,none⟩) l.length ca).ownBlock=some RB):=fun e=>e.elim z.1 fun e=>e.elim z.2.1 fun e=>e.elim z.2.2.1 b4;have q0:=Q.keeps d9 k0;have q1:=Q.keeps d9 k1;have q2:=Q.keeps d9 k2;have qz:∀o,w5.frozen? ⟨G,o,none⟩=false:=fun o=>(Q.frozen o j4 d9).trans (b1 o);have w7:=qz 0;have w8:=qz 1;have x3:=qz 2;have PZ:Hid (∀o,w5.frozen? ⟨RB,o,none⟩=false):=ae fun o=>(Q.frozen o j5 e0).trans (b3 o);have PR:=ae (And.intro (Q.keeps e0 U) (And.intro (Q.keeps e0 r1) (Q.keeps e0 r2)));have y:=ae (mE (v0:=.int .i64 (p:Int)) (v1:=.bool false) (v2:=.slice a5 R.length c5) q0 q1 q2);have g3:=ae (GV w5 G (.int .i64 (p:Int)) (.bool false) (.slice a5 R.length c5));have m9:=ae Q;have r5:=ae c7;have j7:=ae b5;have r6:=ae m7;clear Q c7 b5 m7 d9 e0 qz;go_wp2_with fail
  obtain⟨y0,y1,y2⟩:=y.out;have g3:=g3.out;have h0:¬RB=G:=fun e=>q.2.2.2.2 e.symm;have g9:=ad PR.out.1;have e4:∀b,(ap a5 R.length c5).ownBlock=some b->¬b=G/\¬b=RB:=fun b I=>by
   rcases r6.out b I with e|e
   ·exact⟨fun e1=>a4 (by rw[e,e1]),fun e1=>b4 (by rw[e,e1])⟩
   omega
  generalize((w5.setCell ⟨G,0,none⟩ (.int .i64 (p:Int))).setCell ⟨G,1,none⟩ (.bool false)).setCell ⟨G,2,none⟩ (.slice a5 R.length c5)=w9 at*;go_meet
  refine⟨rfl,a5,c5,⟨y0,y1,y2⟩,⟨g3.keeps h0 PR.out.1,g3.keeps h0 PR.out.2.1,g3.keeps h0 PR.out.2.2,fun o=>(g3.frozen o g9 h0).trans (PZ.out o)⟩,⟨r5.out.ay g3 (fun b I=>(e4 b I).1),e4⟩,?_,?_,?_⟩
  ·exact j7.out.ay g3 (fun e=>q.1 e.symm) (fun e=>q.2.1 e.symm) (fun e=>q.2.2.1 e.symm)
  ·exact(j2.out.ay m9.out (fun e=>e.elim V.1 fun e=>e.elim V.2.1 fun e=>e.elim V.2.2 fun e=>by have:=Y.out _ e;omega)).ay g3 (fun e=>q.2.2.2.1 e.symm)
  exact(T_ m1.out m9.out (fun j e=>by have:=Y.out _ e;have:=c0.out.size;omega)).own g3 (fun j e=>by have:=c2.out;omega)
 case rest=>
  obtain⟨rfl,aR,cR,⟨q0,q1,q2⟩,⟨p0,p1,p2,pz⟩,⟨b6,e4⟩,n1,j8,n2⟩:=hcut;have o0:RB<wc.heap.size:=ad p0;have c4:=fun W (g:Gr wc W)=>m_ (n1.gr g) (j8.gr g) (b6.qW.gr g) hR.1 hR.2 p4;simp only[p6.out]at c4;have x4:=j8.p;have n3:=ae c4;have r7:=ae n2;have r8:=ae (b6.back c0.out);have r9:Hid (∀b,(ap aR R.length cR).ownBlock=some b->WB.heap.size<=b):=ae fun b I=>aP b6 b I;have s0:=ae e4;unfold bi at n3;have n4:∀(w5:bC) (o:Nat),aY PB DB M M wc w5->w5.frozen? ⟨RB,o,none⟩=false:=fun w5 o f5=>(f5.2.frozen o o0 (fun e=>e.elim z.1 fun e=>e.elim z.2.1 z.2.2.1)).trans (pz o);have j9:=ae n4;clear c4 n2 n1 b6 j8 n4 e4 U r1 r2 k0 k1 k2 b1 b3 z0 z1 z2 tp pz;go_wp2_with fail
  go_region_with(go_at_call 200;refine(n3.out _ ?_).mono ?_;(with_reducible exact(Gr.refl _).drew);rintro e w5 ⟨rfl,b5,g8⟩;(have D:=(aY.ah PB DB M (Gr.refl wc).drew).trans g8);(have p0:=D.keeps z.1 z.2.1 z.2.2.1 p0);(have p1:=D.keeps z.1 z.2.1 z.2.2.1 p1);(have p2:=D.keeps z.1 z.2.1 z.2.2.1 p2);(have x0:=j9.out _ 0 D);(have x1:=j9.out _ 1 D);(have x2:=j9.out _ 2 D);(have q0:=D.keeps q.1 q.2.1 q.2.2.1 q0);(have q1:=D.keeps q.1 q.2.1 q.2.2.1 q1);(have q2:=D.keeps q.1 q.2.1 q.2.2.1 q2))
  all_goals
   have y:=ae (mE (v0:=.int .i64 (p:Int)) (v1:=.bool false) (v2:=.slice aR R.length cR) p0 p1 p2);have tn:=ae (DN (RB:=RB) (Nat.le_of_eq c2.out) (r7.out.trans D) b5 (r8.out.ay D.2 (fun b I e=>by have:=r9.out b I;omega)) (fun b I=>(s0.out b I).2) p8 (.int .i64 (p:Int)) (.bool false) (.slice aR R.length cR));go_wp2_with fail
   obtain⟨y0,y1,y2⟩:=y.out;have k3:=tn.out;generalize(((w5.setCell ⟨RB,0,none⟩ (.int .i64 (p:Int))).setCell ⟨RB,1,none⟩ (.bool false)).setCell ⟨RB,2,none⟩ (.slice aR R.length cR))=w9 at*;refine b_ (v:=.tuple #[.agg #[.int .i64 (p:Int),.bool false,.slice aR R.length cR],.nilIface]) (by simp[cF,Tryz.results203,go_sem,y0,y1,y2]) rfl ⟨_,rfl,k3.1,k3.2.1,k3.2.2⟩
end
theorem Oc{pg:Nat->ByteArray}{d:Nat}{c:Ch}{p:Nat}{l:List (ByteArray×T d)}(hl:T.lays (d:=d+1) c pg (p,l))(ho:T.fC (d:=d+1) (p,l))(hn:(p::l.flatMap fun y=>y.2.ai).Nodup){K:Nat}{x:ByteArray×T d}(hx:l[K]?=some x){c1:Ch}{u:T d}(B:Pb pg c x.2 (c1,u))(hu:u.aO≠[]):Kids pg c1 p (l.set K (x.1,u)):=by
 obtain⟨I,J,q,Q⟩:=mv hx;have b2:x∈l:=by rw[q];simp
 have H:=hn;rw[q,bj,bc]at H;obtain⟨n1,n2⟩:=bM.1 H;obtain⟨n3,n4,n5⟩:=aS.1 n2;obtain⟨n6,n7,n8⟩:=aS.1 n4;have S:∀y∈l,y.2.lays c pg:=hl.2;have V:∀y∈l,y.2.fC:=ho.2;have D:qG false (l.map aM):=ho.1;have s:∀y,y∈I\/y∈J->y∈l/\∀k∈y.2.ai,k∉x.2.ai:=fun y b=>by
  rcases b with b|b
  ·refine⟨by rw[q];exact bu _ b,fun k M O=>n5 k (cg.2 ⟨y,b,M⟩) k (bu _ O) rfl⟩
  refine⟨by rw[q];exact List.mem_append_right _ (bT _ b),fun k M O=>n8 k O k (cg.2 ⟨y,b,M⟩) rfl⟩
 have Y:Fr pg x.2.ai c c1:=B.fr;have Z:u.pg=x.2.pg:=B.cU;have a0:u.lays c1 pg:=B.lays;have a1:u.fC:=B.fits hu;have a2:∀k∈u.ai,k∈x.2.ai:=B.sub;have a3:u.ai.Nodup:=B.nd;have L:l.set K (x.1,u)=I++(x.1,u)::J:=by rw[<-Q,q,mW]
 have G:(I++(x.1,u)::J).map aM=l.map aM:=by
  rw[q];simp only[List.map_append,List.map_cons];have:aM (x.1,u)=aM x:=by
   unfold aM;rw[Z]
  rw[this]
 have z:∀y,y∈I\/y∈J->y.2.lays c1 pg/\y.2.fC:=fun y b=>⟨T.hJ Y (S y (s y b).1) (s y b).2,V y (s y b).1⟩;rw[L];refine⟨fun y b=>?_,fun y b=>?_,by rw[G];exact D.2.2,by rw[G];exact D.2.1,?_⟩
 ·rcases bF.1 b with h|h
  ·exact(z y (.inl h)).1
  rcases bX.1 h with e|h
  ·rw[e];exact a0
  exact(z y (.inr h)).1
 ·rcases bF.1 b with h|h
  ·exact(z y (.inl h)).2
  rcases bX.1 h with e|h
  ·rw[e];exact a1
  exact(z y (.inr h)).2
 rw[bj,bc];exact wI (U:=fun _=>True) H a3 (fun k hk=>.inl (a2 k hk)) (fun _ _=>trivial)
theorem lS{b q:Type}(f:b->q):∀(l:List b) (i:Nat),(l.eraseIdx i).map f=(l.map f).eraseIdx i
 |[],_=>by simp
 |_::_,0=>rfl
 |a::l,i+1=>by
  show f a::((l.eraseIdx i).map f)=f a::((l.map f).eraseIdx i);rw[lS f l i]
theorem LK(c:Ch)(k:Int)(s:ByteArray):(c.write k s).h=c.h:=by
 unfold Ch.write
 split<;>rfl
section
variable{PB DB M:Nat}{sv:Head}{t:Int}{dk:Dk}
theorem PK{TP root:Nat}(J:TP≠PB/\TP≠DB/\TP≠M)(key:ByteArray):∀{n:Nat} {c:Ch} {x:T n} {w:bC},cG w PB DB M c sv t dk->bH w TP PB root->x.lays c dk.pg->x.fC->x.ai.Nodup->kZ key x≠none->
  co prog 203 #[.pointer (some ⟨TP,0,none⟩),.int .i64 (x.pg:Int),.string key] w fun e w'=>∃s,e=.returned (.tuple #[bi x.pg (cn n) s,.nilIface])/\ba w w' s (dN c x key).2.aO/\cG w' PB DB M (dN c x key).1 sv t dk/\aY PB DB M M w w'
 |0,c,x,w,h,ht,U,D,hn,hg=>by
  obtain⟨p,l⟩:Nat×List (ByteArray×ByteArray):=x;have hh:dR (aH (l.map cy)) key=true:=by
   rw[tX];cases hc:dR (l.map aX) key with
   |true=>rfl
   |false=>
    refine absurd ?_ hg;show(if dR (l.map aX) key then(l[am (l.map aX) key]?).map cK else none)=none;rw[hc]
    rfl
  have hp:=N9 h ht J (p:=p) (l:=l.map cy) U D.2.2 D.2.1 key hh;rw[tX,<-lS]at hp;exact hp
 |n+1,c,t0,w,h,ht,U,D,hn,hg=>by
  obtain⟨p,l⟩:Nat×List (ByteArray×T n):=t0;have d5:l.map aX≠[]:=fun e=>D.1.1 (by
   have:l=[]:=List.map_eq_nil_iff.1 e;show l.map aM=[];rw[this]
   rfl)
  have B:=oE d5 key;rw[aQ]at B;obtain⟨K,hK⟩:∃K,aL (l.map aX) key=K:=⟨_,rfl⟩;rw[hK]at B;obtain⟨x,O⟩:∃x,l[K]?=some x:=⟨_,az B⟩;have b5:l[K]=x:=by
   rw[az B]at O;exact bv O
  have b6:x∈l:=bh O;have b7:(p::l.flatMap fun y=>y.2.ai).Nodup:=hn;obtain⟨n1,n2⟩:=bM.1 b7;have b8:x.2.lays c dk.pg:=U.2 x b6;have b9:x.2.fC:=D.2 x b6;have c0:x.2.ai.Nodup:=by
   obtain⟨l1,l2,a5,_⟩:=mv O;rw[a5,bj,bc]at n2;exact(aS.1 (aS.1 n2).2.1).1
  have d6:kZ key x.2≠none:=by
   have e:kZ key (d:=n+1) (p,l)=(l[aL (l.map aX) key]?).bind fun x=>kZ key x.2:=rfl;rw[e,hK,O]at hg;exact hg
  have V:=re (pg:=dk.pg) (key:=key) h.f b8 b9 c0;have iw:=fun W (g:Gr w W)=>PK J key (h.gr g) (ht.gr g) b8 b9 c0 d6;have I:=re (pg:=dk.pg) (key:=key) h.f U D hn;rcases hr:dN c x.2 key with⟨c1,u⟩
  rw[hr]at V iw;have c2:u.pg=x.2.pg:=V.cU;have q:(l.set K (x.1,u)).map aM=l.map aM:=by
   rw[cs];have z:aM (x.1,u)=aM x:=by
    unfold aM;rw[c2]
   have a6:(l.map aM)[K]'(by rw[aQ];exact B)=aM x:=by rw[ch,b5]
   rw[z,<-a6,bQ]
  obtain⟨s,hs⟩:∃s:Ch×List (ByteArray×T n),(if u.aO.isEmpty then(c1.free (u.pg:Nat),(l.set K (x.1,u)).eraseIdx K)else du c1 (l.set K (x.1,u)) K u)=s:=⟨_,rfl⟩;have e0:dN (d:=n+1) c (p,l) key=(s.1.write (p:Nat) (aw false (s.2.map aM)),(p,s.2)):=by
   refine(dN.eq_2 c key n ((p,l):Nat×List (ByteArray×T n))).trans ?_;simp only[hK,O,hr,hs]
   rfl
  rw[e0]at I;rw[e0];have d1:K<(l.map aM).length:=by rw[aQ];exact B
  have a6:(l.map aM)[K]=aM x:=by rw[ch,b5]
  have d2:fE s.1 p:=by
   have z:iy (s.1.write (p:Nat) (aw false (s.2.map aM))) dk.pg false p (s.2.map aM):=I.lays.1;have Q:=z.1;rw[LK]at Q;exact Q
  have d3:(∀e∈s.2.map aM,e.ok false)/\aj false (s.2.map aM)<=1024:=by
   cases c3:s.2 with
   |nil=>exact⟨(fun e he=>by cases he),CA false⟩
   |cons a r=>
    have z:qG false (s.2.map aM):=(I.fits (fun e=>by
     have Q:s.2.map aM=[]:=e;rw[c3]at Q;cases Q)).1
    rw[<-c3];exact⟨z.2.2,z.2.1⟩
  have d7:u.lays c1 dk.pg:=V.lays;have c4:u.aO.length<=600:=by
   by_cases c5:u.aO=[]
   ·rw[c5];simp
   have L:u.fC:=V.fits c5;have z:=(T.lA.1 L).1.2.1;have Q:=d_ (cn n) u.aO;unfold aj at z;omega
  have a9:=Ob h ht J (p:=p) (l:=l.map aM) U.1 D.1.2.2 D.1.2.1 key (K:=K) (by rw[xY];exact hK) d1 (c1:=c1) (C2:=s.1) (pb:=u.pg) (lc:=cn n) (be:=u.aO) (R:=s.2.map aM) (by
   rw[a6,c2];exact iw) (fun G a0 W sa sb q1 q2 q3 q4 q5 q6=>by
   have Y:=Oc U D b7 O V G;have H:s=du c1 (l.set K (x.1,u)) K u:=by
    rw[<-hs,if_neg];intro e;exact G (bA.1 e)
   have L:=V.fits G;by_cases hc:341<aj (cn n) u.aO\/(l.set K (x.1,u)).length<2
   ·have e1:du c1 (l.set K (x.1,u)) K u=(c1,l.set K (x.1,u)):=by
     unfold du;rw[if_pos hc]
    rw[H,e1,q];refine(N_ (TP:=TP) (p:=p) q3 (k:=K) (pb:=u.pg) q6 (T.lA.1 L).1.2.2 c4 (by rw[bP]at hc;rw[aQ];exact hc)).mono ?_;rintro e w' ⟨rfl,g⟩;exact⟨_,rfl,q3.gr g,q1.gr g,fun b S=>.inl S,ag.ah g⟩
   ·have g7:2<=l.length:=by
     rw[bP]at hc;omega
    have i3:(l.set K (x.1,u)).length=l.length:=bP;have d8:K-1<(l.set K (x.1,u)).length:=by omega
    have d9:K-1+1<(l.set K (x.1,u)).length:=by omega
    obtain⟨a,ha⟩:∃a,(l.set K (x.1,u))[K-1]?=some a:=⟨_,az d8⟩;obtain⟨b,S⟩:∃b,(l.set K (x.1,u))[K-1+1]?=some b:=⟨_,az d9⟩;have c6:=bh ha;have a7:=bh S;have Z:(l.map aM)[K-1]?=some (aM a):=by rw[<-q,cf,ha];rfl
    have a1:(l.map aM)[K-1+1]?=some (aM b):=by rw[<-q,cf,S];rfl
    have a2:K-1<(l.map aM).length:=by rw[aQ];omega
    have a3:K-1+1<(l.map aM).length:=by rw[aQ];omega
    have c7:(l.map aM)[K-1]=aM a:=by
     rw[az a2]at Z;exact bv Z
    have c8:(l.map aM)[K-1+1]=aM b:=by
     rw[az a3]at a1;exact bv a1
    have e2:=(T.oI.1 (Y.lays a c6)).1;have e3:=(T.oI.1 (Y.lays b a7)).1;have c9:=(T.lA.1 (Y.fits a c6)).1;have a8:=(T.lA.1 (Y.fits b a7)).1;have e4:b.1.size<=60:=(Y.aO (aM b) (bW a7)).key;have e6:a.2.pg≠b.2.pg:=fun e=>by
     obtain⟨l1,l2,a5,_⟩:=IS ha S;have a4:=Y.nd;rw[a5,bj,bc,bc]at a4;have z:=(aS.1 (bM.1 a4).2).2.1;exact(aS.1 z).2.2 _ (T.eP a.2) _ (bu _ (T.eP b.2)) e
    have i4:l.length<=600:=by
     have z:=D.1.2.1;have Q:=d_ false (l.map aM);have h3:(l.map aM).length=l.length:=aQ _;have h4:aj false (l.map aM)<=1024:=z;unfold aj at h4;omega
    have hj:=T9 q1 q2 J (p:=p) (nl:=l.map aM) q3 q4 q5 (k:=K) (lc:=cn n) (pb:=u.pg) (be:=u.aO) q6 (T.lA.1 L).1.2.2 c4 (fun e=>hc (.inl e)) (i:=K-1) a2 rfl (by omega) a3 (by rw[aQ];omega) (pa:=a.2.pg) (pb2:=b.2.pg) (ea:=a.2.aO) (eb:=b.2.aO) (key:=b.1) (by rw[c7];rfl) (by rw[c8];rfl) (by rw[c8];rfl) e2 ⟨c9.2.2,c9.2.1⟩ e3 ⟨a8.2.2,a8.2.1⟩ a8.1 e4 e6;have e7:xo (cn n) c1 (l.map aM) (K-1) a.2.pg b.2.pg a.2.aO b.2.aO b.1=(s.1,s.2.map aM):=by
     rw[H];by_cases hz:1024<aj (cn n) (IG (cn n) a.2.aO b.1 b.2.aO)
     ·have e1:du c1 (l.set K (x.1,u)) K u=(c1,l.set K (x.1,u)):=by
       unfold du;rw[if_neg hc,ha,S];exact if_pos (by rw[wJ];exact hz)
      rw[e1,q];unfold xo;rw[if_pos hz]
     have e1:du c1 (l.set K (x.1,u)) K u=((c1.write (a.2.pg:Nat) (aw (cn n) (a.2.meet b.1 b.2).aO)).free (b.2.pg:Nat),((l.set K (x.1,u)).set (K-1) (a.1,a.2.meet b.1 b.2)).eraseIdx (K-1+1)):=by
      unfold du;rw[if_neg hc,ha,S];exact if_neg (by rw[wJ];exact hz)
     have e5:aM (a.1,a.2.meet b.1 b.2)=aM a:=by
      unfold aM;rw[Cz]
     rw[e1,lS,cs,q,e5,<-c7,bQ,wJ];unfold xo;rw[if_neg hz]
    rw[e7]at hj;exact hj) (fun G=>by
   have H:s=(c1.free (u.pg:Nat),(l.set K (x.1,u)).eraseIdx K):=by
    rw[<-hs,if_pos];rw[G]
    rfl
   refine⟨T.cY d7 _ (T.eP u),by rw[H],?_⟩;rw[H,lS,q]) d3 d2 (by omega)
  exact a9
end
section
variable{w:bC}{PB DB M:Nat}{c:Ch}{sv:Head}{t:Int}{d:Dk}
theorem Fk{c:Ch}{i n:Nat}{x:T n}{key:ByteArray}{c1:Ch}{u:T n}(q:dN c x key=(c1,u)):
  (u.aO=[]/\cM c i (some ⟨n,x⟩) key=((c1.free (x.pg:Nat)).root i 0,none))\/
  (cn n=false/\(∃e,u.aO=[e]/\(cM c i (some ⟨n,x⟩) key).1=(c1.free (x.pg:Nat)).root i (e.cU:Nat)))\/
  (u.aO≠[]/\(cn n=true\/2<=u.aO.length)/\(cM c i (some ⟨n,x⟩) key).1=c1):=by
 cases n with
 |zero=>
  by_cases b:u.aO=[]
  ·refine .inl ⟨b,?_⟩;unfold cM;simp only[q,b]
   rfl
  refine .inr (.inr ⟨b,.inl rfl,?_⟩);unfold cM;simp only[q];rw[if_neg];exact fun e=>b (bA.1 e)
 |succ n=>
  by_cases b:u.aO=[]
  ·refine .inl ⟨b,?_⟩;unfold cM;simp only[q,b]
   rfl
  have s:¬u.aO.isEmpty=true:=fun e=>b (bA.1 e);obtain⟨p,l⟩:Nat×List (ByteArray×T n):=u;rcases l with _|⟨y,_|⟨z,r⟩⟩
  ·exact absurd rfl b
  ·refine .inr (.inl ⟨rfl,aM y,rfl,?_⟩);unfold cM;simp only[q];rw[if_neg s]
   rfl
  refine .inr (.inr ⟨b,.inr ?_,?_⟩)
  ·show 2<=(aM y::aM z::r.map aM).length;simp
  unfold cM;simp only[q];rw[if_neg s]
theorem Ua(h:cG w PB DB M c sv t d){TP root:Nat}(ht:bH w TP PB root)(b:TP≠PB/\TP≠DB/\TP≠M)(hr:root<8)(key:ByteArray){n:Nat}{x:T n}(hx:Tr.lays c d.pg root (some ⟨n,x⟩))(hg:kZ key x≠none):
  co prog 146 #[.pointer (some ⟨TP,0,none⟩),.string key] w fun e w'=>e=.returned .nilIface/\cG w' PB DB M (cM c root (some ⟨n,x⟩) key).1 sv t d/\aY PB DB M M w w':=by
 obtain⟨d5,hl,ho,hn⟩:=hx;have d7:=T.cY hl;have g5:=(d7 _ (T.eP x)).1;have k1:=h.lt;have k2:=ad ht.p;have q:=mZ h ht hr;rw[d5]at q;have a3:=fun W (g:Gr w W)=>PK b key (h.gr g) (ht.gr g) hl ho hn hg;have H:=re (pg:=d.pg) (key:=key) h.f hl ho hn;rcases a4:dN c x key with⟨c1,u⟩
 rw[a4]at H;simp only[a4]at a3;have b0:=Fk (i:=root) a4;have d8:u.pg=x.pg:=H.cU;have b1:fE c1 x.pg:=by
  rw[<-d8];exact T.cY H.lays _ (T.eP u)
 have d9:c1.aE:=H.fr.aE;obtain⟨DR,b3⟩:∃DR,(cM c root (some ⟨n,x⟩) key).1=DR:=⟨_,rfl⟩;rw[b3]at b0⊢;have Y:(u.aO=[]/\DR=(c1.free (x.pg:Nat)).root root 0)\/(cn n=false/\∃e,u.aO=[e]/\e.cU<2000/\DR=(c1.free (x.pg:Nat)).root root (e.cU:Nat))\/(u.aO≠[]/\(cn n=true\/2<=u.aO.length)/\DR=c1):=by
  rcases b0 with⟨h1,h2⟩|⟨h1,e,h2,h3⟩|h3
  ·exact .inl ⟨h1,by rw[<-b3,h2]⟩
  ·refine .inr (.inl ⟨h1,e,h2,?_,h3⟩);have h8:u.fC:=H.fits (by show u.aO≠[];rw[h2];simp);exact((T.lA.1 h8).1.2.2 e (by rw[h2];simp)).cU
  exact .inr (.inr h3)
 obtain⟨P0,a5⟩:∃P0,x.pg=P0:=⟨_,rfl⟩;obtain⟨J,L⟩:∃J,cn n=J:=⟨_,rfl⟩;obtain⟨E,hE⟩:∃E,u.aO=E:=⟨_,rfl⟩;simp only[a5,L,hE]at a3;rw[a5]at q g5 b1;rw[a5,L,hE]at Y;have h9:=ae q;have i0:=ae a3;have i1:=ae Y;have e5:=ae b1;have e6:=ae d9;have HT:=ae ht;clear q a3 b0 Y b1 d9 H a4 d8 d5 hl ho hn d7 a5 L hE b3 hg h ht;go_enter func146,ntmps146;go_wp2_with fail
 refine h9.out.mono ?_;rintro e w1 ⟨rfl,b4⟩;have b5:=i0.out _ b4;unfold bi at b5;have i2:=ae b5;have b6:=ae b4;clear b5 b4;go_wp2_with fail
 refine i2.out.mono ?_;rintro e G ⟨s2,rfl,b7,e7,a6⟩;obtain⟨a2,c2,rfl⟩:=b7.form;have gN:Gr G (G.alloc (.cells #[.int .i64 (P0:Int),.bool J,.slice a2 E.length c2] 200)):=(Gr.refl G).alloc _;have n1:(G.alloc (.cells #[.int .i64 (P0:Int),.bool J,.slice a2 E.length c2] 200)).cell? ⟨G.heap.size,1,none⟩=some (.bool J):=by rw[ak];rfl
 have n2:(G.alloc (.cells #[.int .i64 (P0:Int),.bool J,.slice a2 E.length c2] 200)).cell? ⟨G.heap.size,2,none⟩=some (.slice a2 E.length c2):=by rw[ak];rfl
 have b8:=((HT.out.gr b6.out).pg a6 b.1 b.2.1 b.2.2).gr gN;have tp:=b8.p;have b9:=ae (e7.gr gN);have e8:=ae b8;have c0:=ae (((aY.ah PB DB M b6.out).trans a6).trans (aY.ah PB DB M gN));have i3:=ae (b7.gr gN);have i4:=a6.size;have j3:=b6.out.size;clear e7 a6 b8 gN b7;have g6:G.heap.size<(G.alloc (.cells #[.int .i64 (P0:Int),.bool J,.slice a2 E.length c2] 200)).heap.size:=by simp
 go_upto_if 20 with(fail)
 obtain⟨NB,e9⟩:∃NB,G.heap.size=NB:=⟨_,rfl⟩;rw[e9]at n1 n2 g6 i4⊢;clear e9;generalize G.alloc (.cells #[.int .i64 (P0:Int),.bool J,.slice a2 E.length c2] 200)=w3 at*;rcases i1.out with⟨O,y⟩|⟨L,e,O,k3,y⟩|⟨O,i5,y⟩
 ·have Q:=BT b9.out e5.out;have c3:=ae Q;have z:=ae y;have k4:(E.length:Int)=0:=by rw[O];rfl
  clear Q y O;go_wp2_with fail
  refine c3.out.mono ?_;rintro e w4 ⟨rfl,S,s⟩;have q:=wL S (e8.out.pg s b.1 b.2.1 b.2.2) b hr (p:=0) (more:=0) (by omega) (by omega);rw[sr (e6.out.oU _) hr]at q;have Z:=ae q;have c4:=ae (c0.out.trans s);clear q S s;go_wp2_with fail
  refine Z.out.mono ?_;rintro e w5 ⟨rfl,U,V⟩;have D:=ae (And.intro U (c4.out.trans V));clear U V;have c5:eJ 0=.nilIface:=rfl;rw[c5];go_wp2_with fail
  go_ret;exact⟨rfl,by rw[z.out];exact D.out.1,D.out.2⟩
 ·subst L;have g0:E.length=1:=by rw[O];rfl
  have j4:(E.length:Int)=1:=by omega
  rcases i3.out.at' with⟨_,e2⟩|⟨B,cap,e3,h2,h3,h4,h5,h6⟩
  ·rw[e2]at g0;exact absurd g0 (by simp)
  obtain⟨rfl,rfl⟩:a2=some ⟨B,0,none⟩/\c2=cap:=by
   injection e3 with e1 e2 e3
   exact⟨e1,e3⟩
  have hz:0<E.length:=by omega
  obtain⟨_,_,b2⟩:=h5 0 hz;have g4:E[0]=e:=by simp[O]
  rw[g4]at b2;simp only[Nat.zero_mul,bz]at b2;have Q:=BT b9.out e5.out;have c3:=ae Q;have z:=ae y;obtain⟨ep,a0⟩:∃ep,(e.cU:Int)=ep:=⟨_,rfl⟩;rw[a0]at b2;have i6:=ae a0;have g7:0<=ep/\ep<2000:=by omega
  have I:NB≠PB/\NB≠DB/\NB≠M:=by omega
  have c6:B≠PB/\B≠DB/\B≠M:=by omega
  clear Q y O h5 h6 e3 g4 a0;go_wp2_with fail
  refine c3.out.mono ?_;rintro e w4 ⟨rfl,S,s⟩;replace n1:=s.keeps I.1 I.2.1 I.2.2 n1;replace n2:=s.keeps I.1 I.2.1 I.2.2 n2;replace b2:=s.keeps c6.1 c6.2.1 c6.2.2 b2;have q:=wL S (e8.out.pg s b.1 b.2.1 b.2.2) b hr (p:=ep) (more:=0) g7 (by omega);rw[sr (e6.out.oU _) hr]at q;have Z:=ae q;have c4:=ae (c0.out.trans s);have k5:(0:Int)<(E.length:Int):=by omega
  clear q S s;go_wp2_with fail
  refine Z.out.mono ?_;rintro e w5 ⟨rfl,U,V⟩;have D:=ae (And.intro U (c4.out.trans V));clear U V;have c5:eJ 0=.nilIface:=rfl;rw[c5];go_wp2_with fail
  go_ret;exact⟨rfl,by rw[z.out,i6.out];exact D.out.1,D.out.2⟩
 have hz:¬(E.length:Int)=0:=fun e=>O (aU (by omega));have D:=ae (And.intro b9.out c0.out);have z:=ae y;clear O y;rcases i5 with rfl|h2
 ·go_wp2_with fail
  go_ret;exact⟨rfl,by rw[z.out];exact D.out.1,D.out.2⟩
 have h1:¬(E.length:Int)=1:=by omega
 clear h2;cases J with
 |true=>
  go_wp2_with fail
  go_ret;exact⟨rfl,by rw[z.out];exact D.out.1,D.out.2⟩
 |false=>
  go_wp2_with fail
  go_ret;exact⟨rfl,by rw[z.out];exact D.out.1,D.out.2⟩
end
theorem GX{key:ByteArray}:∀{n:Nat} {x:T n},x.fC->kZ key x≠none->key.size<=60
 |0,x,s,h=>by
  obtain⟨p,l⟩:Nat×List (ByteArray×ByteArray):=x;have h:(if dR (l.map aX) key then(l[am (l.map aX) key]?).map cK else none)≠none:=h;cases b:dR (l.map aX) key with
  |false=>
   rw[b]at h;exact absurd rfl h
  |true=>
   have q:=oW b;unfold dR at b;rw[Bool.and_eq_true,decide_eq_true_eq,decide_eq_true_eq]at b;have z:=b.2;rw[List.getD_eq_getElem?_getD,az q]at z;unfold g_ at z;have H:=(oP _ _).1 z;have I:(l.map aX)[am (l.map aX) key]=key:=bE H;have G:=List.getElem_mem q;rw[I]at G;obtain⟨y,J,D⟩:=List.mem_map.1 G;have:=(s.2.2 (cy y) (bW J)).key;rw[<-D];exact this
 |n+1,x,s,h=>by
  obtain⟨p,l⟩:Nat×List (ByteArray×T n):=x;have h:((l[aL (l.map aX) key]?).bind fun x=>kZ key x.2)≠none:=h;cases B:l[aL (l.map aX) key]? with
  |none=>rw[B]at h;exact absurd rfl h
  |some y=>
   rw[B]at h;exact GX (s.2 y (bh B)) h
section
variable{w:bC}{PB DB M:Nat}{c:Ch}{sv:Head}{t:Int}{d:Dk}
theorem VO(h:cG w PB DB M c sv t d){TP root:Nat}(ht:bH w TP PB root)(D:TP≠PB/\TP≠DB/\TP≠M)(O:root<8)(key:ByteArray){G:Tr}(hl:G.lays c d.pg root):
  co prog 93 #[.pointer (some ⟨TP,0,none⟩),.string key] w fun e w'=>e=.returned (eJ (mo c root G key).2.2)/\cG w' PB DB M (mo c root G key).1 sv t d/\aY PB DB M M w w':=by
 obtain⟨I,U⟩:∃I,mo c root G key=I:=⟨_,rfl⟩;rw[U];have a9:=ae U;have tp:=ht.p;have HH:=ae (And.intro h ht);have HL:=ae hl;have b0:=IQ h;have c3:=ae b0;have b1:=fun W (g:Gr w W)=>Nl (h.gr g) (ht.gr g) O key hl;have c4:=ae b1;have b2:G.get key≠none->key.size<=60:=fun hn=>by
  cases G with
  |none=>exact absurd rfl hn
  |some x=>exact GX hl.2.2.1 hn
 have c5:=ae b2;clear U h ht hl b0 b1 b2;go_enter func93,ntmps93;go_wp2_with fail
 refine c3.out.mono ?_;rintro e w1 ⟨rfl,V⟩;have Q:=c4.out _ V;have c0:=ae Q;have c6:=ae V;clear Q V;go_wp2_with fail
 refine c0.out.mono ?_;rintro e w2 ⟨rfl,b3⟩;have y:=ae (c6.out.trans b3);clear b3;cases q:G.get key with
 |none=>
  have z:I=(c,G,7):=by
   rw[<-a9.out];unfold mo;rw[q]
  have s:eJ I.2.2=.iface 24 (.int .i64 7)/\cG w2 PB DB M I.1 sv t d:=by
   rw[z];exact⟨rfl,HH.out.1.gr y.out⟩
  have b:=ae s;have H:ye none=.tuple #[.string fJ,.iface 24 (.int .i64 7)]:=rfl;rw[H];clear s z q H;go_wp2_with fail
  go_ret;exact⟨by rw[b.out.1];rfl,b.out.2,aY.ah PB DB M y.out⟩
 |some B=>
  have d9:=c5.out (by rw[q];simp);have e2:=zz HL.out q;obtain⟨L,Y⟩:∃L,-2-(key.size:Int)-B.size=L:=⟨_,rfl⟩;have e3:-200<=L/\L<=0:=by omega
  have c7:=ae Y;cases G with
  |none=>cases q
  |some x=>
   obtain⟨n,x⟩:=x;have Z:=Ua (HH.out.1.gr y.out) (HH.out.2.gr y.out) D O key HL.out (by
    have:kZ key x=some B:=q;rw[this];simp)
   have a0:=CJ (pg:=d.pg) HH.out.1.f HL.out O key;have z:I=((ey (cM c root (some ⟨n,x⟩) key).1 root L).1,(cM c root (some ⟨n,x⟩) key).2,(ey (cM c root (some ⟨n,x⟩) key).1 root L).2):=by
    rw[<-a9.out,<-Y];unfold mo;rw[q]
   obtain⟨S,a1⟩:∃S,(cM c root (some ⟨n,x⟩) key).1=S:=⟨_,rfl⟩;obtain⟨u,hu⟩:∃u,(cM c root (some ⟨n,x⟩) key).2=u:=⟨_,rfl⟩;rw[a1,hu]at z;rw[a1]at Z a0;have b4:S.aE:=a0.k.aE;have c8:=b4.head.root root O;have c9:=ae Z;have HP:=ae z;have H:ye (some B)=.tuple #[.string B,.nilIface]:=rfl;rw[H];clear Z a0 z a1 hu q Y H b4;go_wp2_with fail
   refine c9.out.mono ?_;rintro e w4 ⟨rfl,a2,a3⟩;have a4:=(HH.out.2.gr y.out).pg a3 D.1 D.2.1 D.2.2;have b5:=mZ a2 a4 O;have d0:=ae b5;have d1:=ae a2;have d2:=ae a4;have d3:=ae ((aY.ah PB DB M y.out).trans a3);clear b5 a2 a4 a3;go_wp2_with fail
   refine d0.out.mono ?_;rintro e w5 ⟨rfl,J⟩;have a5:=wL (d1.out.gr J) (d2.out.gr J) D O (p:=S.h.roots root) (more:=L) c8 (by omega);rw[wY]at a5;have b6:=ae a5;have d4:=ae (d3.out.trans (aY.ah PB DB M J));clear a5 J;rw[<-c7.out]at b6 HP;go_wp2_with fail
   refine b6.out.mono ?_;rintro e w6 ⟨rfl,b7,b8⟩;have HX:=ae (And.intro b7 (d4.out.trans b8));have s:eJ I.2.2=eJ (ey S root (-2-(key.size:Int)-B.size)).2/\cG w6 PB DB M I.1 sv t d:=by
    rw[HP.out];exact⟨rfl,HX.out.1⟩
   have b:=ae s;clear s b7 b8;obtain⟨EV,b9⟩:∃EV,eJ (ey S root (-2-(key.size:Int)-B.size)).2=EV:=⟨_,rfl⟩;rw[b9]at b⊢;clear b9;go_wp2_with fail
   go_ret;exact⟨by rw[b.out.1];rfl,b.out.2,HX.out.2⟩
end
