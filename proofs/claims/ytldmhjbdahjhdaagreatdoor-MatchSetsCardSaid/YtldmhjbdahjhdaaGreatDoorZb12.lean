/-
  Part 12 of the proof.
-/
import Derived.Test.YtldmhjbdahjhdaaGreatDoorZb11
open Go.Lib renaming hid->ak1
open Go.World renaming cell?_alloc_new->ak2,cell?_setCell_other->ak4,cell?_setCell_same->alb
open Go.Value renaming slice->ak3
open List renaming getElem?_eq_getElem->ak5,length_map->ak6,nodup_append->ak7,eq_nil_of_length_eq_zero->ak8,flatMap_cons->ak_,flatMap_append->ala,mem_append_left->alc,mem_of_getElem?->ald,isEmpty_iff->alj,mem_append->alm,nodup_cons->aln,length_set->alo,set_getElem_self->alp,mem_cons_of_mem->alq,mem_cons->als,length_append->alu,getElem?_map->alv,mem_flatMap->alw,getElem_map->alx,map_set->alC
open Nat renaming lt_of_lt_of_le->ak9,zero_add->alh,le_trans->alk
open Go.Proofs.Tryz renaming results256->ale,prog->ali,ntmps256->alA,func256->alB
open Option.some renaming inj->alf
open Go renaming bodyPost_ret->alg,results->aly
open Prod renaming fst->alr
open Go.IntWalk renaming i64_in->alz
open Go.IntKind renaming i64->alD
set_option maxRecDepth 100000
set_option maxHeartbeats 100000000
set_option linter.all false
namespace Go.Proofs.YtldmhjbdahjhdaaGreatDoor
section
open Go Go.RowKit
structure Jn(w W:World)(NB RB p:Nat)(s:Value):Prop where
 g:Gr w W
 nb:NB=w.heap.size
 rb:RB=w.heap.size+1+1
 UY:RB<W.heap.size
 n0:W.cell? ⟨NB,0,none⟩=some (.int .i64 (p:Int))
 n1:W.cell? ⟨NB,1,none⟩=some (.bool false)
 n2:W.cell? ⟨NB,2,none⟩=some s
 nf:∀o,W.frozen? ⟨NB,o,none⟩=false
 r0:W.cell? ⟨RB,0,none⟩=some (.int .i64 0)
 r1:W.cell? ⟨RB,1,none⟩=some (.bool false)
 r2:W.cell? ⟨RB,2,none⟩=some (.slice none 0 0)
 rf:∀o,W.frozen? ⟨RB,o,none⟩=false
theorem Jn.made(w:World)(p:Nat)(s q y z:Value)(hs:s.oneCell'=true):Jn w (((w.alloc (.cells #[.int .i64 (p:Int),.bool false,s] 200)).alloc (.cells #[q,y,z] 200)).alloc (.cells #[.int .i64 0,.bool false,.slice none 0 0] 200)) w.heap.size (w.heap.size+1+1) p s:=by
 have g1:Gr w (w.alloc (.cells #[.int .i64 (p:Int),.bool false,s] 200)):=(Gr.refl w).alloc _;have g2:Gr (w.alloc (.cells #[.int .i64 (p:Int),.bool false,s] 200)) (((w.alloc (.cells #[.int .i64 (p:Int),.bool false,s] 200)).alloc (.cells #[q,y,z] 200)).alloc (.cells #[.int .i64 0,.bool false,.slice none 0 0] 200)):=((Gr.refl _).alloc _).alloc _;have b:((w.alloc (.cells #[.int .i64 (p:Int),.bool false,s] 200)).alloc (.cells #[q,y,z] 200)).heap.size=w.heap.size+1+1:=by simp
 refine⟨g1.trans g2,rfl,rfl,by simp,g2.keeps (by rw[ak2];rfl),g2.keeps (by rw[ak2];rfl),g2.keeps (by rw[ak2];rfl),fun o=>(g2.frozen o (by simp)).trans (by simp),?_,?_,?_,fun o=>?_⟩
 ·rw[<-b,ak2];rfl
 ·rw[<-b,ak2];rfl
 ·rw[<-b,ak2];rfl
 ·have B:∀X:World,(X.alloc (.cells #[.int .i64 0,.bool false,.slice none 0 0] 200)).frozen? ⟨X.heap.size,o,none⟩=false:=fun X=>by simp
  rw[<-b];exact B _
section
variable{w:World}{PB DB M:Nat}{c:Ch}{sv:Head}{t:Int}{d:Dk}
theorem MI{TP:Nat}{p:Nat}{nl:List En}{s:Value}{a0:World}(ho:aT a0 w s nl){k:Nat}{lc:Bool}{pb:Nat}{be:List En}{M:Value}(I:oi w M be)(G:∀e∈be,e.ok lc)(a7:be.length<=600)
  (hc:341<ah lc be\/nl.length<2):
  Calls ali 256 #[.pointer (some ⟨TP,0,none⟩),aU p false s,.int .i64 (k:Int),aU pb lc M] w fun e w'=>e=.returned (.tuple #[aU p false s,.nilIface])/\Gr w w':=by
 have J:=fun W (g:Gr w W)=>sN pb lc M be W (I.gr g) G (by omega);obtain⟨B,D,rfl⟩:=ho.form;obtain⟨Z,cb,rfl⟩:=I.form;unfold aU at*;have V:=ak1 J;clear J;go_enter alB,alA;go_wp2_with fail
 have q:=Jn.made w p (.slice B nl.length D) (.int .i64 (pb:Int)) (.bool lc) (.slice Z be.length cb) rfl;generalize((w.alloc (.cells #[.int .i64 (p:Int),.bool false,.slice B nl.length D] 200)).alloc (.cells #[.int .i64 (pb:Int),.bool lc,.slice Z be.length cb] 200)).alloc (.cells #[.int .i64 0,.bool false,.slice none 0 0] 200)=W3 at*;generalize a8:w.heap.size+1+1=z at*;generalize a9:w.heap.size=NB at*;refine(V.out _ q.g).mono ?_;rintro e L ⟨rfl,b⟩;have n0:=b.keeps q.n0;have n1:=b.keeps q.n1;have n2:=b.keeps q.n2;have r0:=b.keeps q.r0;have r1:=b.keeps q.r1;have r2:=b.keeps q.r2;have rf:∀o,L.frozen? ⟨z,o,none⟩=false:=fun o=>(b.frozen o q.UY).trans (q.rf o);have HJ:=ak1 q;have HG:=ak1 (q.g.trans b);have y:=ak1 (lI (v0:=.int .i64 (p:Int)) (v1:=.bool false) (v2:=.slice B nl.length D) r0 r1 r2);have H:Gr w (((L.setCell ⟨z,0,none⟩ (.int .i64 (p:Int))).setCell ⟨z,1,none⟩ (.bool false)).setCell ⟨z,2,none⟩ (.slice B nl.length D)):=by
  have O:w.heap.size<=z:=by omega
  exact((HG.out.setCell O _).setCell O _).setCell O _
 have HR:=ak1 H;clear q H;have a2:(ah lc be:Int)<=2000000:=by
  have:=qo lc be G;unfold ah;omega
 by_cases h1:341<ah lc be
 ·have Y:(341:Int)<(ah lc be:Int):=by omega
  go_wp2_with fail
  obtain⟨Q,S,U⟩:=y.out;have H:=HR.out;generalize(((L.setCell ⟨z,0,none⟩ (.int .i64 (p:Int))).setCell ⟨z,1,none⟩ (.bool false)).setCell ⟨z,2,none⟩ (.slice B nl.length D))=w9 at*;exact alg (v:=.tuple #[.agg #[.int .i64 (p:Int),.bool false,.slice B nl.length D],.nilIface]) (by simp[aly,ale,go_sem,Q,S,U]) rfl ⟨rfl,H⟩
 ·have Y:¬(341:Int)<(ah lc be:Int):=by omega
  have h2:nl.length<2:=hc.resolve_left h1;have b0:(nl.length:Int)<2:=by omega
  go_wp2_with fail
  obtain⟨Q,S,U⟩:=y.out;have H:=HR.out;generalize(((L.setCell ⟨z,0,none⟩ (.int .i64 (p:Int))).setCell ⟨z,1,none⟩ (.bool false)).setCell ⟨z,2,none⟩ (.slice B nl.length D))=w9 at*;exact alg (v:=.tuple #[.agg #[.int .i64 (p:Int),.bool false,.slice B nl.length D],.nilIface]) (by simp[aly,ale,go_sem,Q,S,U]) rfl ⟨rfl,H⟩
end
def vV(lc:Bool)(c:Ch)(nl:List En)(i:Nat)(pa pb2:Nat)(ea eb:List En)(key:ByteArray):Ch×List En:=
 if 1024<ah lc (GH lc ea key eb)then(c,nl)else((c.write (pa:Nat) (au lc (GH lc ea key eb))).free (pb2:Nat),nl.eraseIdx (i+1))
theorem zM(k:ByteArray)(l:List En):(lO k l).length=l.length:=by
 cases l<;>rfl
theorem MJ{leaf:Bool}{k:ByteArray}(q:k.size<=60){l:List En}(h:∀e∈l,e.ok leaf):∀e∈lO k l,e.ok leaf:=by
 cases l with
 |nil=>exact fun e b=>by cases b
 |cons x r=>
  intro e b;rcases als.1 b with rfl|b
  ·have:=h x List.mem_cons_self;exact⟨q,this.item,this.b_,this.Uz,this.node⟩
  ·exact h e (alq _ b)
theorem P5{a0 w:World}{l:List En}{B cap:Nat}(h:aT a0 w (.slice (some ⟨B,0,none⟩) l.length cap) l)(H:l≠[])(k:ByteArray):aT a0 (w.setCell ⟨B,0,none⟩ (.string k)) (.slice (some ⟨B,0,none⟩) l.length cap) (lO k l):=by
 rcases h.row.2 with⟨_,I⟩|⟨J,q,y,hv,L,s,z,hc,D,M⟩
 ·exact absurd (ak8 I) H
 obtain⟨rfl,rfl⟩:B=J/\cap=q:=by
  injection hv with b I O
  injection b with b
  injection b with b
  exact⟨b,O⟩
 have G:B<w.heap.size:=(Array.getElem?_eq_some_iff.1 s).1;rw[setCell_eq_setRow w B 0 y _ _ (.string k) s];refine sM L G hc z (zM k l) (by rw[Array.size_setIfInBounds];exact D) ?_ s;rw[Array.toList_setIfInBounds,List.take_set,M];cases l with
 |nil=>exact absurd rfl H
 |cons e r=>rfl
theorem ag.own{S T:Nat->Prop}{w b q:World}(h:ag S w b)(k:ag T b q)(y:∀j,T j->S j\/w.heap.size<=j):ag S w q:=
 ⟨k.1.trans h.1,k.2.1.trans h.2.1,k.2.2.1.trans h.2.2.1,alk h.2.2.2.1 k.2.2.2.1,fun j s hs=>(k.block (ak9 s h.2.2.2.1) (fun e=>(y j e).elim hs fun e=>by omega)).trans (h.block s hs)⟩
theorem Fb(q:World)(RB:Nat)(v0 v1 v2:Value):ag (fun b=>b=RB) q (((q.setCell ⟨RB,0,none⟩ v0).setCell ⟨RB,1,none⟩ v1).setCell ⟨RB,2,none⟩ v2):=
 ((ag.setCell (S:=fun b=>b=RB) (p:=⟨RB,0,none⟩) q _ rfl).trans (ag.setCell (S:=fun b=>b=RB) (p:=⟨RB,1,none⟩) _ _ rfl)).trans (ag.setCell (S:=fun b=>b=RB) (p:=⟨RB,2,none⟩) _ _ rfl)
section
variable{w:World}{PB DB M:Nat}{c:Ch}{sv:Head}{t:Int}{d:Dk}
theorem Sl(h:bF w PB DB M c sv t d){TP root:Nat}(ht:bc w TP PB root)(k9:TP≠PB/\TP≠DB/\TP≠M){p:Nat}{nl:List En}{s:Value}{a0:World}(ho:aT a0 w s nl)(ha:a0.heap.size<=w.heap.size)(E2:PB<a0.heap.size/\DB<a0.heap.size/\M<a0.heap.size/\TP<a0.heap.size)
  {k:Nat} {lc:Bool} {pb:Nat} {be:List En} {sb:Value} (o3:oi w sb be) (r7:∀e∈be,e.ok lc) (E3:be.length<=600) (hc:¬341<ah lc be) {i:Nat} (o4:i<nl.length) (o5:i=k-1) (E4:k<=10000) (e0:i+1<nl.length) (w0:nl.length<=10000)
  {pa pb2:Nat} {ea eb:List En} {key:ByteArray} (w1:(nl[i]'o4).b_=pa) (w2:(nl[i+1]'e0).b_=pb2) (r8:(nl[i+1]'e0).key=key)
  (l3:gO c d.pg lc pa ea) (i1:(∀e∈ea,e.ok lc)/\ah lc ea<=1024) (o6:gO c d.pg lc pb2 eb) (e4:(∀e∈eb,e.ok lc)/\ah lc eb<=1024) (l4:eb≠[]) (w3:key.size<=60) (x3:pa≠pb2):
  Calls ali 256 #[.pointer (some ⟨TP,0,none⟩),aU p false s,.int .i64 (k:Int),aU pb lc sb] w fun e w'=>∃s',e=.returned (.tuple #[aU p false s',.nilIface])/\aT a0 w' s' (vV lc c nl i pa pb2 ea eb key).2/\bF w' PB DB M (vV lc c nl i pa pb2 ea eb key).1 sv t d/\(∀b,s'.ownBlock=some b->s.ownBlock=some b\/w.heap.size<=b)/\ag (fun b=>b=PB\/b=DB\/b=M\/s.ownBlock=some b) w w':=by
 rcases ho.at' with⟨_,rfl⟩|⟨SB,cap,rfl,q2,q3,q4,q5,q6⟩
 ·simp at e0
 have o7:=fun W (g:Gr w W)=>sN pb lc sb be W (o3.gr g) r7 (by omega);obtain⟨bo,cb,rfl⟩:=o3.form;unfold aU at*;have x4:=ak1 o7;clear o7;have l5:vV lc c nl i pa pb2 ea eb key=if 1024<ah lc (ea++(if lc then eb else lO key eb))then(c,nl)else((c.write (pa:Nat) (au lc (ea++(if lc then eb else lO key eb)))).free (pb2:Nat),nl.eraseIdx (i+1)):=rfl
 obtain⟨JR,l6⟩:∃JR,vV lc c nl i pa pb2 ea eb key=JR:=⟨_,rfl⟩;rw[l6];rw[l6]at l5;have c4:=ak1 l5;clear l5;go_enter alB,alA;go_wp2_with fail
 have hj:=Jn.made w p (.slice (some ⟨SB,0,none⟩) nl.length cap) (.int .i64 (pb:Int)) (.bool lc) (.slice bo be.length cb) rfl;generalize((w.alloc (.cells #[.int .i64 (p:Int),.bool false,.slice (some ⟨SB,0,none⟩) nl.length cap] 200)).alloc (.cells #[.int .i64 (pb:Int),.bool lc,.slice bo be.length cb] 200)).alloc (.cells #[.int .i64 0,.bool false,.slice none 0 0] 200)=W3 at*;generalize E5:w.heap.size+1+1=H at*;generalize E6:w.heap.size=J at*;refine(x4.out _ hj.g).mono ?_;rintro e w4 ⟨rfl,a2⟩;have n0:=a2.keeps hj.n0;have n1:=a2.keeps hj.n1;have n2:=a2.keeps hj.n2;have r0:=a2.keeps hj.r0;have r1:=a2.keeps hj.r1;have r2:=a2.keeps hj.r2;have rf:∀o,w4.frozen? ⟨H,o,none⟩=false:=fun o=>(a2.frozen o hj.UY).trans (hj.rf o);have HJ:=ak1 hj;have r9:Hid (∀o,w4.frozen? ⟨J,o,none⟩=false):=ak1 (fun o=>(a2.frozen o (ad hj.n0)).trans (hj.nf o));have i2:=ak1 (And.intro n0 (And.intro n1 n2));have e5:=ak1 (And.intro r0 (And.intro r1 (And.intro r2 rf)));have HG:=ak1 (hj.g.trans a2);have s0:=ak1 a2.size;clear hj;have x5:¬(341:Int)<(ah lc be:Int):=by omega
 have x6:¬(nl.length:Int)<2:=by omega
 have x7:max ((k:Int)-1) 0=(i:Int):=by omega
 have E7:=ak1 o5;clear o5;obtain⟨_,_,x2⟩:=(q5.gr HG.out) i o4;obtain⟨z0,_,z2⟩:=(q5.gr HG.out) (i+1) e0;rw[alh,w1]at x2;rw[alh,r8]at z0;rw[alh,w2]at z2;have x8:(i:Int)<(nl.length:Int):=by omega
 have s3:(i:Int)+1<(nl.length:Int):=by omega
 have l7:((i:Int)+1).toNat=i+1:=by omega
 have l8:=fun W (g:Gr w W)=>lQ (h.gr g).s (ht.gr g) l3 i1.1 i1.2;have l9:=fun W (g:Gr w W)=>lQ (h.gr g).s (ht.gr g) o6 e4.1 e4.2;unfold aU at l8 l9;have x9:=ak1 l8;have y3:=ak1 l9;clear l8 l9;go_wp2_with(go_at_call_of 120 (Value.int .i64 (pa:Int));refine(x9.out _ HG.out).mono ?_;rintro e Y ⟨s1,rfl,e6,a3⟩;obtain⟨a5,c5,rfl⟩:=e6.form;(have gA:Gr Y (Y.alloc (.cells #[.int .i64 (pa:Int),.bool lc,.slice a5 ea.length c5] 200)):=(Gr.refl Y).alloc _);(have n0:=gA.keeps (a3.keeps n0));(have n1:=gA.keeps (a3.keeps n1));(have n2:=gA.keeps (a3.keeps n2));(have z0:=gA.keeps (a3.keeps z0));(have z2:=gA.keeps (a3.keeps z2)))
 obtain⟨L,y4⟩:∃L,Y.heap.size=L:=⟨_,rfl⟩;have k0:(Y.alloc (.cells #[.int .i64 (pa:Int),.bool lc,.slice a5 ea.length c5] 200)).cell? ⟨Y.heap.size,0,none⟩=some (.int .i64 (pa:Int)):=by rw[ak2];rfl
 have k1:(Y.alloc (.cells #[.int .i64 (pa:Int),.bool lc,.slice a5 ea.length c5] 200)).cell? ⟨Y.heap.size,1,none⟩=some (.bool lc):=by rw[ak2];rfl
 have k2:(Y.alloc (.cells #[.int .i64 (pa:Int),.bool lc,.slice a5 ea.length c5] 200)).cell? ⟨Y.heap.size,2,none⟩=some (.slice a5 ea.length c5):=by rw[ak2];rfl
 have kf:∀o,(Y.alloc (.cells #[.int .i64 (pa:Int),.bool lc,.slice a5 ea.length c5] 200)).frozen? ⟨Y.heap.size,o,none⟩=false:=fun o=>by simp
 have g0:=(HG.out.trans a3).trans gA;rw[y4]at k0 k1 k2 kf⊢;have m3:=e6.gr gA;generalize Y.alloc (.cells #[.int .i64 (pa:Int),.bool lc,.slice a5 ea.length c5] 200)=w6 at*;refine(y3.out _ g0).mono ?_;rintro e w7 ⟨s2,rfl,m4,d4⟩;obtain⟨a7,c7,rfl⟩:=m4.form;have gB:Gr w7 (w7.alloc (.cells #[.int .i64 (pb2:Int),.bool lc,.slice a7 eb.length c7] 200)):=(Gr.refl w7).alloc _;have V:=d4.trans gB;have n0:=V.keeps n0;have n1:=V.keeps n1;have n2:=V.keeps n2;have z0:=V.keeps z0;have E8:=ad k0;have k0:=V.keeps k0;have k1:=V.keeps k1;have k2:=V.keeps k2;have o9:Hid (L<w6.heap.size):=ak1 (by assumption);have C5:=ad k0;have E9:=g0.trans V;have m0:(w7.alloc (.cells #[.int .i64 (pb2:Int),.bool lc,.slice a7 eb.length c7] 200)).cell? ⟨w7.heap.size,0,none⟩=some (.int .i64 (pb2:Int)):=by rw[ak2];rfl
 have m1:(w7.alloc (.cells #[.int .i64 (pb2:Int),.bool lc,.slice a7 eb.length c7] 200)).cell? ⟨w7.heap.size,1,none⟩=some (.bool lc):=by rw[ak2];rfl
 have m2:(w7.alloc (.cells #[.int .i64 (pb2:Int),.bool lc,.slice a7 eb.length c7] 200)).cell? ⟨w7.heap.size,2,none⟩=some (.slice a7 eb.length c7):=by rw[ak2];rfl
 have m5:=m4.gr gB;have m3:=m3.gr V;rcases m5.at' with⟨_,e9⟩|⟨B2,s4,e9,b2,b3,b4,b5,b6⟩
 ·exact absurd e9 l4
 obtain⟨rfl,rfl⟩:a7=some ⟨B2,0,none⟩/\c7=s4:=by
  injection e9 with e1 e2 e3
  exact⟨e1,e3⟩
 have i3:0<eb.length:=List.length_pos_iff.2 l4;have s5:(0:Int)<(eb.length:Int):=by omega
 have y0:=(b5 0 i3).1;have y0:(w7.alloc (.cells #[.int .i64 (pb2:Int),.bool lc,.slice (some ⟨B2,0,none⟩) eb.length c7] 200)).cell? ⟨B2,0,none⟩=some (.string (eb[0]'i3).key):=y0;have yf:=b6 0;go_upto_if 61 with(fail)
 obtain⟨BB,y5⟩:∃BB,w7.heap.size=BB:=⟨_,rfl⟩;rw[y5]at m0 m1 m2⊢;generalize w7.alloc (.cells #[.int .i64 (pb2:Int),.bool lc,.slice (some ⟨B2,0,none⟩) eb.length c7] 200)=w8 at*;generalize(eb[0]'i3).key=ky0 at*;go_cut [13] (fun y6 wx=>y6=.pointer (some ⟨BB,0,none⟩)/\aT w6 wx (.slice (some ⟨B2,0,none⟩) eb.length c7) (if lc then eb else lO key eb)/\ag (fun b=>b=B2) w8 wx)
 case first=>
  have i4:alD.wrap ((i:Int)+1)=(i:Int)+1:=alz _ (by omega);have s6:=ak1 (P5 m5 l4 key);cases lc with
  |true=>
   go_wp2_with fail
   go_meet
   exact⟨rfl,by simpa using m5,ag.refl _ _⟩
  |false=>
   go_wp2_with fail
   go_region
   all_goals
    go_wp2_with fail
    go_meet
    exact⟨rfl,by simpa using s6.out.gr (Gr.refl _).drew,(ag.setCell (S:=fun b=>b=B2) (p:=⟨B2,0,none⟩) w8 _ rfl).trans (ag.drew _)⟩
 case rest=>
  obtain⟨rfl,p0,a1⟩:=hcut;have m6:(if lc then eb else lO key eb).length=eb.length:=by
   cases lc
   ·exact zM key eb
   ·rfl
  obtain⟨D,j7⟩:∃D,(if lc then eb else lO key eb)=D:=⟨_,rfl⟩;rw[j7]at p0 m6 c4;have c6:∀j,j<w6.heap.size->¬j=B2:=fun j hj e=>by omega
  have g9:J<w6.heap.size:=by
   have:=g0.size;have:=HJ.out.UY;have:=HJ.out.rb;have:=HG.out.size;have h9:=a3.size;have h8:=gA.size;have h7:=s0.out;omega
  have n0:=a1.keeps (c6 J g9) n0;have n1:=a1.keeps (c6 J g9) n1;have n2:=a1.keeps (c6 J g9) n2;have a8:L<w6.heap.size:=o9.out;have k0:=a1.keeps (c6 L a8) k0;have k1:=a1.keeps (c6 L a8) k1;have k2:=a1.keeps (c6 L a8) k2;have p1:∀o,wc.frozen? ⟨L,o,none⟩=false:=fun o=>by
   rw[a1.frozen o (ak9 a8 V.size) (c6 L a8),V.frozen o a8];exact kf o
  have y7:Gr w4 wc:=a1.gr ((a3.trans gA).trans V) (fun j e=>by
   have:=a3.size;have:=gA.size;omega)
  have y8:=m3.aC a1 (fun b U e=>by
   have:=ba e6 b U;have:=gA.size;omega)
  have y9:=ak1 y8;have s7:=ak1 y7;have z1:=ak1 p0.qn;have s8:ea.length+D.length<=2000:=by
   have h1:=dC lc ea;have h2:=dC lc eb;have h3:=i1.2;have h4:=e4.2;unfold ah at h3 h4;omega
  have p3:ea.length+D.length<=1000000:=by omega
  have g5:(ak3 a5 ea.length c5).ownBlock≠some L:=fun e=>by
   have:=ba e6 _ e;omega
  have h0:eb.length=D.length:=m6.symm;have z3:=ak1 h0;rw[z3.out]at m2;have m2:=m2;have s9:Hid (oi wc (.slice (some ⟨B2,0,none⟩) D.length c7) D):=ak1 (by rw[<-h0];exact z1.out);clear m6 h0;have j8:BB≠B2:=fun e=>by
   have:=ba m4 B2 rfl;omega
  have m2:=a1.keeps j8 m2;have t0:=ad k0;go_wp2_with(at_builtin;(refine mZ (a0:=w4) (w:=wc) rfl _ _ rfl (.slice a5 ea.length c5) ea rfl y9.out (.slice (some ⟨B2,0,none⟩) D.length c7) D rfl s9.out p3 s7.out ?_);intro v9 w9 m7 z4 g6 p4;(have k0:=g6.keeps g5 k0);(have k1:=g6.keeps g5 k1);(have k2:=g6.keeps g5 k2);(have kz:w9.frozen? ⟨L,2,none⟩=false:=(g6.frozen 2 t0 g5).trans (p1 2));(obtain⟨a9,c9,rfl⟩:=m7.form))
  have z5:w4.heap.size<=L:=by
   have:=a3.size;omega
  have z6:Gr w4 (w9.setCell ⟨L,2,none⟩ (.slice a9 (ea.length+D.length) c9)):=z4.setCell z5 _;rw[alu]at m7 p4;have gS:ag (fun b=>b=L) w9 (w9.setCell ⟨L,2,none⟩ (.slice a9 (ea.length+D.length) c9)):=ag.setCell (S:=fun b=>b=L) (p:=⟨L,2,none⟩) w9 _ rfl;have k4:=m7.aC gS (fun b U e=>by
   rcases p4 with h1|h1
   ·exact g5 (by rw[<-h1,U,e])
   ·rw[h1]at U;have:=alf U;omega)
  have d5:∀e∈ea++D,e.ok lc:=by
   intro e he;rcases alm.1 he with he|he
   ·exact i1.1 e he
   ·rw[<-j7]at he;cases lc
    ·exact MJ w3 e4.1 e he
    ·exact e4.1 e he
  have p5:BB≠L:=by
   have:=d4.size;have:=o9.out;omega
  have z7:¬((ak3 a5 ea.length c5).ownBlock=some BB):=fun e=>by
   have:=ba e6 _ e;have:=d4.size;have:=gA.size;omega
  have m0:=gS.keeps p5 (g6.keeps z7 (a1.keeps j8 m0));have p6:(w9.setCell ⟨L,2,none⟩ (.slice a9 (ea.length+D.length) c9)).cell? ⟨L,0,none⟩=some (.int .i64 (pa:Int)):=by
   rw[ak4 _ _ _ _ (by simp)];exact k0
  have p7:(w9.setCell ⟨L,2,none⟩ (.slice a9 (ea.length+D.length) c9)).cell? ⟨L,1,none⟩=some (.bool lc):=by
   rw[ak4 _ _ _ _ (by simp)];exact k1
  have p8:=alb w9 ⟨L,2,none⟩ (.slice a9 (ea.length+D.length) c9) k2;generalize w9.setCell ⟨L,2,none⟩ (.slice a9 (ea.length+D.length) c9)=w10 at*;have m8:=sN pa lc _ (ea++D) w10 k4.qn d5 (by rw[alu];omega);unfold aU at m8;obtain⟨Z,hZ⟩:∃Z,ah lc (ea++D)=Z:=⟨_,rfl⟩;rw[hZ]at c4 m8;refine m8.mono ?_;rintro e g7 ⟨rfl,b0⟩;have a6:=z6.trans b0;have n0:=a6.keeps i2.out.1;have n1:=a6.keeps i2.out.2.1;have n2:=a6.keeps i2.out.2.2;have r0:=a6.keeps e5.out.1;have r1:=a6.keeps e5.out.2.1;have r2:=a6.keeps e5.out.2.2.1;have rf:∀o,g7.frozen? ⟨H,o,none⟩=false:=fun o=>(a6.frozen o (ad e5.out.1)).trans (e5.out.2.2.2 o);have GW:=HG.out.trans a6;have F0:w.heap.size<=H:=by
   have:=HJ.out.rb;omega
  have z8:∀b,(ak3 (some ⟨SB,0,none⟩) nl.length cap).ownBlock=some b->¬b=H:=fun b U e=>by
   have:=ba ho b U;omega
  have how:=ho.gr GW;have F1:=ak1 GW;have C6:=ak1 how;by_cases m9:1024<Z
  ·have p9:(1024:Int)<(Z:Int):=by omega
   rw[if_pos m9]at c4;have y:=ak1 (lI (v0:=.int .i64 (p:Int)) (v1:=.bool false) (v2:=.slice (some ⟨SB,0,none⟩) nl.length cap) r0 r1 r2);have gR:ag (fun b=>b=H) g7 (((g7.setCell ⟨H,0,none⟩ (.int .i64 (p:Int))).setCell ⟨H,1,none⟩ (.bool false)).setCell ⟨H,2,none⟩ (.slice (some ⟨SB,0,none⟩) nl.length cap)):=((ag.setCell (S:=fun b=>b=H) (p:=⟨H,0,none⟩) g7 _ rfl).trans (ag.setCell (S:=fun b=>b=H) (p:=⟨H,1,none⟩) _ _ rfl)).trans (ag.setCell (S:=fun b=>b=H) (p:=⟨H,2,none⟩) _ _ rfl);have GF:=ak1 (gR.gr GW (fun j e=>by omega));have OF:=ak1 (how.aC gR z8);clear gR;go_wp2_with fail
   obtain⟨y0,y1,y2⟩:=y.out;have gF:=GF.out;have oF:=OF.out;generalize(((g7.setCell ⟨H,0,none⟩ (.int .i64 (p:Int))).setCell ⟨H,1,none⟩ (.bool false)).setCell ⟨H,2,none⟩ (.slice (some ⟨SB,0,none⟩) nl.length cap))=n3 at*;refine alg (v:=.tuple #[.agg #[.int .i64 (p:Int),.bool false,.slice (some ⟨SB,0,none⟩) nl.length cap],.nilIface]) (by simp[aly,ale,go_sem,y0,y1,y2]) rfl ?_;rw[c4.out];exact⟨_,rfl,oF,h.gr gF,fun b U=>.inl U,ag.ak gF⟩
  ·have p9:¬(1024:Int)<(Z:Int):=by omega
   rw[if_neg m9]at c4;have m0:=b0.keeps m0;have l0:=b0.keeps p6;have l1:=b0.keeps p7;have l2:=b0.keeps p8;have i4:=mg (h.gr GW) (ht.gr GW) (k4.qn.gr b0) d5 (by omega) l3.1;unfold aU at i4;have z9:=ak1 i4;clear i4;have n7:=ad n0;have z:J≠PB/\J≠DB/\J≠M:=by omega
   have q:H≠PB/\H≠DB/\H≠M:=by omega
   have n4:BB≠PB/\BB≠DB/\BB≠M:=by
    have:=d4.size;have:=g0.size;omega
   go_wp2_with(go_at_call 200;refine z9.out.mono ?_;rintro e n3 ⟨rfl,t1,B⟩;(have n0:=B.keeps z.1 z.2.1 z.2.2 n0);(have n1:=B.keeps z.1 z.2.1 z.2.2 n1);(have n2:=B.keeps z.1 z.2.1 z.2.2 n2))
   have n8:=how.aC B.2 (fun b U e=>by
    have:=aP ho b U;omega)
   have i5:=ye a0 n3 _ nl (i+1) n8 e0 (by have:=GW.size;have:=B.size;omega) w0;obtain⟨R,hR⟩:∃R,nl.eraseIdx (i+1)=R:=⟨_,rfl⟩;rw[hR]at i5 c4;clear hR;have q7:((i+1:Nat):Int)=(i:Int)+1:=by omega
   have q8:(i:Int)+1+1=(i:Int)+2:=by omega
   rw[q7,q8]at i5;have q9:=ak1 i5;clear i5 q7 q8;have g8:¬((ak3 (some ⟨SB,0,none⟩) nl.length cap).ownBlock=some J):=fun e=>by
    have:=ba ho _ e;have:=HJ.out.nb;omega
   have A0:n3.frozen? ⟨J,2,none⟩=false:=by
    rw[B.2.frozen 2 n7 (fun e=>e.elim z.1 fun e=>e.elim z.2.1 z.2.2),a6.frozen 2 (ad i2.out.1)];exact r9.out 2
   have n9:=ad n0;go_wp2_with(go_at_call 255;refine q9.out.mono ?_;rintro e a4 ⟨F2,rfl,h5,G,b9⟩;obtain⟨O,Q,rfl⟩:=h5.form;(have n0:=G.keeps g8 n0);(have n1:=G.keeps g8 n1);(have n2:=G.keeps g8 n2);(have nz:=(G.frozen 2 n9 g8).trans A0))
   have d6:∀b,(ak3 (some ⟨SB,0,none⟩) nl.length cap).ownBlock=some b->a0.heap.size<=b:=fun b U=>aP ho b U;have n5:∀b,(ak3 (some ⟨SB,0,none⟩) nl.length cap).ownBlock=some b->b<w.heap.size:=fun b U=>ba ho b U;have c3:¬((ak3 (some ⟨SB,0,none⟩) nl.length cap).ownBlock=some H):=fun e=>by
    have:=n5 _ e;omega
   have F3:w.heap.size<=BB:=by
    have:=d4.size;have:=g0.size;omega
   have t2:¬((ak3 (some ⟨SB,0,none⟩) nl.length cap).ownBlock=some BB):=fun e=>by
    have:=n5 _ e;omega
   have A1:J=w.heap.size:=HJ.out.nb;have t3:H=w.heap.size+1+1:=HJ.out.rb;have i6:H≠J:=by omega
   have A2:BB≠J:=by
    have:=d4.size;omega
   have i0:=ad r0;have r0:=G.keeps c3 (B.keeps q.1 q.2.1 q.2.2 r0);have r1:=G.keeps c3 (B.keeps q.1 q.2.1 q.2.2 r1);have r2:=G.keeps c3 (B.keeps q.1 q.2.1 q.2.2 r2);have m0:=G.keeps t2 (B.keeps n4.1 n4.2.1 n4.2.2 m0);have k5:∀o,a4.frozen? ⟨H,o,none⟩=false:=fun o=>by
    rw[G.frozen o (ak9 i0 B.size) c3,B.2.frozen o i0 (fun e=>e.elim q.1 fun e=>e.elim q.2.1 q.2.2)];exact rf o
   have gS:ag (fun b=>b=J) a4 (a4.setCell ⟨J,2,none⟩ (.slice O R.length Q)):=ag.setCell (S:=fun b=>b=J) (p:=⟨J,2,none⟩) a4 _ rfl;have A3:∀b,(ak3 O R.length Q).ownBlock=some b->¬b=J:=fun b U e=>g8 (by rw[<-b9,U,e]);have A4:∀b,(ak3 O R.length Q).ownBlock=some b->¬b=H:=fun b U e=>c3 (by rw[<-b9,U,e]);have A5:∀b,(ak3 O R.length Q).ownBlock=some b->¬(b=PB\/b=DB\/b=M):=fun b U e=>by
    have:=d6 b (by rw[<-b9];exact U);omega
   have k6:=h5.aC gS A3;have k7:=(t1.aC G (fun e=>by have:=d6 _ e;omega) (fun e=>by have:=d6 _ e;omega) (fun e=>by have:=d6 _ e;omega)).aC gS (fun e=>z.1 e.symm) (fun e=>z.2.1 e.symm) (fun e=>z.2.2 e.symm);have k8:=(((ht.gr GW).pg B k9.1 k9.2.1 k9.2.2).aC G (fun e=>by have:=d6 _ e;omega)).aC gS (fun e=>by omega);have r3:ag (fun b=>b=PB\/b=DB\/b=M\/(ak3 (some ⟨SB,0,none⟩) nl.length cap).ownBlock=some b) w (a4.setCell ⟨J,2,none⟩ (.slice O R.length Q)):=
    (((ag.ak GW).own B.2 (fun j e=>.inl (e.elim .inl fun e=>e.elim (fun e=>.inr (.inl e)) fun e=>.inr (.inr (.inl e))))).own G (fun j e=>.inl (.inr (.inr (.inr e))))).own gS (fun j e=>.inr (by omega))
   have r0:=gS.keeps i6 r0;have r1:=gS.keeps i6 r1;have r2:=gS.keeps i6 r2;have m0:=gS.keeps A2 m0;have A6:(a4.setCell ⟨J,2,none⟩ (.slice O R.length Q)).cell? ⟨J,0,none⟩=some (.int .i64 (p:Int)):=by
    rw[ak4 _ _ _ _ (by simp)];exact n0
   have A7:(a4.setCell ⟨J,2,none⟩ (.slice O R.length Q)).cell? ⟨J,1,none⟩=some (.bool false):=by
    rw[ak4 _ _ _ _ (by simp)];exact n1
   have A8:=alb a4 ⟨J,2,none⟩ (.slice O R.length Q) n2;have A9:∀o,(a4.setCell ⟨J,2,none⟩ (.slice O R.length Q)).frozen? ⟨H,o,none⟩=false:=fun o=>by
    have F4:=G.2.2.2.1;have F5:=B.size;rw[gS.frozen o (by omega) i6];exact k5 o
   clear q9 G gS h5 k5 n0 n1 n2;generalize a4.setCell ⟨J,2,none⟩ (.slice O R.length Q)=w14 at*;have tp:=k8.p;have r4:ah lc (ea++D)<=1024:=by omega
   have l7:eW (c.write (pa:Nat) (au lc (ea++D))) pb2:=(gb (pg:=d.pg) h.f l3.1 (dA d5 r4)).1.GD o6.1 (by simpa using fun e:pb2=pa=>x3 e.symm);have r5:=fun W (g:Gr w14 W)=>As (k7.gr g) l7;have B0:=ak1 r5;have t4:=ak1 r3;have t5:=ak1 k6;have o0:H<w14.heap.size:=ad r0;have r6:∀(Y:World) (o:Nat),aM PB DB M M w14 Y->Y.frozen? ⟨H,o,none⟩=false:=fun Y o f5=>(f5.2.frozen o o0 (fun e=>e.elim q.1 fun e=>e.elim q.2.1 q.2.2)).trans (A9 o);have n6:=ak1 r6;clear r5 r6 r3 k6 k7 k8 A1 t3 r4 l7 d5 x5 x6 x7 x8 s3 s5 i3 p3 s8 p5 n5 d6 k0 k1 k2 kz l0 l1 l2 p6 p7 p8 m1 y0 z0 z2 x2 l6 hZ m9 p9 q2 q3 q5 q6 b2 b3 b5 b6 kf p1;generalize(c.write (pa:Nat) (au lc (ea++D))).free (pb2:Nat)=CF at*;go_region_with(go_at_call 204;refine(B0.out _ ?_).mono ?_;(with_reducible exact(Gr.refl _).drew);rintro e Y ⟨rfl,B1,B3⟩;(have I:=(aM.ak PB DB M (Gr.refl w14).drew).trans B3);(have r0:=I.keeps q.1 q.2.1 q.2.2 r0);(have r1:=I.keeps q.1 q.2.1 q.2.2 r1);(have r2:=I.keeps q.1 q.2.1 q.2.2 r2);(have x0:=n6.out _ 0 I);(have x1:=n6.out _ 1 I);(have x2:=n6.out _ 2 I);(have q0:=I.keeps z.1 z.2.1 z.2.2 A6);(have q1:=I.keeps z.1 z.2.1 z.2.2 A7);(have q2:=I.keeps z.1 z.2.1 z.2.2 A8))
   all_goals
    have y:=ak1 (lI (v0:=.int .i64 (p:Int)) (v1:=.bool false) (v2:=.slice O R.length Q) r0 r1 r2);have g3:=ak1 (Fb Y H (.int .i64 (p:Int)) (.bool false) (.slice O R.length Q));go_wp2_with fail
    obtain⟨y0,y1,y2⟩:=y.out;have g3:=g3.out;generalize(((Y.setCell ⟨H,0,none⟩ (.int .i64 (p:Int))).setCell ⟨H,1,none⟩ (.bool false)).setCell ⟨H,2,none⟩ (.slice O R.length Q))=w9 at*;refine alg (v:=.tuple #[.agg #[.int .i64 (p:Int),.bool false,.slice O R.length Q],.nilIface]) (by simp[aly,ale,go_sem,y0,y1,y2]) rfl ?_;rw[c4.out];exact⟨_,rfl,(t5.out.aC I.2 A5).aC g3 A4,B1.aC g3 (fun e=>q.1 e.symm) (fun e=>q.2.1 e.symm) (fun e=>q.2.2 e.symm),fun b U=>.inl (by rw[<-b9];exact U),(t4.out.own I.2 (fun j e=>.inl (e.elim .inl fun e=>e.elim (fun e=>.inr (.inl e)) fun e=>.inr (.inr (.inl e))))).own g3 (fun j e=>.inr (by have:=HJ.out.rb;omega))⟩
end
theorem Sm{T:Nat->Prop}{PB DB M:Nat}{w q s:World}(h:aM PB DB M M w q)(k:ag (fun b=>b=PB\/b=DB\/b=M\/T b) q s)(z:∀j,T j->w.heap.size<=j):aM PB DB M M w s:=
 ⟨.inl rfl,k.1.trans h.2.1,k.2.1.trans h.2.2.1,k.2.2.1.trans h.2.2.2.1,alk h.size k.2.2.2.1,fun j y hs=>(k.block (ak9 y h.size) (fun e=>e.elim (fun e=>hs (.inl e)) fun e=>e.elim (fun e=>hs (.inr (.inl e))) fun e=>e.elim (fun e=>hs (.inr (.inr e))) fun e=>by have:=z j e;omega)).trans (h.2.block y hs)⟩
section
variable{w:World}{PB DB M:Nat}{c:Ch}{sv:Head}{t:Int}{d:Dk}
theorem MK(h:bF w PB DB M c sv t d){TP root:Nat}(ht:bc w TP PB root)(V:TP≠PB/\TP≠DB/\TP≠M){p:Nat}{l:List En}(hp:gO c d.pg false p l)(o9:∀e∈l,e.ok false)(I:ah false l<=1024)(key:ByteArray)
  {K:Nat} (hK:aG (aD l) key=K) (g4:K<l.length) {c1 C2:Ch} {pb:Nat} {lc:Bool} {be R:List En}
  (a8:∀W,Gr w W->Calls ali 203 #[.pointer (some ⟨TP,0,none⟩),.int .i64 (l[K].b_:Int),.string key] W fun e w'=>∃s,e=.returned (.tuple #[aU pb lc s,.nilIface])/\aT W w' s be/\bF w' PB DB M c1 sv t d/\aM PB DB M M W w')
  (e5:be≠[]->∀(a0 W:World) s sb,bF W PB DB M c1 sv t d->bc W TP PB root->aT a0 W s l->a0.heap.size<=W.heap.size->(PB<a0.heap.size/\DB<a0.heap.size/\M<a0.heap.size/\TP<a0.heap.size)->oi W sb be->
   Calls ali 256 #[.pointer (some ⟨TP,0,none⟩),aU p false s,.int .i64 (K:Int),aU pb lc sb] W fun e w'=>∃s',e=.returned (.tuple #[aU p false s',.nilIface])/\aT a0 w' s' R/\bF w' PB DB M C2 sv t d/\(∀b,s'.ownBlock=some b->s.ownBlock=some b\/W.heap.size<=b)/\ag (fun b=>b=PB\/b=DB\/b=M\/s.ownBlock=some b) W w')
  (e6:be=[]->eW c1 pb/\C2=c1.free (pb:Nat)/\R=l.eraseIdx K) (hR:(∀e∈R,e.ok false)/\ah false R<=1024) (p3:eW C2 p) (v4:be.length<=1000):
  Calls ali 203 #[.pointer (some ⟨TP,0,none⟩),.int .i64 (p:Int),.string key] w fun e w'=>∃s,e=.returned (.tuple #[aU p false s,.nilIface])/\aT w w' s R/\bF w' PB DB M (C2.write (p:Nat) (au false R)) sv t d/\aM PB DB M M w w':=by
 have b8:=fun W (g:Gr w W)=>lQ (h.gr g).s (ht.gr g) hp o9 I;have p4:=ak1 b8;clear b8;have n4:=ak1 a8;have HJ:=ak1 e5;have k3:=ak1 e6;clear a8 e5 e6;have h9:Gr w (w.alloc (.cells #[.int .i64 0,.bool false,.slice none 0 0] 200)):=(Gr.refl w).alloc _;have U:(w.alloc (.cells #[.int .i64 0,.bool false,.slice none 0 0] 200)).cell? ⟨w.heap.size,0,none⟩=some (.int .i64 0):=by rw[ak2];rfl
 have r1:(w.alloc (.cells #[.int .i64 0,.bool false,.slice none 0 0] 200)).cell? ⟨w.heap.size,1,none⟩=some (.bool false):=by rw[ak2];rfl
 have r2:(w.alloc (.cells #[.int .i64 0,.bool false,.slice none 0 0] 200)).cell? ⟨w.heap.size,2,none⟩=some (.slice none 0 0):=by rw[ak2];rfl
 have rf:∀o,(w.alloc (.cells #[.int .i64 0,.bool false,.slice none 0 0] 200)).frozen? ⟨w.heap.size,o,none⟩=false:=fun o=>by simp
 have hl:l.length<=600:=by
  have:=dC false l;unfold ah at I;omega
 have v5:(aD l).length=l.length:=by unfold aD;rw[ak6]
 obtain⟨CW,i0⟩:∃CW,C2.write (p:Nat) (au false R)=CW:=⟨_,rfl⟩;rw[i0];have p5:=ak1 i0;clear i0;go_enter Tryz.func203,Tryz.ntmps203;go_wp2_with fail
 have g5:Hid (w.heap.size<(w.alloc (.cells #[.int .i64 0,.bool false,.slice none 0 0] 200)).heap.size):=ak1 (by simp);have b8:=p4.out _ h9;have b9:=ak1 h9;obtain⟨WB,l1⟩:∃WB,w.alloc (.cells #[.int .i64 0,.bool false,.slice none 0 0] 200)=WB:=⟨_,rfl⟩;rw[l1]at b8 U r1 r2 rf b9 g5⊢;clear l1 h9;obtain⟨RB,l2⟩:∃RB,w.heap.size=RB:=⟨_,rfl⟩;have c0:=ak1 l2;rw[l2]at U r1 r2 rf g5⊢;refine b8.mono ?_;rintro e w1 ⟨s',rfl,d0,i1⟩;obtain⟨ao,ca,rfl⟩:=d0.form;have i2:=fun W (g:Gr w1 W)=>pj p false l (.slice ao l.length ca) key W (d0.qn.gr g) (by omega);simp only[Bool.false_eq_true,if_false]at i2;have d1:Gr w1 (w1.alloc (.cells #[.int .i64 (p:Int),.bool false,.slice ao l.length ca] 200)):=(Gr.refl w1).alloc _;unfold aU at*;have l3:=ak1 i2;have d2:=i1.trans d1;have U:=d2.keeps U;have r1:=d2.keeps r1;have r2:=d2.keeps r2;have k0:(w1.alloc (.cells #[.int .i64 (p:Int),.bool false,.slice ao l.length ca] 200)).cell? ⟨w1.heap.size,0,none⟩=some (.int .i64 (p:Int)):=by rw[ak2];rfl
 have k1:(w1.alloc (.cells #[.int .i64 (p:Int),.bool false,.slice ao l.length ca] 200)).cell? ⟨w1.heap.size,1,none⟩=some (.bool false):=by rw[ak2];rfl
 have k2:(w1.alloc (.cells #[.int .i64 (p:Int),.bool false,.slice ao l.length ca] 200)).cell? ⟨w1.heap.size,2,none⟩=some (.slice ao l.length ca):=by rw[ak2];rfl
 have kf:∀o,(w1.alloc (.cells #[.int .i64 (p:Int),.bool false,.slice ao l.length ca] 200)).frozen? ⟨w1.heap.size,o,none⟩=false:=fun o=>by simp
 clear b8 i2;go_wp2_with fail
 obtain⟨G,i3⟩:∃G,w1.heap.size=G:=⟨_,rfl⟩;rw[i3]at k0 k1 k2 kf⊢;rw[hK]at l3;generalize dm (aD l) key=hit at*;rcases d0.at' with⟨_,e2⟩|⟨B,cap,e3,h2,h3,h4,h5,h6⟩
 ·rw[e2]at g4;exact absurd g4 (by simp)
 obtain⟨rfl,rfl⟩:ao=some ⟨B,0,none⟩/\ca=cap:=by
  injection e3 with e1 e2 e3
  exact⟨e1,e3⟩
 refine(l3.out _ d1).mono ?_;rintro e w2 ⟨rfl,O⟩;have U:=O.keeps U;have r1:=O.keeps r1;have r2:=O.keeps r2;have k0:=O.keeps k0;have k1:=O.keeps k1;have k2:=O.keeps k2;have l5:=d0.gr (d1.trans O);have i4:=d2.trans O;have v7:(K:Int)<(l.length:Int):=by omega
 obtain⟨_,_,b2⟩:=(h5.gr (d1.trans O)) K g4;rw[alh]at b2;have i5:=b9.out.trans i4;have a8:=n4.out _ i5;generalize(l[K].b_:Int)=pgi at*;have p6:=ak1 a8;have v8:=ak1 hK;clear a8 hK;have n5:G<w2.heap.size:=ad k0;have n6:RB<w2.heap.size:=ad U;have p7:=h.lt;have v9:=ad ht.p;have p8:WB.heap.size<=G:=by
  rw[<-i3];exact i1.size
 have w0:RB<WB.heap.size:=g5.out;have l6:=b9.out.size;rw[c0.out]at l6;have c2:=c0.out;have q:G≠PB/\G≠DB/\G≠M/\G≠TP/\G≠RB:=by omega
 have z:RB≠PB/\RB≠DB/\RB≠M/\RB≠TP:=by omega
 have b1:∀o,w2.frozen? ⟨G,o,none⟩=false:=fun o=>(O.frozen o (by rw[<-i3];simp)).trans (kf o);have b3:∀o,w2.frozen? ⟨RB,o,none⟩=false:=fun o=>(i4.frozen o g5.out).trans (rf o);have i6:=ak1 i5;have l7:=ak1 l5;clear i5 l5 i4 O d2 d1 i1 kf rf c2 l6;go_wp2_with fail
 refine p6.out.mono ?_;rintro e J ⟨s3,rfl,i7,l8,H⟩;obtain⟨a3,c3,rfl⟩:=i7.form;unfold aU at*;replace U:=H.keeps z.1 z.2.1 z.2.2.1 U;replace r1:=H.keeps z.1 z.2.1 z.2.2.1 r1;replace r2:=H.keeps z.1 z.2.1 z.2.2.1 r2;replace k0:=H.keeps q.1 q.2.1 q.2.2.1 k0;replace k1:=H.keeps q.1 q.2.1 q.2.2.1 k1;replace k2:=H.keeps q.1 q.2.1 q.2.2.1 k2;replace b1:∀o,J.frozen? ⟨G,o,none⟩=false:=fun o=>(H.2.frozen o n5 (fun e=>e.elim q.1 fun e=>e.elim q.2.1 q.2.2.1)).trans (b1 o);replace b3:∀o,J.frozen? ⟨RB,o,none⟩=false:=fun o=>(H.2.frozen o n6 (fun e=>e.elim z.1 fun e=>e.elim z.2.1 z.2.2.1)).trans (b3 o);have Z:Gr J (J.alloc (.cells #[.int .i64 (pb:Int),.bool lc,.slice a3 be.length c3] 200)):=(Gr.refl J).alloc _;have z0:(J.alloc (.cells #[.int .i64 (pb:Int),.bool lc,.slice a3 be.length c3] 200)).cell? ⟨J.heap.size,0,none⟩=some (.int .i64 (pb:Int)):=by rw[ak2];rfl
 have z1:(J.alloc (.cells #[.int .i64 (pb:Int),.bool lc,.slice a3 be.length c3] 200)).cell? ⟨J.heap.size,1,none⟩=some (.bool lc):=by rw[ak2];rfl
 have z2:(J.alloc (.cells #[.int .i64 (pb:Int),.bool lc,.slice a3 be.length c3] 200)).cell? ⟨J.heap.size,2,none⟩=some (.slice a3 be.length c3):=by rw[ak2];rfl
 have h7:G<J.heap.size:=ad k0;have n7:RB<J.heap.size:=ad U;replace U:=Z.keeps U;replace r1:=Z.keeps r1;replace r2:=Z.keeps r2;replace k0:=Z.keeps k0;replace k1:=Z.keeps k1;replace k2:=Z.keeps k2;replace b1:∀o,(J.alloc (.cells #[.int .i64 (pb:Int),.bool lc,.slice a3 be.length c3] 200)).frozen? ⟨G,o,none⟩=false:=fun o=>(Z.frozen o h7).trans (b1 o);replace b3:∀o,(J.alloc (.cells #[.int .i64 (pb:Int),.bool lc,.slice a3 be.length c3] 200)).frozen? ⟨RB,o,none⟩=false:=fun o=>(Z.frozen o n7).trans (b3 o);have l9:=ak1 (l8.gr Z);have m0:=ak1 (((aM.ak PB DB M i6.out).trans H).trans (aM.ak PB DB M Z));have i9:=((ht.gr i6.out).pg H V.1 V.2.1 V.2.2).gr Z;have n8:PB<WB.heap.size/\DB<WB.heap.size/\M<WB.heap.size/\TP<WB.heap.size:=by
  have:=c0.out;omega
 have j0:∀b,(ak3 (some ⟨B,0,none⟩) l.length ca).ownBlock=some b->WB.heap.size<=b:=fun b I=>aP l7.out b I;have m1:=ak1 ((l7.out.aC H.2 (fun b I e=>by have:=j0 b I;omega)).gr Z);have p9:=ak1 (i7.qn.gr Z);have Y:=ak1 j0;have q3:G≠J.heap.size/\RB≠J.heap.size/\PB≠J.heap.size/\DB≠J.heap.size/\M≠J.heap.size:=by
  have:=H.size;have:=i6.out.size;have:=H.2.2.2.2.1;omega
 have tp:=i9.p;have j1:=ak1 i9;have a4:¬((ak3 (some ⟨B,0,none⟩) l.length ca).ownBlock=some G):=fun e=>by
  have:=ba d0 _ e;omega
 have b4:¬((ak3 (some ⟨B,0,none⟩) l.length ca).ownBlock=some RB):=fun e=>by
  have:=Y.out _ e;omega
 have h8:WB.heap.size<=(J.alloc (.cells #[.int .i64 (pb:Int),.bool lc,.slice a3 be.length c3] 200)).heap.size:=alk (Nat.le_of_lt (Nat.lt_of_le_of_lt p8 h7)) Z.size;clear i9 j0 l8 H i7 Z b2;go_upto_if 66 with(fail)
 obtain⟨ZB,m2⟩:∃ZB,J.heap.size=ZB:=⟨_,rfl⟩;rw[m2]at z0 z1 z2 q3⊢;clear m2;generalize J.alloc (.cells #[.int .i64 (pb:Int),.bool lc,.slice a3 be.length c3] 200)=W4 at*;go_cut [9] (fun s9 wx=>s9=.nilIface/\∃aR cR,(wx.cell? ⟨G,0,none⟩=some (.int .i64 (p:Int))/\wx.cell? ⟨G,1,none⟩=some (.bool false)/\wx.cell? ⟨G,2,none⟩=some (.slice aR R.length cR))/\(wx.cell? ⟨RB,0,none⟩=some (.int .i64 0)/\wx.cell? ⟨RB,1,none⟩=some (.bool false)/\wx.cell? ⟨RB,2,none⟩=some (.slice none 0 0)/\∀o,wx.frozen? ⟨RB,o,none⟩=false)/\(aT WB wx (.slice aR R.length cR) R/\∀b,(ak3 aR R.length cR).ownBlock=some b->¬b=G/\¬b=RB)/\bF wx PB DB M C2 sv t d/\bc wx TP PB root/\aM PB DB M M w wx)
 case first=>
  by_cases g6:be=[]
  ·have q4:(be.length:Int)=0:=by rw[g6];rfl
   obtain⟨hu,hC,m3⟩:=k3.out g6;have j2:=fun W (g:Gr W4 W)=>As (l9.out.gr g) hu;rw[<-hC]at j2;have q5:=ak1 j2;have q6:=ak1 m3;have c2:alD.wrap ((K:Int)+1)=(K:Int)+1:=alz _ (by omega);clear j2 m3 hC;go_wp2_with fail
   go_region_with(go_at_call 204;refine(q5.out _ ?_).mono ?_;(with_reducible exact(Gr.refl _).drew);rintro e w5 ⟨rfl,b5,g7⟩)
   all_goals
    have D:=(aM.ak PB DB M (Gr.refl W4).drew).trans g7;have j3:=ad k0;have j4:=ad U;have q0:=D.keeps q.1 q.2.1 q.2.2.1 k0;have q1:=D.keeps q.1 q.2.1 q.2.2.1 k1;have q2:=D.keeps q.1 q.2.1 q.2.2.1 k2;have p0:=D.keeps z.1 z.2.1 z.2.2.1 U;have p1:=D.keeps z.1 z.2.1 z.2.2.1 r1;have p2:=D.keeps z.1 z.2.1 z.2.2.1 r2;have qz:w5.frozen? ⟨G,2,none⟩=false:=(D.2.frozen 2 j3 (fun e=>e.elim q.1 fun e=>e.elim q.2.1 q.2.2.1)).trans (b1 2);have pz:∀o,w5.frozen? ⟨RB,o,none⟩=false:=fun o=>(D.2.frozen o j4 (fun e=>e.elim z.1 fun e=>e.elim z.2.1 z.2.2.1)).trans (b3 o);have PZ:=ak1 pz;have c4:=m1.out.aC D.2 (fun b I e=>by have:=Y.out b I;omega);have j5:=ye WB w5 _ l K c4 g4 (alk h8 D.size) (by omega);rw[<-q6.out]at j5;have q7:=ak1 j5;have j6:=ak1 b5;have m4:=ak1 D;have q8:=ad q0;have g8:=ad p0;clear j5 b5 g7 D c4 pz;go_wp2_with(refine q7.out.mono ?_;rintro e w6 ⟨v6,rfl,b6,L,e4⟩;obtain⟨a6,c6,rfl⟩:=b6.form;(have q0:=L.keeps a4 q0);(have q1:=L.keeps a4 q1);(have q2:=L.keeps a4 q2);(have qz:=(L.frozen 2 q8 a4).trans qz))
    have gS:ag (fun b=>b=G) w6 (w6.setCell ⟨G,2,none⟩ (.slice a6 R.length c6)):=ag.setCell (S:=fun b=>b=G) (p:=⟨G,2,none⟩) w6 _ rfl;have q9:RB<w6.heap.size:=ak9 g8 L.2.2.2.1;go_meet
    refine⟨rfl,a6,c6,⟨?_,?_,alb _ _ _ q2⟩,⟨gS.keeps q.2.2.2.2.symm (L.keeps b4 p0),gS.keeps q.2.2.2.2.symm (L.keeps b4 p1),gS.keeps q.2.2.2.2.symm (L.keeps b4 p2),fun o=>?_⟩,⟨b6.aC gS ?_,?_⟩,?_,?_,?_⟩
    ·rw[ak4 _ _ _ _ (by simp)];exact q0
    ·rw[ak4 _ _ _ _ (by simp)];exact q1
    ·rw[gS.frozen o q9 q.2.2.2.2.symm,L.frozen o g8 b4];exact PZ.out o
    ·exact fun b I e=>a4 (by rw[<-e4,I,e])
    ·exact fun b I=>⟨fun e=>a4 (by rw[<-e4,I,e]),fun e=>b4 (by rw[<-e4,I,e])⟩
    ·exact(j6.out.aC L (fun e=>by have:=Y.out _ e;omega) (fun e=>by have:=Y.out _ e;omega) (fun e=>by have:=Y.out _ e;omega)).aC gS (fun e=>q.1 e.symm) (fun e=>q.2.1 e.symm) (fun e=>q.2.2.1 e.symm)
    ·exact((j1.out.pg m4.out V.1 V.2.1 V.2.2).aC L (fun e=>by have:=Y.out _ e;omega)).aC gS (fun e=>q.2.2.2.1 e.symm)
    ·exact((m0.out.trans m4.out).own L (fun j e=>by have:=Y.out _ e;have:=b9.out.size;omega)).own gS (fun j e=>by have:=c0.out;omega)
  ·have q4:¬(be.length:Int)=0:=fun e=>g6 (ak8 (by omega));have hj:=HJ.out g6 WB W4 _ _ l9.out j1.out m1.out h8 n8 p9.out;unfold aU at hj;have r3:=ak1 hj;clear hj;go_wp2_with fail
   refine r3.out.mono ?_;rintro e w5 ⟨s5,rfl,c4,b5,m6,Q⟩;obtain⟨a5,c5,rfl⟩:=c4.form;have j3:=ad k0;have j4:=ad U;have d8:¬(G=PB\/G=DB\/G=M\/(ak3 (some ⟨B,0,none⟩) l.length ca).ownBlock=some G):=fun e=>e.elim q.1 fun e=>e.elim q.2.1 fun e=>e.elim q.2.2.1 a4;have d9:¬(RB=PB\/RB=DB\/RB=M\/(ak3 (some ⟨B,0,none⟩) l.length ca).ownBlock=some RB):=fun e=>e.elim z.1 fun e=>e.elim z.2.1 fun e=>e.elim z.2.2.1 b4;have q0:=Q.keeps d8 k0;have q1:=Q.keeps d8 k1;have q2:=Q.keeps d8 k2;have qz:∀o,w5.frozen? ⟨G,o,none⟩=false:=fun o=>(Q.frozen o j3 d8).trans (b1 o);have w4:=qz 0;have w7:=qz 1;have w8:=qz 2;have PZ:Hid (∀o,w5.frozen? ⟨RB,o,none⟩=false):=ak1 fun o=>(Q.frozen o j4 d9).trans (b3 o);have PR:=ak1 (And.intro (Q.keeps d9 U) (And.intro (Q.keeps d9 r1) (Q.keeps d9 r2)));have y:=ak1 (lI (v0:=.int .i64 (p:Int)) (v1:=.bool false) (v2:=.slice a5 R.length c5) q0 q1 q2);have g3:=ak1 (Fb w5 G (.int .i64 (p:Int)) (.bool false) (.slice a5 R.length c5));have m8:=ak1 Q;have r4:=ak1 c4;have j6:=ak1 b5;have r5:=ak1 m6;clear Q c4 b5 m6 d8 d9 qz;go_wp2_with fail
   obtain⟨y0,y1,y2⟩:=y.out;have g3:=g3.out;have g9:¬RB=G:=fun e=>q.2.2.2.2 e.symm;have g8:=ad PR.out.1;have e0:∀b,(ak3 a5 R.length c5).ownBlock=some b->¬b=G/\¬b=RB:=fun b I=>by
    rcases r5.out b I with e|e
    ·exact⟨fun e1=>a4 (by rw[e,e1]),fun e1=>b4 (by rw[e,e1])⟩
    ·omega
   generalize((w5.setCell ⟨G,0,none⟩ (.int .i64 (p:Int))).setCell ⟨G,1,none⟩ (.bool false)).setCell ⟨G,2,none⟩ (.slice a5 R.length c5)=w9 at*;go_meet
   refine⟨rfl,a5,c5,⟨y0,y1,y2⟩,⟨g3.keeps g9 PR.out.1,g3.keeps g9 PR.out.2.1,g3.keeps g9 PR.out.2.2,fun o=>(g3.frozen o g8 g9).trans (PZ.out o)⟩,⟨r4.out.aC g3 (fun b I=>(e0 b I).1),e0⟩,?_,?_,?_⟩
   ·exact j6.out.aC g3 (fun e=>q.1 e.symm) (fun e=>q.2.1 e.symm) (fun e=>q.2.2.1 e.symm)
   ·exact(j1.out.aC m8.out (fun e=>e.elim V.1 fun e=>e.elim V.2.1 fun e=>e.elim V.2.2 fun e=>by have:=Y.out _ e;omega)).aC g3 (fun e=>q.2.2.2.1 e.symm)
   ·exact(Sm m0.out m8.out (fun j e=>by have:=Y.out _ e;have:=b9.out.size;omega)).own g3 (fun j e=>by have:=c0.out;omega)
 case rest=>
  obtain⟨rfl,aR,cR,⟨q0,q1,q2⟩,⟨p0,p1,p2,pz⟩,⟨b6,e0⟩,m9,j7,n1⟩:=hcut;have n9:RB<wc.heap.size:=ad p0;have c2:=fun W (g:Gr wc W)=>mg (m9.gr g) (j7.gr g) (b6.qn.gr g) hR.1 hR.2 p3;simp only[p5.out]at c2;have x3:=j7.p;have n2:=ak1 c2;have r6:=ak1 n1;have r7:=ak1 (b6.back b9.out);have r8:Hid (∀b,(ak3 aR R.length cR).ownBlock=some b->WB.heap.size<=b):=ak1 fun b I=>aP b6 b I;have r9:=ak1 e0;unfold aU at n2;have n3:∀(w5:World) (o:Nat),aM PB DB M M wc w5->w5.frozen? ⟨RB,o,none⟩=false:=fun w5 o f5=>(f5.2.frozen o n9 (fun e=>e.elim z.1 fun e=>e.elim z.2.1 z.2.2.1)).trans (pz o);have j8:=ak1 n3;clear c2 n1 m9 b6 j7 n3 e0 U r1 r2 k0 k1 k2 b1 b3 z0 z1 z2 tp pz;go_wp2_with fail
  go_region_with(go_at_call 200;refine(n2.out _ ?_).mono ?_;(with_reducible exact(Gr.refl _).drew);rintro e w5 ⟨rfl,b5,g7⟩;(have D:=(aM.ak PB DB M (Gr.refl wc).drew).trans g7);(have p0:=D.keeps z.1 z.2.1 z.2.2.1 p0);(have p1:=D.keeps z.1 z.2.1 z.2.2.1 p1);(have p2:=D.keeps z.1 z.2.1 z.2.2.1 p2);(have x0:=j8.out _ 0 D);(have x1:=j8.out _ 1 D);(have x2:=j8.out _ 2 D);(have q0:=D.keeps q.1 q.2.1 q.2.2.1 q0);(have q1:=D.keeps q.1 q.2.1 q.2.2.1 q1);(have q2:=D.keeps q.1 q.2.1 q.2.2.1 q2))
  all_goals
   have y:=ak1 (lI (v0:=.int .i64 (p:Int)) (v1:=.bool false) (v2:=.slice aR R.length cR) p0 p1 p2);have tn:=ak1 (CC (RB:=RB) (Nat.le_of_eq c0.out) (r6.out.trans D) b5 (r7.out.aC D.2 (fun b I e=>by have:=r8.out b I;omega)) (fun b I=>(r9.out b I).2) p7 (.int .i64 (p:Int)) (.bool false) (.slice aR R.length cR));go_wp2_with fail
   obtain⟨y0,y1,y2⟩:=y.out;have j9:=tn.out;generalize(((w5.setCell ⟨RB,0,none⟩ (.int .i64 (p:Int))).setCell ⟨RB,1,none⟩ (.bool false)).setCell ⟨RB,2,none⟩ (.slice aR R.length cR))=w9 at*;refine alg (v:=.tuple #[.agg #[.int .i64 (p:Int),.bool false,.slice aR R.length cR],.nilIface]) (by simp[aly,Tryz.results203,go_sem,y0,y1,y2]) rfl ⟨_,rfl,j9.1,j9.2.1,j9.2.2⟩
end
theorem ML{pg:Nat->ByteArray}{d:Nat}{c:Ch}{p:Nat}{l:List (ByteArray×T d)}(hl:T.lays (d:=d+1) c pg (p,l))(ho:T.eU (d:=d+1) (p,l))(hn:(p::l.flatMap fun y=>y.2.af).Nodup){K:Nat}{x:ByteArray×T d}(hx:l[K]?=some x){c1:Ch}{u:T d}(B:Nk pg c x.2 (c1,u))(hu:u.aI≠[]):Kids pg c1 p (l.set K (x.1,u)):=by
 obtain⟨I,J,q,Q⟩:=lC hx;have b2:x∈l:=by rw[q];simp
 have H:=hn;rw[q,ala,ak_]at H;obtain⟨n1,n2⟩:=aln.1 H;obtain⟨n3,n4,n5⟩:=ak7.1 n2;obtain⟨n6,n7,n8⟩:=ak7.1 n4;have S:∀y∈l,y.2.lays c pg:=hl.2;have V:∀y∈l,y.2.eU:=ho.2;have D:pM false (l.map aH):=ho.1;have s:∀y,y∈I\/y∈J->y∈l/\∀k∈y.2.af,k∉x.2.af:=fun y b=>by
  rcases b with b|b
  ·refine⟨by rw[q];exact alc _ b,fun k M O=>n5 k (alw.2 ⟨y,b,M⟩) k (alc _ O) rfl⟩
  ·refine⟨by rw[q];exact List.mem_append_right _ (alq _ b),fun k M O=>n8 k O k (alw.2 ⟨y,b,M⟩) rfl⟩
 have Y:Fr pg x.2.af c c1:=B.fr;have Z:u.pg=x.2.pg:=B.b_;have a0:u.lays c1 pg:=B.lays;have a1:u.eU:=B.fits hu;have a2:∀k∈u.af,k∈x.2.af:=B.sub;have a3:u.af.Nodup:=B.nd;have L:l.set K (x.1,u)=I++(x.1,u)::J:=by rw[<-Q,q,mb]
 have G:(I++(x.1,u)::J).map aH=l.map aH:=by
  rw[q];simp only[List.map_append,List.map_cons];have:aH (x.1,u)=aH x:=by
   unfold aH;rw[Z]
  rw[this]
 have z:∀y,y∈I\/y∈J->y.2.lays c1 pg/\y.2.eU:=fun y b=>⟨T.gj Y (S y (s y b).1) (s y b).2,V y (s y b).1⟩;rw[L];refine⟨fun y b=>?_,fun y b=>?_,by rw[G];exact D.2.2,by rw[G];exact D.2.1,?_⟩
 ·rcases alm.1 b with h|h
  ·exact(z y (.inl h)).1
  rcases als.1 h with e|h
  ·rw[e];exact a0
  ·exact(z y (.inr h)).1
 ·rcases alm.1 b with h|h
  ·exact(z y (.inl h)).2
  rcases als.1 h with e|h
  ·rw[e];exact a1
  ·exact(z y (.inr h)).2
 ·rw[ala,ak_];exact vx (U:=fun _=>True) H a3 (fun k hk=>.inl (a2 k hk)) (fun _ _=>trivial)
theorem kZ{b q:Type}(f:b->q):∀(l:List b) (i:Nat),(l.eraseIdx i).map f=(l.map f).eraseIdx i
 |[],_=>by simp
 |_::_,0=>rfl
 |a::l,i+1=>by
  show f a::((l.eraseIdx i).map f)=f a::((l.map f).eraseIdx i);rw[kZ f l i]
theorem J_(c:Ch)(k:Int)(s:ByteArray):(c.write k s).h=c.h:=by
 unfold Ch.write
 split<;>rfl
section
variable{PB DB M:Nat}{sv:Head}{t:Int}{dk:Dk}
theorem NU{TP root:Nat}(J:TP≠PB/\TP≠DB/\TP≠M)(key:ByteArray):∀{n:Nat} {c:Ch} {x:T n} {w:World},bF w PB DB M c sv t dk->bc w TP PB root->x.lays c dk.pg->x.eU->x.af.Nodup->ki key x≠none->
  Calls ali 203 #[.pointer (some ⟨TP,0,none⟩),.int .i64 (x.pg:Int),.string key] w fun e w'=>∃s,e=.returned (.tuple #[aU x.pg (bA n) s,.nilIface])/\aT w w' s (dh c x key).2.aI/\bF w' PB DB M (dh c x key).1 sv t dk/\aM PB DB M M w w'
 |0,c,x,w,h,ht,U,D,hn,hg=>by
  obtain⟨p,l⟩:Nat×List (ByteArray×ByteArray):=x;have hh:dm (aD (l.map bE)) key=true:=by
   rw[sX];cases hc:dm (l.map alr) key with
   |true=>rfl
   |false=>
    refine absurd ?_ hg;show(if dm (l.map alr) key then(l[ai (l.map alr) key]?).map Prod.snd else none)=none;rw[hc]
    rfl
  have hp:=MH h ht J (p:=p) (l:=l.map bE) U D.2.2 D.2.1 key hh;rw[sX,<-kZ]at hp;exact hp
 |n+1,c,t0,w,h,ht,U,D,hn,hg=>by
  obtain⟨p,l⟩:Nat×List (ByteArray×T n):=t0;have d4:l.map alr≠[]:=fun e=>D.1.1 (by
   have:l=[]:=List.map_eq_nil_iff.1 e;show l.map aH=[];rw[this]
   rfl)
  have B:=nw d4 key;rw[ak6]at B;obtain⟨K,hK⟩:∃K,aG (l.map alr) key=K:=⟨_,rfl⟩;rw[hK]at B;obtain⟨x,O⟩:∃x,l[K]?=some x:=⟨_,ak5 B⟩;have b4:l[K]=x:=by
   rw[ak5 B]at O;exact alf O
  have b5:x∈l:=ald O;have b6:(p::l.flatMap fun y=>y.2.af).Nodup:=hn;obtain⟨n1,n2⟩:=aln.1 b6;have b7:x.2.lays c dk.pg:=U.2 x b5;have b8:x.2.eU:=D.2 x b5;have b9:x.2.af.Nodup:=by
   obtain⟨l1,l2,a5,_⟩:=lC O;rw[a5,ala,ak_]at n2;exact(ak7.1 (ak7.1 n2).2.1).1
  have d5:ki key x.2≠none:=by
   have e:ki key (d:=n+1) (p,l)=(l[aG (l.map alr) key]?).bind fun x=>ki key x.2:=rfl;rw[e,hK,O]at hg;exact hg
  have V:=qt (pg:=dk.pg) (key:=key) h.f b7 b8 b9;have iw:=fun W (g:Gr w W)=>NU J key (h.gr g) (ht.gr g) b7 b8 b9 d5;have I:=qt (pg:=dk.pg) (key:=key) h.f U D hn;rcases hr:dh c x.2 key with⟨c1,u⟩
  rw[hr]at V iw;have c0:u.pg=x.2.pg:=V.b_;have q:(l.set K (x.1,u)).map aH=l.map aH:=by
   rw[alC];have z:aH (x.1,u)=aH x:=by
    unfold aH;rw[c0]
   have a6:(l.map aH)[K]'(by rw[ak6];exact B)=aH x:=by rw[alx,b4]
   rw[z,<-a6,alp]
  obtain⟨s,hs⟩:∃s:Ch×List (ByteArray×T n),(if u.aI.isEmpty then(c1.free (u.pg:Nat),(l.set K (x.1,u)).eraseIdx K)else cL c1 (l.set K (x.1,u)) K u)=s:=⟨_,rfl⟩;have e0:dh (d:=n+1) c (p,l) key=(s.1.write (p:Nat) (au false (s.2.map aH)),(p,s.2)):=by
   refine(dh.eq_2 c key n ((p,l):Nat×List (ByteArray×T n))).trans ?_;simp only[hK,O,hr,hs]
   rfl
  rw[e0]at I;rw[e0];have d0:K<(l.map aH).length:=by rw[ak6];exact B
  have a6:(l.map aH)[K]=aH x:=by rw[alx,b4]
  have d1:eW s.1 p:=by
   have z:gO (s.1.write (p:Nat) (au false (s.2.map aH))) dk.pg false p (s.2.map aH):=I.lays.1;have Q:=z.1;rw[J_]at Q;exact Q
  have d2:(∀e∈s.2.map aH,e.ok false)/\ah false (s.2.map aH)<=1024:=by
   cases c2:s.2 with
   |nil=>exact⟨(fun e he=>by cases he),Bw false⟩
   |cons a r=>
    have z:pM false (s.2.map aH):=(I.fits (fun e=>by
     have Q:s.2.map aH=[]:=e;rw[c2]at Q;cases Q)).1
    rw[<-c2];exact⟨z.2.2,z.2.1⟩
  have d6:u.lays c1 dk.pg:=V.lays;have c3:u.aI.length<=600:=by
   by_cases c4:u.aI=[]
   ·rw[c4];simp
   ·have L:u.eU:=V.fits c4;have z:=(T.kP.1 L).1.2.1;have Q:=dC (bA n) u.aI;unfold ah at z;omega
  have a9:=MK h ht J (p:=p) (l:=l.map aH) U.1 D.1.2.2 D.1.2.1 key (K:=K) (by rw[wR];exact hK) d0 (c1:=c1) (C2:=s.1) (pb:=u.pg) (lc:=bA n) (be:=u.aI) (R:=s.2.map aH) (by
   rw[a6,c0];exact iw) (fun G a0 W sa sb q1 q2 q3 q4 q5 q6=>by
   have Y:=ML U D b6 O V G;have H:s=cL c1 (l.set K (x.1,u)) K u:=by
    rw[<-hs,if_neg];intro e;exact G (alj.1 e)
   have L:=V.fits G;by_cases hc:341<ah (bA n) u.aI\/(l.set K (x.1,u)).length<2
   ·have e1:cL c1 (l.set K (x.1,u)) K u=(c1,l.set K (x.1,u)):=by
     unfold cL;rw[if_pos hc]
    rw[H,e1,q];refine(MI (TP:=TP) (p:=p) q3 (k:=K) (pb:=u.pg) q6 (T.kP.1 L).1.2.2 c3 (by rw[alo]at hc;rw[ak6];exact hc)).mono ?_;rintro e w' ⟨rfl,g⟩;exact⟨_,rfl,q3.gr g,q1.gr g,fun b S=>.inl S,ag.ak g⟩
   ·have g6:2<=l.length:=by
     rw[alo]at hc;omega
    have i2:(l.set K (x.1,u)).length=l.length:=alo;have d7:K-1<(l.set K (x.1,u)).length:=by omega
    have d8:K-1+1<(l.set K (x.1,u)).length:=by omega
    obtain⟨a,ha⟩:∃a,(l.set K (x.1,u))[K-1]?=some a:=⟨_,ak5 d7⟩;obtain⟨b,S⟩:∃b,(l.set K (x.1,u))[K-1+1]?=some b:=⟨_,ak5 d8⟩;have c5:=ald ha;have a7:=ald S;have Z:(l.map aH)[K-1]?=some (aH a):=by rw[<-q,alv,ha];rfl
    have a1:(l.map aH)[K-1+1]?=some (aH b):=by rw[<-q,alv,S];rfl
    have a2:K-1<(l.map aH).length:=by rw[ak6];omega
    have a3:K-1+1<(l.map aH).length:=by rw[ak6];omega
    have c6:(l.map aH)[K-1]=aH a:=by
     rw[ak5 a2]at Z;exact alf Z
    have c7:(l.map aH)[K-1+1]=aH b:=by
     rw[ak5 a3]at a1;exact alf a1
    have d9:=(T.nC.1 (Y.lays a c5)).1;have e2:=(T.nC.1 (Y.lays b a7)).1;have c8:=(T.kP.1 (Y.fits a c5)).1;have a8:=(T.kP.1 (Y.fits b a7)).1;have e3:b.1.size<=60:=(Y.aI (aH b) (List.mem_map_of_mem a7)).key;have e4:a.2.pg≠b.2.pg:=fun e=>by
     obtain⟨l1,l2,a5,_⟩:=GQ ha S;have a4:=Y.nd;rw[a5,ala,ak_,ak_]at a4;have z:=(ak7.1 (aln.1 a4).2).2.1;exact(ak7.1 z).2.2 _ (T.ei a.2) _ (alc _ (T.ei b.2)) e
    have i3:l.length<=600:=by
     have z:=D.1.2.1;have Q:=dC false (l.map aH);have h3:(l.map aH).length=l.length:=ak6 _;have h4:ah false (l.map aH)<=1024:=z;unfold ah at h4;omega
    have hj:=Sl q1 q2 J (p:=p) (nl:=l.map aH) q3 q4 q5 (k:=K) (lc:=bA n) (pb:=u.pg) (be:=u.aI) q6 (T.kP.1 L).1.2.2 c3 (fun e=>hc (.inl e)) (i:=K-1) a2 rfl (by omega) a3 (by rw[ak6];omega) (pa:=a.2.pg) (pb2:=b.2.pg) (ea:=a.2.aI) (eb:=b.2.aI) (key:=b.1) (by rw[c6];rfl) (by rw[c7];rfl) (by rw[c7];rfl) d9 ⟨c8.2.2,c8.2.1⟩ e2 ⟨a8.2.2,a8.2.1⟩ a8.1 e3 e4;have e6:vV (bA n) c1 (l.map aH) (K-1) a.2.pg b.2.pg a.2.aI b.2.aI b.1=(s.1,s.2.map aH):=by
     rw[H];by_cases hz:1024<ah (bA n) (GH (bA n) a.2.aI b.1 b.2.aI)
     ·have e1:cL c1 (l.set K (x.1,u)) K u=(c1,l.set K (x.1,u)):=by
       unfold cL;rw[if_neg hc,ha,S];exact if_pos (by rw[vy];exact hz)
      rw[e1,q];unfold vV;rw[if_pos hz]
     ·have e1:cL c1 (l.set K (x.1,u)) K u=((c1.write (a.2.pg:Nat) (au (bA n) (a.2.meet b.1 b.2).aI)).free (b.2.pg:Nat),((l.set K (x.1,u)).set (K-1) (a.1,a.2.meet b.1 b.2)).eraseIdx (K-1+1)):=by
       unfold cL;rw[if_neg hc,ha,S];exact if_neg (by rw[vy];exact hz)
      have e5:aH (a.1,a.2.meet b.1 b.2)=aH a:=by
       unfold aH;rw[Bv]
      rw[e1,kZ,alC,q,e5,<-c6,alp,vy];unfold vV;rw[if_neg hz]
    rw[e6]at hj;exact hj) (fun G=>by
   have H:s=(c1.free (u.pg:Nat),(l.set K (x.1,u)).eraseIdx K):=by
    rw[<-hs,if_pos];rw[G]
    rfl
   refine⟨T.cx d6 _ (T.ei u),by rw[H],?_⟩;rw[H,kZ,q]) d2 d1 (by omega)
  exact a9
end
section
variable{w:World}{PB DB M:Nat}{c:Ch}{sv:Head}{t:Int}{d:Dk}
theorem Dz{c:Ch}{i n:Nat}{x:T n}{key:ByteArray}{c1:Ch}{u:T n}(q:dh c x key=(c1,u)):
  (u.aI=[]/\bP c i (some ⟨n,x⟩) key=((c1.free (x.pg:Nat)).root i 0,none))\/
  (bA n=false/\(∃e,u.aI=[e]/\(bP c i (some ⟨n,x⟩) key).1=(c1.free (x.pg:Nat)).root i (e.b_:Nat)))\/
  (u.aI≠[]/\(bA n=true\/2<=u.aI.length)/\(bP c i (some ⟨n,x⟩) key).1=c1):=by
 cases n with
 |zero=>
  by_cases b:u.aI=[]
  ·refine .inl ⟨b,?_⟩;unfold bP;simp only[q,b]
   rfl
  ·refine .inr (.inr ⟨b,.inl rfl,?_⟩);unfold bP;simp only[q];rw[if_neg];exact fun e=>b (alj.1 e)
 |succ n=>
  by_cases b:u.aI=[]
  ·refine .inl ⟨b,?_⟩;unfold bP;simp only[q,b]
   rfl
  ·have s:¬u.aI.isEmpty=true:=fun e=>b (alj.1 e);obtain⟨p,l⟩:Nat×List (ByteArray×T n):=u;rcases l with _|⟨y,_|⟨z,r⟩⟩
   ·exact absurd rfl b
   ·refine .inr (.inl ⟨rfl,aH y,rfl,?_⟩);unfold bP;simp only[q];rw[if_neg s]
    rfl
   ·refine .inr (.inr ⟨b,.inr ?_,?_⟩)
    ·show 2<=(aH y::aH z::r.map aH).length;simp
    ·unfold bP;simp only[q];rw[if_neg s]
theorem Sn(h:bF w PB DB M c sv t d){TP root:Nat}(ht:bc w TP PB root)(b:TP≠PB/\TP≠DB/\TP≠M)(hr:root<8)(key:ByteArray){n:Nat}{x:T n}(hx:Tr.lays c d.pg root (some ⟨n,x⟩))(hg:ki key x≠none):
  Calls ali 146 #[.pointer (some ⟨TP,0,none⟩),.string key] w fun e w'=>e=.returned .nilIface/\bF w' PB DB M (bP c root (some ⟨n,x⟩) key).1 sv t d/\aM PB DB M M w w':=by
 obtain⟨d5,hl,ho,hn⟩:=hx;have d7:=T.cx hl;have g5:=(d7 _ (T.ei x)).1;have k0:=h.lt;have k1:=ad ht.p;have q:=me h ht hr;rw[d5]at q;have a3:=fun W (g:Gr w W)=>NU b key (h.gr g) (ht.gr g) hl ho hn hg;have H:=qt (pg:=d.pg) (key:=key) h.f hl ho hn;rcases a4:dh c x key with⟨c1,u⟩
 rw[a4]at H;simp only[a4]at a3;have b0:=Dz (i:=root) a4;have d8:u.pg=x.pg:=H.b_;have b1:eW c1 x.pg:=by
  rw[<-d8];exact T.cx H.lays _ (T.ei u)
 have d9:c1.aA:=H.fr.aA;obtain⟨DR,b3⟩:∃DR,(bP c root (some ⟨n,x⟩) key).1=DR:=⟨_,rfl⟩;rw[b3]at b0⊢;have Y:(u.aI=[]/\DR=(c1.free (x.pg:Nat)).root root 0)\/(bA n=false/\∃e,u.aI=[e]/\e.b_<2000/\DR=(c1.free (x.pg:Nat)).root root (e.b_:Nat))\/(u.aI≠[]/\(bA n=true\/2<=u.aI.length)/\DR=c1):=by
  rcases b0 with⟨h1,h2⟩|⟨h1,e,h2,h3⟩|h3
  ·exact .inl ⟨h1,by rw[<-b3,h2]⟩
  ·refine .inr (.inl ⟨h1,e,h2,?_,h3⟩);have h8:u.eU:=H.fits (by show u.aI≠[];rw[h2];simp);exact((T.kP.1 h8).1.2.2 e (by rw[h2];simp)).b_
  ·exact .inr (.inr h3)
 obtain⟨P0,a5⟩:∃P0,x.pg=P0:=⟨_,rfl⟩;obtain⟨J,L⟩:∃J,bA n=J:=⟨_,rfl⟩;obtain⟨E,hE⟩:∃E,u.aI=E:=⟨_,rfl⟩;simp only[a5,L,hE]at a3;rw[a5]at q g5 b1;rw[a5,L,hE]at Y;have h9:=ak1 q;have i0:=ak1 a3;have i1:=ak1 Y;have e5:=ak1 b1;have e6:=ak1 d9;have HT:=ak1 ht;clear q a3 b0 Y b1 d9 H a4 d8 d5 hl ho hn d7 a5 L hE b3 hg h ht;go_enter Tryz.func146,Tryz.ntmps146;go_wp2_with fail
 refine h9.out.mono ?_;rintro e w1 ⟨rfl,b4⟩;have b5:=i0.out _ b4;unfold aU at b5;have i2:=ak1 b5;have b6:=ak1 b4;clear b5 b4;go_wp2_with fail
 refine i2.out.mono ?_;rintro e G ⟨s2,rfl,b7,e7,a6⟩;obtain⟨a2,c2,rfl⟩:=b7.form;have gN:Gr G (G.alloc (.cells #[.int .i64 (P0:Int),.bool J,.slice a2 E.length c2] 200)):=(Gr.refl G).alloc _;have n1:(G.alloc (.cells #[.int .i64 (P0:Int),.bool J,.slice a2 E.length c2] 200)).cell? ⟨G.heap.size,1,none⟩=some (.bool J):=by rw[ak2];rfl
 have n2:(G.alloc (.cells #[.int .i64 (P0:Int),.bool J,.slice a2 E.length c2] 200)).cell? ⟨G.heap.size,2,none⟩=some (.slice a2 E.length c2):=by rw[ak2];rfl
 have b8:=((HT.out.gr b6.out).pg a6 b.1 b.2.1 b.2.2).gr gN;have tp:=b8.p;have b9:=ak1 (e7.gr gN);have e8:=ak1 b8;have c0:=ak1 (((aM.ak PB DB M b6.out).trans a6).trans (aM.ak PB DB M gN));have i3:=ak1 (b7.gr gN);have i4:=a6.size;have j2:=b6.out.size;clear e7 a6 b8 gN b7;have g6:G.heap.size<(G.alloc (.cells #[.int .i64 (P0:Int),.bool J,.slice a2 E.length c2] 200)).heap.size:=by simp
 go_upto_if 20 with(fail)
 obtain⟨NB,e9⟩:∃NB,G.heap.size=NB:=⟨_,rfl⟩;rw[e9]at n1 n2 g6 i4⊢;clear e9;generalize G.alloc (.cells #[.int .i64 (P0:Int),.bool J,.slice a2 E.length c2] 200)=w3 at*;rcases i1.out with⟨O,y⟩|⟨L,e,O,k2,y⟩|⟨O,i5,y⟩
 ·have Q:=As b9.out e5.out;have c3:=ak1 Q;have z:=ak1 y;have k3:(E.length:Int)=0:=by rw[O];rfl
  clear Q y O;go_wp2_with fail
  refine c3.out.mono ?_;rintro e w4 ⟨rfl,S,s⟩;have q:=vz S (e8.out.pg s b.1 b.2.1 b.2.2) b hr (p:=0) (more:=0) (by omega) (by omega);rw[rE (e6.out.oe _) hr]at q;have Z:=ak1 q;have c4:=ak1 (c0.out.trans s);clear q S s;go_wp2_with fail
  refine Z.out.mono ?_;rintro e w5 ⟨rfl,U,V⟩;have D:=ak1 (And.intro U (c4.out.trans V));clear U V;have c5:dV 0=.nilIface:=rfl;rw[c5];go_wp2_with fail
  go_ret;exact⟨rfl,by rw[z.out];exact D.out.1,D.out.2⟩
 ·subst L;have g0:E.length=1:=by rw[O];rfl
  have j3:(E.length:Int)=1:=by omega
  rcases i3.out.at' with⟨_,e2⟩|⟨B,cap,e3,h2,h3,h4,h5,h6⟩
  ·rw[e2]at g0;exact absurd g0 (by simp)
  obtain⟨rfl,rfl⟩:a2=some ⟨B,0,none⟩/\c2=cap:=by
   injection e3 with e1 e2 e3
   exact⟨e1,e3⟩
  have hz:0<E.length:=by omega
  obtain⟨_,_,b2⟩:=h5 0 hz;have g4:E[0]=e:=by simp[O]
  rw[g4]at b2;simp only[Nat.zero_mul,alh]at b2;have Q:=As b9.out e5.out;have c3:=ak1 Q;have z:=ak1 y;obtain⟨ep,a0⟩:∃ep,(e.b_:Int)=ep:=⟨_,rfl⟩;rw[a0]at b2;have i6:=ak1 a0;have g7:0<=ep/\ep<2000:=by omega
  have I:NB≠PB/\NB≠DB/\NB≠M:=by omega
  have c6:B≠PB/\B≠DB/\B≠M:=by omega
  clear Q y O h5 h6 e3 g4 a0;go_wp2_with fail
  refine c3.out.mono ?_;rintro e w4 ⟨rfl,S,s⟩;replace n1:=s.keeps I.1 I.2.1 I.2.2 n1;replace n2:=s.keeps I.1 I.2.1 I.2.2 n2;replace b2:=s.keeps c6.1 c6.2.1 c6.2.2 b2;have q:=vz S (e8.out.pg s b.1 b.2.1 b.2.2) b hr (p:=ep) (more:=0) g7 (by omega);rw[rE (e6.out.oe _) hr]at q;have Z:=ak1 q;have c4:=ak1 (c0.out.trans s);have k4:(0:Int)<(E.length:Int):=by omega
  clear q S s;go_wp2_with fail
  refine Z.out.mono ?_;rintro e w5 ⟨rfl,U,V⟩;have D:=ak1 (And.intro U (c4.out.trans V));clear U V;have c5:dV 0=.nilIface:=rfl;rw[c5];go_wp2_with fail
  go_ret;exact⟨rfl,by rw[z.out,i6.out];exact D.out.1,D.out.2⟩
 ·have hz:¬(E.length:Int)=0:=fun e=>O (ak8 (by omega));have D:=ak1 (And.intro b9.out c0.out);have z:=ak1 y;clear O y;rcases i5 with rfl|h2
  ·go_wp2_with fail
   go_ret;exact⟨rfl,by rw[z.out];exact D.out.1,D.out.2⟩
  ·have h1:¬(E.length:Int)=1:=by omega
   clear h2;cases J with
   |true=>
    go_wp2_with fail
    go_ret;exact⟨rfl,by rw[z.out];exact D.out.1,D.out.2⟩
   |false=>
    go_wp2_with fail
    go_ret;exact⟨rfl,by rw[z.out];exact D.out.1,D.out.2⟩
end
