/-
  Part 8 of the proof.
-/
import Derived.Test.YtldmhjbdahjhdaaGreatDoorZb7
open Go.World renaming cell?_alloc_new->aim,cell?_setCell_other->aio,cell?_setCell_same->air,cell?_drew->aiB
open Go.Lib renaming hid->ain
open List renaming length_drop->aip,length_take->ait,length_map->aiv,take_of_length_le->aiy,getElem?_eq_getElem->aiA,mem_of_mem_take->aiE,length_append->aiF,map_nil->aiG,getElem_drop->aiH,append_assoc->aiI,nodup_append->aiJ,getElem_mem->aiK,take_append->aiL,append_nil->aiO,take_zero->aiP,map_map->aiV,map_set->aiW
open Nat renaming lt_of_lt_of_le->aiq,le_trans->aiu,zero_add->aix,min_eq_left->aiD,le_refl->aiX,zero_le->aiY
open Go.Proofs.Tryz renaming prog->ais,ntmps254->aiR,ntmps201->aiS,func254->aiT,func201->aiU
open Go.Value renaming slice->aiw,tuple->aiZ
open Array renaming getElem?_push_size->aiz
open Go.RowKit renaming intOf->aiC
open Go.Ending renaming returned->aiM
open Option.some renaming inj->aiN
open Prod renaming fst->aiQ
open Option renaming map->ai0
set_option maxRecDepth 100000
set_option maxHeartbeats 100000000
set_option linter.all false
namespace Go.Proofs.YtldmhjbdahjhdaaGreatDoor
section
open Go Go.RowKit
def df(leaf:Bool)(c:Ch)(p:Nat)(l:List En):Ch×Option (Option En):=
 if ah leaf l<=1024 then(c.write (p:Nat) (au leaf l),some none)
 else match bZ c.h with
  |none=>(c,none)
  |some q=>((c.alloc.write (p:Nat) (au leaf (l.take (cC leaf l)))).write (q:Nat) (au leaf (l.drop (cC leaf l))),some (some ⟨((l.drop (cC leaf l)).head?.map En.key).getD eZ,eZ,q⟩))
def im(w w':World)(v:Value):Option (Option En)->Prop
 |none=>v=.tuple #[.pointer none,dV 12]
 |some none=>v=.tuple #[.pointer none,.nilIface]
 |some (some e)=>∃b,v=.tuple #[.pointer (some ⟨b,0,none⟩),.nilIface]/\w.heap.size<=b/\w'.cell? ⟨b,0,none⟩=some (.string e.key)/\w'.cell? ⟨b,1,none⟩=some (.string e.item)/\w'.cell? ⟨b,2,none⟩=some (.int .i64 (e.b_:Int))
section
variable{w:World}{PB DB M:Nat}{c:Ch}{sv:Head}{t:Int}{d:Dk}
theorem Je(h:bF w PB DB M c sv t d){TP root:Nat}(Q:bc w TP PB root){leaf:Bool}{p:Nat}{l:List En}{s:Value}(hs:oi w s l)(b:∀e∈l,e.ok leaf)(L:ah leaf l<=1024)(S:eW c p):
  Calls ais 254 #[.pointer (some ⟨TP,0,none⟩),aU p leaf s] w fun e w'=>e=.returned (.tuple #[.pointer none,.nilIface])/\bF w' PB DB M (c.write (p:Nat) (au leaf l)) sv t d/\aM PB DB M M w w':=by
 have hl:l.length<=600:=by
  have:=dC leaf l;unfold ah at L;omega
 have H:=fun w' (g:Gr w w')=>sN p leaf s l w' (hs.gr g) b (by omega);have q:=fun w' (g:Gr w w')=>mg (h.gr g) (Q.gr g) (hs.gr g) b L S;obtain⟨D,G,rfl⟩:=hs.form;unfold aU at*;have y:Gr w (w.alloc (.cells #[.int .i64 (p:Int),.bool leaf,.slice D l.length G] 200)):=(Gr.refl w).alloc _;have O:∀w',Gr (w.alloc (.cells #[.int .i64 (p:Int),.bool leaf,.slice D l.length G] 200)) w'->w'.cell? ⟨w.heap.size,0,none⟩=some (.int .i64 (p:Int))/\w'.cell? ⟨w.heap.size,1,none⟩=some (.bool leaf)/\w'.cell? ⟨w.heap.size,2,none⟩=some (.slice D l.length G):=fun w' g=>⟨g.keeps (by rw[aim];rfl),g.keeps (by rw[aim];rfl),g.keeps (by rw[aim];rfl)⟩;obtain⟨U,V,Y⟩:=O _ (Gr.refl _);have a0:(ah leaf l:Int)<=1024:=by omega
 have Z:=ain q;clear q;go_enter aiT,aiR;go_wp2_with(go_at_call 291;refine(H _ y).mono ?_;rintro e w1 ⟨rfl,z⟩;have B:=y.trans z;obtain⟨U,V,Y⟩:=O _ z)
 go_wp2_with(go_at_call 200;refine(Z.out _ B).mono ?_;rintro e w2 ⟨rfl,I,J⟩)
 go_ret2;exact⟨rfl,I,(aM.ak PB DB M B).trans J⟩
structure BA(w6 W:World)(MB:Nat)(a7:Option Addr)(c7 q:Nat)(leaf:Bool)(m:List En):Prop where
 g:Gr w6 W
 own:aT w6 W (.slice a7 m.length c7) m
 ge:w6.heap.size<=MB
 c0:W.cell? ⟨MB,0,none⟩=some (.int .i64 (q:Int))
 c1:W.cell? ⟨MB,1,none⟩=some (.bool leaf)
 c2:W.cell? ⟨MB,2,none⟩=some (.slice a7 m.length c7)
theorem Tm{s b:World}{y:Option Addr}{z q:Nat}{leaf:Bool}{m:List En}(B:Gr s.drew b)(D:aT s.drew b (.slice y m.length z) m):
  BA s (b.alloc (.cells #[.int .i64 (q:Int),.bool leaf,.slice y m.length z] 200)) b.heap.size y z q leaf m:=by
 have G:=eK B;exact⟨G.alloc _,(D.back (Gr.refl s).drew).gr ((Gr.refl b).alloc _),G.size,by rw[aim];rfl,by rw[aim];rfl,by rw[aim];rfl⟩
theorem Tn{s y:World}{z:Option Addr}{B q:Nat}{leaf:Bool}{m:List En}(I:Gr (s.alloc (.cells #[.int .i64 0,.bool false,.slice none 0 0] 200)).drew y)(D:aT (s.alloc (.cells #[.int .i64 0,.bool false,.slice none 0 0] 200)).drew y (.slice z m.length B) m)
  (z0:y.cell? ⟨s.heap.size,0,none⟩=some (.int .i64 0)) (L:y.cell? ⟨s.heap.size,1,none⟩=some (.bool false)) (M:y.cell? ⟨s.heap.size,2,none⟩=some (.slice none 0 0)):
  BA s (((y.setCell ⟨s.heap.size,0,none⟩ (.int .i64 (q:Int))).setCell ⟨s.heap.size,1,none⟩ (.bool leaf)).setCell ⟨s.heap.size,2,none⟩ (.slice z m.length B)) s.heap.size z B q leaf m:=by
 have G:Gr s (s.alloc (.cells #[.int .i64 0,.bool false,.slice none 0 0] 200)).drew:=((Gr.refl s).alloc _).drew;have O:=G.trans I;have H:=((ag.setCell (S:=fun b=>b=s.heap.size) (p:=⟨s.heap.size,0,none⟩) y (.int .i64 (q:Int)) rfl).trans (ag.setCell (S:=fun b=>b=s.heap.size) (p:=⟨s.heap.size,1,none⟩) _ (.bool leaf) rfl)).trans (ag.setCell (S:=fun b=>b=s.heap.size) (p:=⟨s.heap.size,2,none⟩) _ (.slice z m.length B) rfl);refine⟨H.gr O fun b J=>by omega,(D.back G).aC H fun b J e=>?_,aiX _,?_,?_,?_⟩
 ·have:=aP D b J;have Q:(s.alloc (.cells #[.int .i64 0,.bool false,.slice none 0 0] 200)).drew.heap.size=s.heap.size+1:=by simp
  omega
 ·rw[aio _ _ _ _ (by simp),aio _ _ _ _ (by simp),air _ _ _ z0]
 ·rw[aio _ _ _ _ (by simp),air _ _ _ ((aio _ _ _ _ (by simp)).trans L)]
 ·rw[air _ _ _ ((aio _ _ _ _ (by simp)).trans ((aio _ _ _ _ (by simp)).trans M))]
theorem Ew(leaf:Bool)(b:Nat):∀(l:List En) (acc i:Nat),i<=o_ leaf b acc l->i<l.length->(acc+cH leaf (l.take i)<b↔i<o_ leaf b acc l)
 |[],acc,i,_,h=>by simp at h
 |e::l,acc,0,_,_=>by
  unfold o_;rw[aiP];simp only[cH,aiG,List.sum_nil,Nat.add_zero]
  split<;>rename_i hc
  ·exact⟨fun _=>Nat.succ_pos _,fun _=>hc⟩
  ·exact⟨fun h=>absurd h hc,fun h=>absurd h (by omega)⟩
 |e::l,acc,i+1,h,s=>by
  unfold o_ at h⊢
  split at h<;>rename_i hc
  ·rw[if_pos hc];have q:=Ew leaf b l (acc+e.sz leaf) i (by omega) (by simpa using s);rw[List.take_succ_cons,bK]
   constructor
   ·intro y;have:=q.1 (by omega);omega
   ·intro y;have:=q.2 (by omega);omega
  ·omega
theorem eh.drop{w:World}{b q:Nat}{l:List En}(h:eh w b q l)(k:Nat):eh w b (q+k*3) (l.drop k):=fun i hi=>by
 rw[aip]at hi;have:=h (k+i) (by omega);rw[aiH,show q+k*3+i*3=q+(k+i)*3 by omega];exact this
theorem eh.take{w:World}{b q:Nat}{l:List En}(h:eh w b q l)(k:Nat):eh w b q (l.take k):=fun i hi=>by
 rw[ait]at hi;rw[List.getElem_take];exact h i (by omega)
theorem LL(h:bF w PB DB M c sv t d){TP root:Nat}(ht:bc w TP PB root){leaf:Bool}{p:Nat}{l:List En}{B cap:Nat}(hB:B<w.heap.size)(g8:B≠PB/\B≠DB/\B≠M)(a1:TP≠PB/\TP≠DB/\TP≠M)(s6:l.length<=cap)(hE:eh w B 0 l)(c6:∀e∈l,e.ok leaf)(hb:1024<ah leaf l)(g9:ah leaf l<=1400)(hp:eW c p):
  Calls ais 254 #[.pointer (some ⟨TP,0,none⟩),aU p leaf (.slice (some ⟨B,0,none⟩) l.length cap)] w fun e w'=>∃v,e=.returned v/\im w w' v (df leaf c p l).2/\bF w' PB DB M (df leaf c p l).1 sv t d/\aM PB DB M M w w':=by
 have hl:l.length<=800:=by
  have:=dC leaf l;unfold ah at g9;omega
 have hs:oi w (.slice (some ⟨B,0,none⟩) l.length cap) l:=.inr ⟨B,0,cap,rfl,hB,hE⟩;have c8:=fun w' (g:Gr w w')=>sN p leaf _ l w' (hs.gr g) c6 (by omega);unfold aU at*;have i2:Gr w (w.alloc (.cells #[.int .i64 (p:Int),.bool leaf,.slice (some ⟨B,0,none⟩) l.length cap] 200)):=(Gr.refl w).alloc _;have c0:∀w',Gr (w.alloc (.cells #[.int .i64 (p:Int),.bool leaf,.slice (some ⟨B,0,none⟩) l.length cap] 200)) w'->w'.cell? ⟨w.heap.size,0,none⟩=some (.int .i64 (p:Int))/\w'.cell? ⟨w.heap.size,1,none⟩=some (.bool leaf)/\w'.cell? ⟨w.heap.size,2,none⟩=some (.slice (some ⟨B,0,none⟩) l.length cap):=fun w' g=>⟨g.keeps (by rw[aim];rfl),g.keeps (by rw[aim];rfl),g.keeps (by rw[aim];rfl)⟩;obtain⟨k0,k1,k2⟩:=c0 _ (Gr.refl _);have n5:¬(ah leaf l:Int)<=1024:=by omega
 obtain⟨O,n6⟩:∃O,w.heap.size=O:=⟨_,rfl⟩;obtain⟨n7,i3,h0,i4⟩:=ri c6 hb g9;obtain⟨Bz,d0⟩:∃Bz,ah leaf l=Bz:=⟨_,rfl⟩;obtain⟨K,hK⟩:∃K,cC leaf l=K:=⟨_,rfl⟩;have b7:=fun i=>Ew leaf (Bz/2) l 0 i;have i6:o_ leaf (Bz/2) 0 l=K:=by rw[<-hK,<-d0];rfl
 rw[i6]at b7;rw[hK]at n7 i3 h0 i4;rw[d0]at n5 c8 hb g9;have HK:=ain hK;have i7:=ain d0;have n8:=ain b7;have a6:=ain c6;have Y:=ain n6;clear hK d0 i6 b7 c6;go_enter aiT,aiR;go_wp2_with(go_at_call 291;refine(c8 _ i2).mono ?_;rintro e w1 ⟨rfl,d1⟩;have i9:=i2.trans d1;obtain⟨k0,k1,k2⟩:=c0 _ d1)
 have d2:=ain d1;clear d1 k0 k1 k2;have n9:=ain i9;have C0:=ain c0;rw[Y.out]at C0;have o0:=hE.gr i9;go_loopw [6,7] (fun hv kv w'=>∃i:Nat,i<=K/\kv=.int .i64 i/\hv=.int .i64 (cH leaf (l.take i):Nat)/\Gr w1 w') (fun _ kv _=>K-(aiC kv).toNat)
 case atStart=>exact⟨0,aiY _,rfl,rfl,Gr.refl _⟩
 case round=>
  obtain⟨i,hi,rfl,rfl,hg⟩:=hrel;obtain⟨n0,n1,n2⟩:=C0.out _ (d2.out.trans hg);have a8:i<l.length:=by omega
  have d3:=n8.out i hi a8;rw[aix]at d3;obtain⟨c1,c2,c3⟩:=o0.gr hg i a8;have h1:=rT leaf l i a8;have x0:=En.og (a6.out l[i] (aiK a8));have j1:=Ng p leaf (.slice (some ⟨B,0,none⟩) l.length cap) l[i] (a6.out l[i] (aiK a8));unfold aU En.val at j1;rw[aix]at c1 c2 c3;generalize l[i].sz leaf=z at*;generalize l[i].key=ky at*;generalize l[i].item=it at*;generalize(l[i].b_:Int)=pgi at*;have o1:=h1;have x5:cH leaf (l.take i)<=200000:=by
   have:=qo leaf (l.take i) fun e he=>a6.out e (aiE he);have:(l.take i).length<=800:=by rw[ait];omega
   omega
  generalize cH leaf (l.take i)=S at*;have o2:=ain h1;clear h1 o1;have o3:Int.tdiv (Bz:Int) 2=((Bz/2:Nat):Int):=by
   rw[Int.tdiv_eq_ediv_of_nonneg (by omega)];omega
  obtain⟨H2,o4⟩:∃H2,Bz/2=H2:=⟨_,rfl⟩;rw[o4]at d3 o3;have a9:=n9.out.trans hg;have j2:=ain c8;clear c8;by_cases j3:i<K
  ·have hh:S<H2:=d3.2 j3;have o5:(S:Int)<(H2:Int):=by omega
   have s7:(i:Int)<(l.length:Int):=by omega
   go_wp2_with(go_at_call 291;refine(j2.out _ a9).mono ?_;rintro e w3 ⟨rfl,D⟩;obtain⟨n0,n1,n2⟩:=C0.out _ ((d2.out.trans hg).trans D);(have c1:=D.keeps c1);(have c2:=D.keeps c2);(have c3:=D.keeps c3))
   have Q:=a9.trans D;have o6:=hg.trans D;clear D;go_region_with(go_at_call 292;refine(j1 _).mono ?_;rintro e w5 ⟨rfl,o7⟩)
   all_goals
    go_wp2_with fail
    refine⟨⟨i+1,by omega,by go_num,?_,o6.trans (eK o7)⟩,by simp[aiC];omega⟩;rw[o2.out];go_num
  ·have o8:i=K:=by omega
   subst o8;have hh:¬S<H2:=fun e=>j3 (d3.1 e);have o5:¬(S:Int)<(H2:Int):=by omega
   have tp:=(ht.gr a9).p;go_wp2_with(go_at_call 291;refine(j2.out _ a9).mono ?_;rintro e w3 ⟨rfl,D⟩;obtain⟨n0,n1,n2⟩:=C0.out _ ((d2.out.trans hg).trans D);(have tp:=D.keeps tp))
   have Q:=a9.trans D;have j4:=(d2.out.trans hg).trans D;cases ha:bZ c.h with
   |none=>
    have hv:ik c=.tuple #[.int .i64 0,.iface 24 (.int .i64 12)]:=by unfold ik;rw[ha]
    have b3:=wP (h.gr Q);have o9:c.alloc=c:=by unfold Ch.alloc;rw[ha]
    rw[hv,o9]at b3;have j5:df leaf c p l=(c,none):=by
     unfold df;rw[if_neg (by rw[i7.out];omega),ha]
    have d4:=ain j5;clear j5;refine b3.mono ?_;rintro e V ⟨rfl,a2,I⟩;go_wp2_with fail
    go_ret2;rw[d4.out];exact⟨_,rfl,rfl,a2,(aM.ak PB DB M Q).trans I⟩
   |some q=>
    have hv:ik c=.tuple #[.int .i64 (q:Int),.nilIface]:=by unfold ik;rw[ha]
    have b3:=wP (h.gr Q);rw[hv]at b3;refine b3.mono ?_;rintro e V ⟨rfl,a2,I⟩;have y:O≠PB/\O≠DB/\O≠M:=by
     have:=h.lt;have:=Y.out;omega
    have n0:=I.keeps y.1 y.2.1 y.2.2 n0;have n1:=I.keeps y.1 y.2.1 y.2.2 n1;have n2:=I.keeps y.1 y.2.1 y.2.2 n2;have nf:∀o,V.frozen? ⟨O,o,none⟩=false:=fun o=>by
     have:=Y.out;rw[I.2.frozen o (by have:=j4.size;simp at this;omega) (fun e=>e.elim y.1 fun e=>e.elim y.2.1 y.2.2),j4.frozen o (by simp;omega),<-Y.out];simp
    have j6:=(hE.gr Q).aC I.2 (fun e=>e.elim g8.1 fun e=>e.elim g8.2.1 g8.2.2);have j7:=(ht.gr Q).pg I a1.1 a1.2.1 a1.2.2;go_wp2_with fail
    have x6:(i:Int)<=(l.length:Int):=by omega
    have x7:¬cap=i:=by omega
    have j8:∀W,Gr V W->Calls ais 293 #[.slice (some ⟨B,i*3,none⟩) (l.length-i) (cap-i)] W fun ex w'=>∃v',ex=.returned v'/\aT W w' v' (l.drop i)/\Gr W w':=fun W g=>
     Q7 (l.drop i) _ W (.inr ⟨B,i*3,cap-i,by rw[aip],aiq hB (aiu (aiu Q.size I.size) g.size),by have:=(j6.gr g).drop i;rwa [aix]at this⟩) (by rw[aip];omega)
    have h2:=ain j8;clear j8;have hz:∀W',Gr (V.alloc (.cells #[.int .i64 0,.bool false,.slice none 0 0] 200)).drew W'->(W'.cell? ⟨V.heap.size,0,none⟩=some (.int .i64 0)/\W'.cell? ⟨V.heap.size,1,none⟩=some (.bool false)/\W'.cell? ⟨V.heap.size,2,none⟩=some (.slice none 0 0))/\∀o,W'.frozen? ⟨V.heap.size,o,none⟩=false:=fun W' g=>by
     have g':=eK g;exact⟨⟨g'.keeps (by rw[aim];rfl),g'.keeps (by rw[aim];rfl),g'.keeps (by rw[aim];rfl)⟩,fun o=>(g'.frozen o (by simp)).trans (by simp)⟩
    have HZ:=ain hz;clear hz;have g6:Gr V (V.alloc (.cells #[.int .i64 0,.bool false,.slice none 0 0] 200)):=(Gr.refl V).alloc _;have y0:=g6.keeps n0;have y1:=g6.keeps n1;have y2:=g6.keeps n2;clear g6;have p0:=ain (aip (i:=i) (l:=l));go_cut [10] (fun p1 wx=>∃MB a7 c7,p1=.pointer (some ⟨MB,0,none⟩)/\BA V wx MB a7 c7 q leaf (List.drop i l))
    case first=>
     go_region_with(go_at_call 293;first
      |( (with_reducible refine(h2.out V.drew ?_).mono ?_);(repeat(with_reducible first|exact Gr.refl _|refine Gr.drew ?_|refine Gr.alloc ?_ _));rintro e w7 ⟨v7,rfl,b4,J⟩;obtain⟨a7,c7,rfl⟩:=b4.form;(have q0:=(eK J).keeps n0);(have q1:=(eK J).keeps n1);(have q2:=(eK J).keeps n2);(have r1:=((Gr.refl w7).alloc (.cells #[.int .i64 0,.bool false,.slice none 0 0] 200)).keeps q1))
      |( (with_reducible refine(h2.out (V.alloc (.cells #[.int .i64 0,.bool false,.slice none 0 0] 200)).drew ?_).mono ?_);(repeat(with_reducible first|exact Gr.refl _|refine Gr.drew ?_|refine Gr.alloc ?_ _));rintro e w7 ⟨v7,rfl,b4,J⟩;obtain⟨a7,c7,rfl⟩:=b4.form;obtain⟨⟨z0,z1,z2⟩,zf⟩:=HZ.out _ J;(have q0:=(eK J).keeps y0);(have q1:=(eK J).keeps y1);(have q2:=(eK J).keeps y2)))
     all_goals
      go_wp2_with fail
      go_meet
      rw[<-p0.out]
      first
        |exact⟨_,_,_,rfl,Tm J b4⟩
        |exact⟨_,_,_,rfl,Tn J b4 z0 z1 z2⟩
    case rest=>
     obtain⟨MB,a7,c7,rfl,hC⟩:=hcut;have m0:=hC.g.keeps n0;have m1:=hC.g.keeps n1;have m2:=hC.g.keeps n2;have mf:wc.frozen? ⟨O,2,none⟩=false:=(hC.g.frozen 2 (ad n0)).trans (nf 2);have HC:=ain hC;have e0:=hC.c0;have e1:=hC.c1;have e2:=hC.c2;clear hC y0 y1 y2 HZ h2;have k5:TP≠O:=by
      have:=ad ht.p;have:=Y.out;omega
     have h3:MB≠O:=by
      have:=ad n0;have:=HC.out.ge;omega
     have Z:ag (fun b=>b=O) wc (wc.setCell ⟨O,2,none⟩ (.slice (some ⟨B,0,none⟩) i cap)):=ag.setCell (S:=fun b=>b=O) (p:=⟨O,2,none⟩) wc _ rfl;have pS:=(a2.gr HC.out.g).aC Z (fun e=>y.1 e.symm) (fun e=>y.2.1 e.symm) (fun e=>y.2.2 e.symm);have tS:bc (wc.setCell ⟨O,2,none⟩ (.slice (some ⟨B,0,none⟩) i cap)) TP PB root:=⟨Z.keeps k5 (j7.gr HC.out.g).p,Z.keeps k5 (j7.gr HC.out.g).r⟩;have p2:B≠O:=by
      have:=Y.out;omega
     have iS:oi (wc.setCell ⟨O,2,none⟩ (.slice (some ⟨B,0,none⟩) i cap)) (.slice (some ⟨B,0,none⟩) i cap) (l.take i):=by
      refine .inr ⟨B,0,cap,?_,?_,((j6.gr HC.out.g).aC Z p2).take i⟩
      · rw[ait,aiD (Nat.le_of_lt i3)]
      · have:=HC.out.g.size
        have:=Z.2.2.2.1;have:=Q.size;have:=I.size;omega
     have k6:∀e∈l.take i,e.ok leaf:=fun e he=>a6.out e (aiE he);have k7:∀e∈l.drop i,e.ok leaf:=fun e he=>a6.out e (List.mem_of_mem_drop he);obtain⟨u1,u2,u3,u4,u5⟩:=ny (pg:=d.pg) h.f ha;have k8:eW c.alloc p:=u1.GD hp (by simp);have l0:=mg pS tS iS k6 h0 k8;have g3:=HC.out.own.aC Z (fun b hb e=>by
      have:=aP HC.out.own b hb;have:=ad n0;omega)
     have s0:=Z.keeps h3 e0;have s1:=Z.keeps h3 e1;have s2:=Z.keeps h3 e2;have x8:=ain pS;have p3:=ain tS;have G:MB≠PB/\MB≠DB/\MB≠M:=by
      have:=a2.lt;have:=HC.out.ge;omega
     have p4:=ain Z;unfold aU at l0;clear pS tS Z e0 e1 e2;go_wp2_with(refine l0.mono ?_;rintro e s ⟨rfl,d5,a3⟩)
     have s0:=a3.keeps G.1 G.2.1 G.2.2 s0;have s1:=a3.keeps G.1 G.2.1 G.2.2 s1;have s2:=a3.keeps G.1 G.2.1 G.2.2 s2;have b8:=g3.aC a3.2 (fun b hb e=>by
      have:=aP g3 b hb;have:=a2.lt;omega)
     have F8:aM PB DB M M w s:=by
      have x1:=((aM.ak PB DB M Q).trans I).trans (aM.ak PB DB M HC.out.g);exact(x1.own p4.out (fun j e=>by have:=Y.out;omega)).trans a3
     cases d6:l.drop i with
     |nil=>
      have:=congrArg List.length d6;rw[aip,List.length_nil]at this;omega
     |cons e9 r9=>
      rw[d6]at b8 k7 s2;obtain⟨A,c9,p5,_,_,hA,p6,_⟩:∃A cap,(.slice a7 (e9::r9).length c7:Value)=.slice (some ⟨A,0,none⟩) (e9::r9).length cap/\(e9::r9).length<=cap/\V.heap.size<=A/\A<s.heap.size/\eh s A 0 (e9::r9)/\∀o,s.frozen? ⟨A,o,none⟩=false:=b8.at'.resolve_left (fun h=>by simpa using h.2);obtain⟨rfl,rfl⟩:a7=some ⟨A,0,none⟩/\c7=c9:=by
        injection p5 with e1 e2 e3
        exact⟨e1,e3⟩
      have q1:=(p6 0 (by simp)).1;have g5:df leaf c p l=(((c.alloc.write (p:Nat) (au leaf (l.take i))).write (q:Nat) (au leaf (e9::r9))),some (some ⟨e9.key,eZ,q⟩)):=by
        unfold df;rw[if_neg (by rw[i7.out];omega),ha];simp only[HK.out,d6]
        rfl
      have d4:=ain g5;have p7:eW (c.alloc.write (p:Nat) (au leaf (l.take i))) q:=by
        obtain⟨v1,v2,v3⟩:=gb (pg:=d.pg) u1.aA k8 (dA k6 h0);exact v1.GD u2 (by
          intro e;have:q=p:=by simpa using e
          rw[this,hp.2.2]at u3;exact Bool.noConfusion u3)
      have T8:bc s TP PB root:=p3.out.pg a3 a1.1 a1.2.1 a1.2.2;have p8:ah leaf (e9::r9)<=1024:=by rw[<-d6];exact i4
      obtain⟨L,hL⟩:∃L,(e9::r9).length=L:=⟨_,rfl⟩;have x9:0<L:=by rw[<-hL];simp
      have y3:(0:Int)<(L:Int):=by omega
      have h4:=b8.qn;rw[hL]at h4 s2;have h5:=fun W (g:Gr s W)=>mg (d5.gr g) (T8.gr g) (h4.gr g) k7 p8 p7;unfold aU at h5;have l3:=ain h5;clear h5 g5 h4 hL;have p9:s.cell? ⟨A,0,none⟩=some (.string e9.key):=q1;have h6:A≠PB/\A≠DB/\A≠M:=by
        have:=a2.lt;omega
      generalize au leaf (e9::r9)=P9 at*;generalize e9.key=k9 at*;have Y0:s.drew.cell? ⟨MB,0,none⟩=some (.int .i64 (q:Int)):=s0;have Y1:s.drew.cell? ⟨MB,1,none⟩=some (.bool leaf):=s1;have Y2:s.drew.cell? ⟨MB,2,none⟩=some (.slice (some ⟨A,0,none⟩) L c7):=s2;have Y3:s.drew.cell? ⟨A,0,none⟩=some (.string k9):=p9;have Gc:Gr s s.drew:=(Gr.refl s).drew;have ga:Gr s (s.alloc (.cells #[.string k9,.string ⟨#[]⟩,.int .i64 (q:Int)] 206)):=(Gr.refl s).alloc _;have b0:=ga.keeps s0;have b1:=ga.keeps s1;have b2:=ga.keeps s2;have l4:=ain ga;have h7:=ain F8;have y4:=ain d5;have U:s.heap.size≠PB/\s.heap.size≠DB/\s.heap.size≠M:=by
        have:=d5.lt;omega
      have c4:∀H,bF H PB DB M ((c.alloc.write (p:Nat) (au leaf (l.take i))).write (q:Nat) P9) sv t d->aM PB DB M M s.drew H->∃v,(aiM (.tuple #[.pointer (some ⟨H.heap.size,0,none⟩),.nilIface]):Ending)=.returned v/\im w (H.alloc (.cells #[.string k9,.string ⟨#[]⟩,.int .i64 (q:Int)] 206)) v (df leaf c p l).2/\bF (H.alloc (.cells #[.string k9,.string ⟨#[]⟩,.int .i64 (q:Int)] 206)) PB DB M (df leaf c p l).1 sv t d/\aM PB DB M M w (H.alloc (.cells #[.string k9,.string ⟨#[]⟩,.int .i64 (q:Int)] 206)):=by
        intro H x1 x2;rw[d4.out];have x3:=h7.out.trans ((aM.ak PB DB M Gc).trans x2);have x4:Gr H (H.alloc (.cells #[.string k9,.string ⟨#[]⟩,.int .i64 (q:Int)] 206)):=(Gr.refl H).alloc _;exact⟨_,rfl,⟨H.heap.size,rfl,x3.size,by rw[aim];rfl,by rw[aim];rfl,by rw[aim];rfl⟩,x1.gr x4,x3.trans (aM.ak PB DB M x4)⟩
      have c5:∀H,bF H PB DB M ((c.alloc.write (p:Nat) (au leaf (l.take i))).write (q:Nat) P9) sv t d->aM PB DB M M (s.alloc (.cells #[.string k9,.string ⟨#[]⟩,.int .i64 (q:Int)] 206)).drew H->∃v,(aiM (.tuple #[.pointer (some ⟨s.heap.size,0,none⟩),.nilIface]):Ending)=.returned v/\im w H v (df leaf c p l).2/\bF H PB DB M (df leaf c p l).1 sv t d/\aM PB DB M M w H:=by
        intro H x1 x2;rw[d4.out];have x3:=(aM.ak PB DB M l4.out.drew).trans x2;exact⟨_,rfl,⟨s.heap.size,rfl,h7.out.size,x2.keeps U.1 U.2.1 U.2.2 (by rw[aiB,aim];rfl),x2.keeps U.1 U.2.1 U.2.2 (by rw[aiB,aim];rfl),x2.keeps U.1 U.2.1 U.2.2 (by rw[aiB,aim];rfl)⟩,x1,h7.out.trans x3⟩
      have l6:=ain c4;have l7:=ain c5;clear c4 c5;clear ga F8 d5;go_region_with(go_at_call 200;first
        |( (with_reducible refine(l3.out s.drew ?_).mono ?_);(with_reducible exact Gc);rintro e H ⟨rfl,h8,b6⟩;(have t2:=b6.keeps G.1 G.2.1 G.2.2 Y2);(have t3:=b6.keeps h6.1 h6.2.1 h6.2.2 Y3))
        |( (with_reducible refine(l3.out (s.alloc (.cells #[.string k9,.string ⟨#[]⟩,.int .i64 (q:Int)] 206)).drew ?_).mono ?_);(with_reducible exact l4.out.drew);rintro e H ⟨rfl,h8,b6⟩))
      all_goals
        go_wp2_with fail
        go_ret2
        first
          |exact l6.out _ h8 b6
          |exact l7.out _ h8 b6
end
section
variable{w:World}{PB DB M:Nat}{c:Ch}{sv:Head}{t:Int}{d:Dk}
theorem wQ(h:bF w PB DB M c sv t d){TP root:Nat}(z:bc w TP PB root)(y:TP≠PB/\TP≠DB/\TP≠M){leaf:Bool}{p:Nat}{l:List En}{s:Value}{a0:World}(hs:aT a0 w s l)(ha:PB<a0.heap.size/\DB<a0.heap.size/\M<a0.heap.size)
  (b:∀e∈l,e.ok leaf) (H:ah leaf l<=1400) (D:eW c p):
  Calls ais 254 #[.pointer (some ⟨TP,0,none⟩),aU p leaf s] w fun e w'=>∃v,e=.returned v/\im w w' v (df leaf c p l).2/\bF w' PB DB M (df leaf c p l).1 sv t d/\aM PB DB M M w w':=by
 by_cases hf:ah leaf l<=1024
 ·have e:df leaf c p l=(c.write (p:Nat) (au leaf l),some none):=by
   unfold df;rw[if_pos hf]
  rw[e];exact(Je h z hs.qn b hf D).mono fun _ _ ⟨I,q,G⟩=>⟨_,I,rfl,q,G⟩
 ·rcases hs.at' with⟨_,rfl⟩|⟨B,cap,rfl,q,G,J,L,_⟩
  ·exact absurd (Bw leaf) hf
  ·exact LL h z J (by omega) y q L b (by omega) H D
end
section
variable{X:Type}
theorem OZ{en:ByteArray×X->En}(s:∀x,(en x).key=x.1)(leaf:Bool)(c:Ch)(p:Nat)(l old:List (ByteArray×X)):
  (bI en leaf c p l old).1=(df leaf c p (l.map en)).1/\
  (∀m,(bI en leaf c p l old).2.2=some (some m)->(df leaf c p (l.map en)).2=some (some ⟨m.1,eZ,m.2.1⟩))/\
  ((bI en leaf c p l old).2.2=some none->(df leaf c p (l.map en)).2=some none)/\((bI en leaf c p l old).2.2=none->(df leaf c p (l.map en)).2=none):=by
 have y:∀(l:List (ByteArray×X)),((l.map en).head?.map En.key).getD eZ=keyOf l:=fun l=>by
  unfold keyOf;cases l with
  |nil=>rfl
  |cons x r=>simp[s]
 unfold bI df
 split
 ·exact⟨rfl,fun m b=>(by simp at b),fun _=>rfl,fun b=>(by simp at b)⟩
 ·cases bZ c.h with
  |none=>exact⟨rfl,fun m b=>(by simp at b),fun b=>(by simp at b),fun _=>rfl⟩
  |some q=>
   refine⟨rfl,fun m b=>?_,fun b=>(by simp at b),fun b=>(by simp at b)⟩;have e:some (some (keyOf (l.drop (cC leaf (l.map en))),(q,l.drop (cC leaf (l.map en)))))=some (some m):=b;injection e with e
   injection e with e
   subst e;show some (some _)=some (some _);rw[<-List.map_drop,y]
end
theorem im.form{w w':World}{v:Value}{o:Option (Option En)}(h:im w w' v o):∃a b,v=.tuple #[a,b]:=by
 rcases o with _|_|e
 ·exact⟨_,_,h⟩
 ·exact⟨_,_,h⟩
 ·obtain⟨s,q,_⟩:=h;exact⟨_,_,q⟩
theorem im.mono{w q w':World}{v:Value}{o:Option (Option En)}(h:im w w' v o)(b:q.heap.size<=w.heap.size):im q w' v o:=by
 rcases o with _|_|e
 ·exact h
 ·exact h
 ·obtain⟨s,y,z,B⟩:=h;exact⟨s,y,aiu b z,B⟩
theorem Rp{leaf:Bool}{l:List En}{k:Nat}{e:En}(h:∀x∈l,x.ok leaf)(q:e.ok leaf):∀x∈l.set k e,x.ok leaf:=fun x b=>by
 rcases List.mem_or_eq_of_mem_set b with b|b
 ·exact h x b
 ·rw[b];exact q
theorem zl{leaf:Bool}{l:List En}{k:Nat}{e:En}(h:∀x∈l,x.ok leaf)(q:e.ok leaf):∀x∈l.insertIdx k e,x.ok leaf:=fun x b=>by
 by_cases s:k<=l.length
 ·rcases(List.mem_insertIdx s).1 b with b|b
  ·rw[b];exact q
  ·exact h x b
 ·rw[List.insertIdx_of_length_lt (by omega)]at b;exact h x b
theorem O0{a0 w:World}{l:List En}{B cap:Nat}(h:aT a0 w (.slice (some ⟨B,0,none⟩) l.length cap) l){k:Nat}(L:k<l.length)(e:En):
  aT a0 (w.setCells B (k*3) e.cells) (.slice (some ⟨B,0,none⟩) l.length cap) (l.set k e):=by
 rcases h.row.2 with⟨_,M⟩|⟨O,y,b,hv,Q,D,G,hc,H,J⟩
 ·omega
 obtain⟨rfl,rfl⟩:B=O/\cap=y:=by
  injection hv with q M S
  injection q with q
  injection q with q
  exact⟨q,S⟩
 have I:B<w.heap.size:=(Array.getElem?_eq_some_iff.1 D).1;have a2:=cT l;have s:e.cells.length=3:=rfl;rw[lP B e.cells (k*3) b w D (by rw[s];omega)];have z:(b.toList.take (k*3)++e.cells++b.toList.drop (k*3+e.cells.length)).toArray.size=cap*3:=by
  simp only[List.size_toArray,aiF,ait,aip,s,Array.length_toList,H];omega
 obtain⟨U,_⟩:=ju l k (by omega);obtain⟨_,V⟩:=ju l (k+1) (by omega);refine sM Q I hc G (by rw[List.length_set]) z ?_ D;show(b.toList.take (k*3)++e.cells++b.toList.drop (k*3+e.cells.length)).take (l.length*3)=_;have Y:b.toList.take (k*3)=ax (l.take k):=by
  rw[<-U,<-J,List.take_take,aiD (by omega)]
 have Z:(ax (l.take k)).length=k*3:=by rw[cT,ait,aiD (by omega)]
 have t3:(b.toList.drop (k*3+3)).take (l.length*3-(k*3+3))=ax (l.drop (k+1)):=by
  rw[<-V,<-J,List.drop_take,show(k+1)*3=k*3+3 by omega]
 rw[List.set_eq_take_append_cons_drop,if_pos L,fK,Y,aiI,aiL,Z,aiy (by omega),aiL,s,aiy (l:=e.cells) (by rw[s];omega),show l.length*3-k*3-3=l.length*3-(k*3+3)by omega,t3]
 rfl
section
variable{w:World}{PB DB M:Nat}{c:Ch}{sv:Head}{t:Int}{d:Dk}
theorem O1(h:bF w PB DB M c sv t d){TP root:Nat}(ht:bc w TP PB root)(c6:TP≠PB/\TP≠DB/\TP≠M){p:Nat}{l:List En}(hp:gO c d.pg true p l)(c0:∀e∈l,e.ok true)(hb:ah true l<=1024)(key item:ByteArray)(hk:key.size<=60)(hi:item.size<=100):
  Calls ais 201 #[.pointer (some ⟨TP,0,none⟩),.int .i64 (p:Int),.agg #[.string key,.string item,.int .i64 0]] w fun e w'=>∃v,e=.returned v/\im w w' v (df true c p (if dm (aD l) key then l.set (ai (aD l) key) ⟨key,item,0⟩else l.insertIdx (ai (aD l) key) ⟨key,item,0⟩)).2/\
   bF w' PB DB M (df true c p (if dm (aD l) key then l.set (ai (aD l) key) ⟨key,item,0⟩else l.insertIdx (ai (aD l) key) ⟨key,item,0⟩)).1 sv t d/\aM PB DB M M w w':=by
 have U:=fun W (g:Gr w W)=>lQ (h.gr g).s (ht.gr g) hp c0 hb;have e7:=ain U;clear U;obtain⟨R,hR⟩:∃R,(if dm (aD l) key then l.set (ai (aD l) key) ⟨key,item,0⟩else l.insertIdx (ai (aD l) key) ⟨key,item,0⟩)=R:=⟨_,rfl⟩;rw[hR];go_enter aiU,aiS;go_wp2_with fail
 have c8:Gr w (w.alloc (.cells #[.string key,.string item,.int .i64 0] 206)):=(Gr.refl w).alloc _;have U:=e7.out _ c8;have f0:(w.alloc (.cells #[.string key,.string item,.int .i64 0] 206)).cell? ⟨w.heap.size,0,none⟩=some (.string key):=by rw[aim];rfl
 have f1:(w.alloc (.cells #[.string key,.string item,.int .i64 0] 206)).cell? ⟨w.heap.size,1,none⟩=some (.string item):=by rw[aim];rfl
 have f2:(w.alloc (.cells #[.string key,.string item,.int .i64 0] 206)).cell? ⟨w.heap.size,2,none⟩=some (.int .i64 0):=by rw[aim];rfl
 have I:=ain c8;have b8:Hid (w.heap.size<(w.alloc (.cells #[.string key,.string item,.int .i64 0] 206)).heap.size):=ain (by simp);obtain⟨WB,d0⟩:∃WB,w.alloc (.cells #[.string key,.string item,.int .i64 0] 206)=WB:=⟨_,rfl⟩;rw[d0]at U f0 f1 f2 I b8⊢;clear d0;have e8:∃EB,w.heap.size=EB:=⟨_,rfl⟩;obtain⟨EB,d1⟩:=e8;rw[d1]at f0 f1 f2⊢;have d2:(aD l).length=l.length:=by unfold aD;rw[aiv]
 have d3:=jg (aD l) key;rw[d2]at d3;refine U.mono ?_;rintro e H ⟨s',rfl,V,J⟩;obtain⟨ao,Z,rfl⟩:=V.form;have hl:l.length<=600:=by
  have:=dC true l;unfold ah at hb;omega
 have c1:=fun W (g:Gr H W)=>pj p true l (.slice ao l.length Z) key W (V.qn.gr g) (by omega);simp only[if_true]at c1;have L:Gr H (H.alloc (.cells #[.int .i64 (p:Int),.bool true,.slice ao l.length Z] 200)):=(Gr.refl H).alloc _;unfold aU at*;have a6:=ain c1;have f0:=J.keeps f0;have f1:=J.keeps f1;have f2:=J.keeps f2;have f0:=L.keeps f0;have f1:=L.keeps f1;have f2:=L.keeps f2;have k0:(H.alloc (.cells #[.int .i64 (p:Int),.bool true,.slice ao l.length Z] 200)).cell? ⟨H.heap.size,0,none⟩=some (.int .i64 (p:Int)):=by rw[aim];rfl
 have k1:(H.alloc (.cells #[.int .i64 (p:Int),.bool true,.slice ao l.length Z] 200)).cell? ⟨H.heap.size,1,none⟩=some (.bool true):=by rw[aim];rfl
 have k2:(H.alloc (.cells #[.int .i64 (p:Int),.bool true,.slice ao l.length Z] 200)).cell? ⟨H.heap.size,2,none⟩=some (.slice ao l.length Z):=by rw[aim];rfl
 have kf:∀o,(H.alloc (.cells #[.int .i64 (p:Int),.bool true,.slice ao l.length Z] 200)).frozen? ⟨H.heap.size,o,none⟩=false:=fun o=>by simp
 clear U c1;go_wp2_with fail
 obtain⟨Q,c2⟩:∃Q,H.heap.size=Q:=⟨_,rfl⟩;have j3:EB<Q:=by
  rw[<-c2];exact aiq (by rw[<-d1];exact b8.out) J.size
 rw[c2]at k0 k1 k2 kf⊢;by_cases hh:dm (aD l) key=true
 ·have a7:ai (aD l) key<l.length:=by rw[<-d2];exact oh hh
  rw[hh]at a6;rw[if_pos hh]at hR;rcases V.at' with⟨_,e2⟩|⟨B,cap,e3,h2,h3,h4,h5,h6⟩
  ·rw[e2]at a7;exact absurd a7 (by simp)
  obtain⟨rfl,rfl⟩:ao=some ⟨B,0,none⟩/\Z=cap:=by
   injection e3 with e1 e2 e3
   exact⟨e1,e3⟩
  generalize ai (aD l) key=K at*;refine(a6.out _ L).mono ?_;rintro e D ⟨rfl,q⟩;have O:=L.trans q;have f0:=q.keeps f0;have f1:=q.keeps f1;have f2:=q.keeps f2;have k0:=q.keeps k0;have k1:=q.keeps k1;have k2:=q.keeps k2;have a8:=V.gr O;have j4:(K:Int)<(l.length:Int):=by omega
  obtain⟨b0,b1,b2⟩:=(h5.gr O) K a7;rw[aix]at b0 b1 b2;have bf:∀o,D.frozen? ⟨B,o,none⟩=false:=fun o=>(O.frozen o h4).trans (h6 o);generalize l[K].key=x0 at*;generalize l[K].item=x1 at*;generalize(l[K].b_:Int)=x2 at*;have e9:=ain (O0 a8 a7 ⟨key,item,0⟩);clear h5 h6;go_wp2_with fail
  have g0:ag (fun b=>b=B) D (((D.setCell ⟨B,K*3,none⟩ (.string key)).setCell ⟨B,K*3+1,none⟩ (.string item)).setCell ⟨B,K*3+2,none⟩ (.int .i64 0)):=((ag.setCell (S:=fun b=>b=B) (p:=⟨B,K*3,none⟩) D _ rfl).trans (ag.setCell (S:=fun b=>b=B) (p:=⟨B,K*3+1,none⟩) _ _ rfl)).trans (ag.setCell (S:=fun b=>b=B) (p:=⟨B,K*3+2,none⟩) _ _ rfl);have Y:aT WB (((D.setCell ⟨B,K*3,none⟩ (.string key)).setCell ⟨B,K*3+1,none⟩ (.string item)).setCell ⟨B,K*3+2,none⟩ (.int .i64 0)) (.slice (some ⟨B,0,none⟩) l.length Z) (l.set K ⟨key,item,0⟩):=e9.out;have z:Gr w (((D.setCell ⟨B,K*3,none⟩ (.string key)).setCell ⟨B,K*3+1,none⟩ (.string item)).setCell ⟨B,K*3+2,none⟩ (.int .i64 0)):=g0.gr ((I.out.trans J).trans O) (fun b hb=>by rw[hb];exact aiu I.out.size h3);generalize((D.setCell ⟨B,K*3,none⟩ (.string key)).setCell ⟨B,K*3+1,none⟩ (.string item)).setCell ⟨B,K*3+2,none⟩ (.int .i64 0)=w3 at*;have a2:=wQ (h.gr z) (ht.gr z) c6 Y (by have:=h.lt;have:=I.out.size;omega) (Rp c0 ⟨hk,hi,by show 0<2000;omega,fun _=>rfl,fun e=>by cases e⟩) (by
   have:=xZ (leaf:=true) (y:=⟨key,item,0⟩) l K;have h9:(⟨key,item,0⟩:En).sz true<=162:=En.og ⟨hk,hi,by show 0<2000;omega,fun _=>rfl,fun e=>by cases e⟩;unfold ah at hb⊢;omega) hp.1
  unfold aU at a2;refine a2.mono ?_;rintro e w4 ⟨v,rfl,hm,a9,c4⟩;obtain⟨v1,v2,rfl⟩:=hm.form;go_wp2_with fail
  go_ret2;rw[hR]at hm a9;exact⟨_,rfl,hm.mono z.size,a9,(aM.ak PB DB M z).trans c4⟩
 ·have g3:dm (aD l) key=false:=by simpa using hh
  rw[g3]at a6;rw[if_neg hh]at hR;generalize ai (aD l) key=K at*;refine(a6.out _ L).mono ?_;rintro e D ⟨rfl,q⟩;have O:=L.trans q;have f0:=q.keeps f0;have f1:=q.keeps f1;have f2:=q.keeps f2;have k0:=q.keeps k0;have k1:=q.keeps k1;have k2:=q.keeps k2;have a8:=V.gr O;go_wp2_with fail
  have g4:ph (D.alloc (.cells #[.string key,.string item,.int .i64 0] 206)) D.heap.size ⟨key,item,0⟩:=⟨by show(D.heap.push _)[D.heap.size]?=_;rw[aiz];rfl⟩;have G:Gr D (D.alloc (.cells #[.string key,.string item,.int .i64 0] 206)):=(Gr.refl D).alloc _;have g5:=Eg WB _ _ l K D.heap.size ⟨key,item,0⟩ (a8.gr G) d3 ((J.trans O).trans G) (by omega) g4 (fun e=>by have:=ba a8 _ e;omega);have d4:=ad k0;refine g5.mono ?_;rintro e w3 ⟨v3,rfl,d5,g6,b3,g7⟩;have a4:(aiw ao l.length Z).ownBlock≠some Q:=fun e=>by
   have:=ba V _ e;omega
  have k0:=b3.keeps a4 (G.keeps k0);have k1:=b3.keeps a4 (G.keeps k1);have k2:=b3.keeps a4 (G.keeps k2);have j5:w3.frozen? ⟨Q,2,none⟩=false:=by
   rw[b3.frozen 2 (aiq d4 G.size) a4,G.frozen 2 d4,q.frozen 2 (by rw[<-c2];simp)];exact kf 2
  obtain⟨a3,c3,rfl⟩:=d5.form;go_wp2_with fail
  have d8:ag (fun b=>b=Q) w3 (w3.setCell ⟨Q,2,none⟩ (.slice a3 (l.insertIdx K ⟨key,item,0⟩).length c3)):=ag.setCell (S:=fun b=>b=Q) (p:=⟨Q,2,none⟩) w3 _ rfl;have g8:∀b,(aiw a3 (l.insertIdx K ⟨key,item,0⟩).length c3).ownBlock=some b->¬b=Q:=fun b hb e=>by
   rcases g7 b hb with h1|h1
   ·exact a4 (by rw[h1,e])
   ·have:=G.size;omega
  have Y:=d5.aC d8 g8;have z:Gr w (w3.setCell ⟨Q,2,none⟩ (.slice a3 (l.insertIdx K ⟨key,item,0⟩).length c3)):=d8.gr (I.out.trans g6) (fun b hb=>by
   have:=I.out.size;have:=J.size;omega)
  rw[hR]at Y z;have d9:∀e∈R,e.ok true:=by
   rw[<-hR];exact zl c0 ⟨hk,hi,by show 0<2000;omega,fun _=>rfl,fun e=>by cases e⟩
  have g9:ah true R<=1400:=by
   rw[<-hR];have:=m_ (leaf:=true) (y:=⟨key,item,0⟩) l K;have h9:(⟨key,item,0⟩:En).sz true<=162:=En.og ⟨hk,hi,by show 0<2000;omega,fun _=>rfl,fun e=>by cases e⟩;unfold ah at hb⊢;omega
  generalize w3.setCell ⟨Q,2,none⟩ (.slice a3 R.length c3)=w5 at*;have a2:=wQ (h.gr z) (ht.gr z) c6 Y (by have:=h.lt;have:=I.out.size;omega) d9 g9 hp.1;unfold aU at a2;refine a2.mono ?_;rintro e w4 ⟨v,rfl,hm,a9,c4⟩;obtain⟨v1,v2,rfl⟩:=hm.form;go_wp2_with fail
  go_ret2;exact⟨_,rfl,hm.mono z.size,a9,(aM.ak PB DB M z).trans c4⟩
end
def Ey(w:World)(n:Nat):World:={w with heap:=w.heap.extract 0 n}
theorem lD{w:World}{n:Nat}(h:n<=w.heap.size):(Ey w n).heap.size=n:=by
 unfold Ey;simp;omega
theorem Jj{w:World}{n:Nat}(h:n<=w.heap.size):Gr (Ey w n) w:=by
 refine⟨rfl,rfl,rfl,by rw[lD h];exact h,fun k b=>?_⟩;rw[lD h]at b;unfold Ey;show _=(w.heap.extract 0 n)[k]?;rw[Array.getElem?_extract,if_pos (by omega),aix]
theorem aT.base{a0 b w:World}{v:Value}{l:List En}(h:aT a0 w v l)(e:b.heap.size=a0.heap.size):aT b w v l:=by
 unfold aT;rw[e];exact h
theorem O2(a0 w:World)(v:Value)(l:List En)(k s:Nat)(e:En)(h:aT a0 w v l)(B:k<=l.length)(y:a0.heap.size<=w.heap.size)(D:l.length<=10000)(hv:ph w s e)(z:v.ownBlock≠some s):
  Calls ais 253 #[v,.int .i64 k,.slice (some ⟨s,0,none⟩) 1 1] w fun ex w'=>
   ∃q,ex=.returned q/\aT a0 w' q (l.insertIdx k e)/\ag (fun b=>v.ownBlock=some b) w w'/\oj v q w:=
 (Eg (Ey w a0.heap.size) w v l k s e (h.base (lD y)) B (Jj y) D hv z).mono fun _ _ ⟨q,G,H,_,I,J⟩=>⟨q,G,H.base (lD y).symm,I,J⟩
theorem ye(a0 w:World)(v:Value)(l:List En)(k:Nat)(h:aT a0 w v l)(y:k<l.length)(s:a0.heap.size<=w.heap.size)(z:l.length<=10000):
  Calls ais 255 #[v,.int .i64 k,.int .i64 ((k:Int)+1)] w fun ex w'=>
   ∃q,ex=.returned q/\aT a0 w' q (l.eraseIdx k)/\ag (fun b=>v.ownBlock=some b) w w'/\q.ownBlock=v.ownBlock:=
 (ON (Ey w a0.heap.size) w v l k (h.base (lD s)) y (Jj s) z).mono fun _ _ ⟨q,B,D,_,G,H⟩=>⟨q,B,D.base (lD s).symm,G,H⟩
theorem bc.aC{S:Nat->Prop}{w w':World}{TP PB root:Nat}(h:bc w TP PB root)(g:ag S w w')(hs:¬S TP):bc w' TP PB root:=⟨g.keeps hs h.p,g.keeps hs h.r⟩
def ou(c1:Ch)(p:Nat)(l:List En)(K:Nat):Option (Option En)->Ch×Option (Option En)
 |none=>(c1,none)
 |some none=>df false c1 p l
 |some (some m)=>df false c1 p (l.insertIdx (K+1) m)
section
variable{w:World}{PB DB M:Nat}{c:Ch}{sv:Head}{t:Int}{d:Dk}
theorem O3(h:bF w PB DB M c sv t d){TP root:Nat}(ht:bc w TP PB root)(Z:TP≠PB/\TP≠DB/\TP≠M){p:Nat}{l:List En}(hp:gO c d.pg false p l)(c8:∀e∈l,e.ok false)(hb:ah false l<=1024)(key item:ByteArray)
  {K:Nat} (hK:aG (aD l) key=K) (c9:K<l.length) {c1:Ch} {o:Option (Option En)} (d7:eW c1 p) (ho:∀m,o=some (some m)->m.ok false)
  (L:∀W,Gr w W->Calls ais 201 #[.pointer (some ⟨TP,0,none⟩),.int .i64 (l[K].b_:Int),.agg #[.string key,.string item,.int .i64 0]] W fun e w'=>∃v,e=.returned v/\im W w' v o/\bF w' PB DB M c1 sv t d/\aM PB DB M M W w'):
  Calls ais 201 #[.pointer (some ⟨TP,0,none⟩),.int .i64 (p:Int),.agg #[.string key,.string item,.int .i64 0]] w fun e w'=>∃v,e=.returned v/\im w w' v (ou c1 p l K o).2/\bF w' PB DB M (ou c1 p l K o).1 sv t d/\aM PB DB M M w w':=by
 have V:=fun W (g:Gr w W)=>lQ (h.gr g).s (ht.gr g) hp c8 hb;have i7:=ain V;clear V;have h7:=ain L;clear L;go_enter aiU,aiS;go_wp2_with fail
 have d8:Gr w (w.alloc (.cells #[.string key,.string item,.int .i64 0] 206)):=(Gr.refl w).alloc _;have V:=i7.out _ d8;have f0:(w.alloc (.cells #[.string key,.string item,.int .i64 0] 206)).cell? ⟨w.heap.size,0,none⟩=some (.string key):=by rw[aim];rfl
 have f1:(w.alloc (.cells #[.string key,.string item,.int .i64 0] 206)).cell? ⟨w.heap.size,1,none⟩=some (.string item):=by rw[aim];rfl
 have f2:(w.alloc (.cells #[.string key,.string item,.int .i64 0] 206)).cell? ⟨w.heap.size,2,none⟩=some (.int .i64 0):=by rw[aim];rfl
 have a1:=ain d8;have c0:Hid (w.heap.size<(w.alloc (.cells #[.string key,.string item,.int .i64 0] 206)).heap.size):=ain (by simp);obtain⟨U,b4⟩:∃U,w.alloc (.cells #[.string key,.string item,.int .i64 0] 206)=U:=⟨_,rfl⟩;rw[b4]at V f0 f1 f2 a1 c0⊢;clear b4;have i9:∃EB,w.heap.size=EB:=⟨_,rfl⟩;obtain⟨EB,d9⟩:=i9;rw[d9]at f0 f1 f2⊢;have n2:(aD l).length=l.length:=by unfold aD;rw[aiv]
 refine V.mono ?_;rintro e O ⟨s',rfl,a2,H⟩;obtain⟨ao,Q,rfl⟩:=a2.form;have hl:l.length<=600:=by
  have:=dC false l;unfold ah at hb;omega
 have d0:=fun W (g:Gr O W)=>pj p false l (.slice ao l.length Q) key W (a2.qn.gr g) (by omega);simp only[Bool.false_eq_true,if_false]at d0;have a3:Gr O (O.alloc (.cells #[.int .i64 (p:Int),.bool false,.slice ao l.length Q] 200)):=(Gr.refl O).alloc _;unfold aU at*;have e0:=ain d0;have f0:=H.keeps f0;have f1:=H.keeps f1;have f2:=H.keeps f2;have f0:=a3.keeps f0;have f1:=a3.keeps f1;have f2:=a3.keeps f2;have k0:(O.alloc (.cells #[.int .i64 (p:Int),.bool false,.slice ao l.length Q] 200)).cell? ⟨O.heap.size,0,none⟩=some (.int .i64 (p:Int)):=by rw[aim];rfl
 have k1:(O.alloc (.cells #[.int .i64 (p:Int),.bool false,.slice ao l.length Q] 200)).cell? ⟨O.heap.size,1,none⟩=some (.bool false):=by rw[aim];rfl
 have k2:(O.alloc (.cells #[.int .i64 (p:Int),.bool false,.slice ao l.length Q] 200)).cell? ⟨O.heap.size,2,none⟩=some (.slice ao l.length Q):=by rw[aim];rfl
 have kf:∀o,(O.alloc (.cells #[.int .i64 (p:Int),.bool false,.slice ao l.length Q] 200)).frozen? ⟨O.heap.size,o,none⟩=false:=fun o=>by simp
 clear V d0;go_wp2_with fail
 obtain⟨G,d1⟩:∃G,O.heap.size=G:=⟨_,rfl⟩;have n3:EB<G:=by
  rw[<-d1];exact aiq (by rw[<-d9];exact c0.out) H.size
 rw[d1]at k0 k1 k2 kf⊢;rw[hK]at e0;generalize dm (aD l) key=hit at*;rcases a2.at' with⟨_,e2⟩|⟨B,cap,e3,h2,h3,h4,h5,h6⟩
 ·rw[e2]at c9;exact absurd c9 (by simp)
 obtain⟨rfl,rfl⟩:ao=some ⟨B,0,none⟩/\Q=cap:=by
  injection e3 with e1 e2 e3
  exact⟨e1,e3⟩
 refine(e0.out _ a3).mono ?_;rintro e w2 ⟨rfl,I⟩;have b5:=a3.trans I;have f0:=I.keeps f0;have f1:=I.keeps f1;have f2:=I.keeps f2;have k0:=I.keeps k0;have k1:=I.keeps k1;have k2:=I.keeps k2;have d2:=a2.gr b5;have n4:(K:Int)<(l.length:Int):=by omega
 obtain⟨_,_,b2⟩:=(h5.gr b5) K c9;rw[aix]at b2;have d3:=(a1.out.trans H).trans b5;go_wp2_with fail
 have L:=h7.out _ d3.drew;generalize(l[K].b_:Int)=pgi at*;have j3:=ain L;have n5:=ain hK;clear L hK;go_cut [11,12] (fun j4 j5 wx=>∃x y,j4=x/\j5=y/\im w2 wx (.tuple #[x,y]) o/\bF wx PB DB M c1 sv t d/\aM PB DB M M w2 wx)
 case first=>
  go_region_with(go_at_call 201;refine j3.out.mono ?_;rintro e w3 ⟨v,rfl,hm,a4,z⟩;obtain⟨v1,v2,rfl⟩:=hm.form)
  all_goals
   go_wp2_with fail
   go_meet
   exact⟨_,_,rfl,rfl,hm.mono (aiX _),a4,(aM.ak PB DB M (Gr.refl w2).drew).trans z⟩
 case rest=>
  obtain⟨x,y,rfl,rfl,hm,a4,z⟩:=hcut;have b0:G<w2.heap.size:=ad k0;have q:G≠PB/\G≠DB/\G≠M:=by
   have:=h.lt;have:=a1.out.size;have:=H.size;omega
  have k0:=z.keeps q.1 q.2.1 q.2.2 k0;have k1:=z.keeps q.1 q.2.1 q.2.2 k1;have k2:=z.keeps q.1 q.2.1 q.2.2 k2;have e5:PB<U.heap.size/\DB<U.heap.size/\M<U.heap.size:=by
   have:=h.lt;have:=a1.out.size;omega
  have j6:wc.frozen? ⟨G,2,none⟩=false:=by
   rw[z.2.frozen 2 b0 (fun e=>e.elim q.1 fun e=>e.elim q.2.1 q.2.2),I.frozen 2 (by rw[<-d1];simp)];exact kf 2
  have j7:∀b,(aiw (some ⟨B,0,none⟩) l.length Q).ownBlock=some b->¬(b=PB\/b=DB\/b=M):=fun b hb e=>by
   have:=aP d2 b hb;omega
  have d4:=d2.aC z.2 j7;have F3:=(aM.ak PB DB M d3).trans z;have T3:bc wc TP PB root:=(ht.gr d3).pg z Z.1 Z.2.1 Z.2.2;have HO:=ain ho;clear ho;rcases o with _|_|m
  ·have D:(aiZ #[u11,u12])=.tuple #[.pointer none,dV 12]:=hm;injection D with D
   obtain⟨rfl,rfl⟩:u11=.pointer none/\u12=dV 12:=by simpa using D
   have j8:dV 12=.iface 24 (.int .i64 12):=rfl;rw[j8];go_wp2_with fail
   go_ret2;exact⟨_,rfl,rfl,a4,F3⟩
  ·have D:(aiZ #[u11,u12])=.tuple #[.pointer none,.nilIface]:=hm;injection D with D
   obtain⟨rfl,rfl⟩:u11=.pointer none/\u12=.nilIface:=by simpa using D
   have d5:=wQ a4 T3 Z d4 e5 c8 (by omega) d7;unfold aU at d5;have j9:=ain d5;clear d5;go_wp2_with(refine j9.out.mono ?_;rintro e w4 ⟨v,rfl,e7,k3,k4⟩;obtain⟨v1,v2,rfl⟩:=e7.form)
   go_ret2;exact⟨_,rfl,e7.mono F3.size,k3,F3.trans k4⟩
  ·obtain⟨EC,D,n6,y0,y1,y2⟩:=hm;injection D with D
   obtain⟨rfl,rfl⟩:u11=.pointer (some ⟨EC,0,none⟩)/\u12=.nilIface:=by simpa using D
   go_wp2_with fail
   have e8:=HO.out m rfl;have J:Gr wc (wc.alloc (.cells #[.string m.key,.string m.item,.int .i64 (m.b_:Int)] 206)):=(Gr.refl wc).alloc _;have e9:ph (wc.alloc (.cells #[.string m.key,.string m.item,.int .i64 (m.b_:Int)] 206)).drew wc.heap.size m:=⟨by show(wc.heap.push _)[wc.heap.size]?=_;rw[aiz];rfl⟩;have b4:U.heap.size<=(wc.alloc (.cells #[.string m.key,.string m.item,.int .i64 (m.b_:Int)] 206)).drew.heap.size:=by
    have:=H.size;have:=b5.size;have:=z.size;have:=J.drew.size;omega
   have d6:=O2 U _ _ l (K+1) wc.heap.size m (d4.gr J.drew) (by omega) b4 (by omega) e9 (fun e=>by have:=ba d4 _ e;omega);have g0:((K+1:Nat):Int)=(K:Int)+1:=by omega
   rw[g0]at d6;have k5:=ain d6;have j0:=J.keeps k0;have j1:=J.keeps k1;have j2:=J.keeps k2;have jf:(wc.alloc (.cells #[.string m.key,.string m.item,.int .i64 (m.b_:Int)] 206)).frozen? ⟨G,2,none⟩=false:=(J.frozen 2 (ad k0)).trans j6;have a6:=ain J;have a7:¬((aiw (some ⟨B,0,none⟩) l.length Q).ownBlock=some G):=fun e=>by
    have:=ba a2 _ e;omega
   clear d6 g0 J e9;have n7:IntKind.i64.wrap ((K:Int)+1)=(K:Int)+1:=IntWalk.i64_in _ (by omega);have g3:=T3.gr a6.out.drew;have g4:=a4.gr a6.out.drew;have g5:=F3.trans (aM.ak PB DB M a6.out.drew);have n8:w.heap.size<=U.heap.size:=a1.out.size;have l6:=ad ht.p;have n9:U.heap.size<=G:=by
    have:=H.size;omega
   have Y:∀b,(aiw (some ⟨B,0,none⟩) l.length Q).ownBlock=some b->U.heap.size<=b:=fun b hb=>aP d2 b hb;have o0:G<(wc.alloc (.cells #[.string m.key,.string m.item,.int .i64 (m.b_:Int)] 206)).drew.heap.size:=aiq b0 (aiu z.size a6.out.size);have c6:=zl (k:=K+1) c8 e8;have g6:ah false (l.insertIdx (K+1) m)<=1400:=by
    have:=m_ (leaf:=false) (y:=m) l (K+1);have h9:m.sz false<=162:=En.og e8;unfold ah at hb⊢;omega
   have g7:Hid (ou c1 p l K (some (some m))=df false c1 p (l.insertIdx (K+1) m)):=rfl;generalize l.insertIdx (K+1) m=R at*;have c7:∀w5 a5 c5,aT U w5 (.slice a5 R.length c5) R->ag (fun b=>(aiw (some ⟨B,0,none⟩) l.length Q).ownBlock=some b) (wc.alloc (.cells #[.string m.key,.string m.item,.int .i64 (m.b_:Int)] 206)).drew w5->oj (aiw (some ⟨B,0,none⟩) l.length Q) (.slice a5 R.length c5) (wc.alloc (.cells #[.string m.key,.string m.item,.int .i64 (m.b_:Int)] 206)).drew->
     Calls ais 254 #[.pointer (some ⟨TP,0,none⟩),.agg #[.int .i64 (p:Int),.bool false,.slice a5 R.length c5]] (w5.setCell ⟨G,2,none⟩ (.slice a5 R.length c5)) fun e w'=>∃v1 v2,e=.returned (.tuple #[v1,v2])/\im w w' (.tuple #[v1,v2]) (ou c1 p l K (some (some m))).2/\bF w' PB DB M (ou c1 p l K (some (some m))).1 sv t d/\aM PB DB M M w w':=by
    intro w5 a5 c5 x1 x2 x3;have gS:ag (fun b=>b=G) w5 (w5.setCell ⟨G,2,none⟩ (.slice a5 R.length c5)):=ag.setCell (S:=fun b=>b=G) (p:=⟨G,2,none⟩) w5 _ rfl;have y1:=x1.aC gS (fun b hb e=>by
     rcases x3 b hb with h1|h1
     ·exact a7 (by rw[h1,e])
     ·omega)
    have y2:=((g4.aC x2 (fun e=>by have:=Y _ e;omega) (fun e=>by have:=Y _ e;omega) (fun e=>by have:=Y _ e;omega)).aC gS (fun e=>q.1 e.symm) (fun e=>q.2.1 e.symm) (fun e=>q.2.2 e.symm));have y3:=(g3.aC x2 (fun e=>by have:=Y _ e;omega)).aC gS (fun e=>by omega);have y4:=(g5.own x2 (fun j e=>by have:=Y _ e;omega)).own gS (fun j e=>by omega);rw[g7.out];exact(wQ y2 y3 Z y1 e5 c6 g6 d7).mono fun e w' ⟨v,z1,z2,z3,z4⟩=>by
     obtain⟨v1,v2,rfl⟩:=z2.form;exact⟨v1,v2,z1,z2.mono y4.size,z3,y4.trans z4⟩
   have k6:=ain c7;clear c7 g3 g4 g5 Y c6 g6 g7;go_region_with(go_at_call 253;refine k5.out.mono ?_;rintro e w5 ⟨v5,rfl,h0,a9,k7⟩;obtain⟨a5,c5,rfl⟩:=h0.form;(have q2:=a9.keeps a7 j2);(have qf:w5.frozen? ⟨G,2,none⟩=false:=(a9.frozen 2 (aiq b0 (aiu z.size a6.out.size)) a7).trans jf);(have q0:=a9.keeps a7 j0);(have q1:=a9.keeps a7 j1))
   all_goals
    go_wp2_with(refine(k6.out _ _ _ h0 a9 k7).mono ?_;rintro e w9 ⟨v1,v2,rfl,z2,z3,z4⟩)
    go_ret2;exact⟨_,rfl,z2,z3,z4⟩
end
def GL{d:Nat}(o:Option (Option (ByteArray×T d))):Option (Option En):=o.map (ai0 aH)
theorem sW{X:Type}{en:ByteArray×X->En}(b:∀x,(en x).key=x.1)(leaf:Bool)(c:Ch)(p:Nat)(l old:List (ByteArray×X)):
  df leaf c p (l.map en)=((bI en leaf c p l old).1,(bI en leaf c p l old).2.2.map (ai0 fun m=>⟨m.1,eZ,m.2.1⟩)):=by
 obtain⟨s,y,z,B⟩:=OZ b leaf c p l old;refine Prod.ext s.symm ?_;show(df leaf c p (l.map en)).2=_;rcases q:(bI en leaf c p l old).2.2 with _|_|m
 ·exact B q
 ·exact z q
 ·exact y m q
theorem sX(l:List (ByteArray×ByteArray)):aD (l.map bE)=l.map aiQ:=by
 unfold aD;rw[aiV]
 rfl
theorem wR{d:Nat}(l:List (ByteArray×T d)):aD (l.map aH)=l.map aiQ:=by
 unfold aD;rw[aiV]
 rfl
theorem To(l:List (ByteArray×ByteArray))(key item:ByteArray):(ee l key item).map bE=if dm (aD (l.map bE)) key then(l.map bE).set (ai (aD (l.map bE)) key) ⟨key,item,0⟩else(l.map bE).insertIdx (ai (aD (l.map bE)) key) ⟨key,item,0⟩:=by
 rw[sX];unfold ee
 split
 ·rw[aiW]
  rfl
 ·rw[jS]
  rfl
section
variable{PB DB M:Nat}{sv:Head}{t:Int}{dk:Dk}
theorem Rq{TP root:Nat}(B:TP≠PB/\TP≠DB/\TP≠M)(key item:ByteArray)(Y:key.size<=60)(hi:item.size<=100):∀{d:Nat} {c:Ch} {x:T d} {w:World},bF w PB DB M c sv t dk->bc w TP PB root->x.lays c dk.pg->x.eU->x.af.Nodup->
  Calls ais 201 #[.pointer (some ⟨TP,0,none⟩),.int .i64 (x.pg:Int),.agg #[.string key,.string item,.int .i64 0]] w fun e w'=>∃v,e=.returned v/\im w w' v (GL (cK c x key item).2.2)/\bF w' PB DB M (cK c x key item).1 sv t dk/\aM PB DB M M w w'
 |0,c,x,w,h,I,G,s,hn=>by
  obtain⟨p,l⟩:Nat×List (ByteArray×ByteArray):=x;have hp:=O1 h I B (p:=p) (l:=l.map bE) G s.2.2 s.2.1 key item Y hi;rw[<-To,sW (fun _=>rfl) true c p (ee l key item) l]at hp;have e:cK c (d:=0) (p,l) key item=bI bE true c p (ee l key item) l:=by
   refine(cK.eq_1 c key item ((p,l):Nat×List (ByteArray×ByteArray))).trans ?_
   rfl
  rw[e];exact hp
 |d+1,c,t0,w,h,I,G,s,hn=>by
  obtain⟨p,l⟩:Nat×List (ByteArray×T d):=t0;have a2:l.map aiQ≠[]:=fun e=>s.1.1 (by
   have:l=[]:=List.map_eq_nil_iff.1 e;show l.map aH=[];rw[this]
   rfl)
  have q:=nw a2 key;rw[aiv]at q;obtain⟨K,Z⟩:∃K,aG (l.map aiQ) key=K:=⟨_,rfl⟩;rw[Z]at q;obtain⟨x,H⟩:∃x,l[K]?=some x:=⟨_,aiA q⟩;have a3:l[K]=x:=by
   rw[aiA q]at H;exact aiN H
  have D:x∈l:=List.mem_of_getElem? H;have a4:(p::l.flatMap fun y=>y.2.af).Nodup:=hn;obtain⟨n1,n2⟩:=List.nodup_cons.1 a4;have J:x.2.lays c dk.pg:=G.2 x D;have L:x.2.eU:=s.2 x D;have O:x.2.af.Nodup:=by
   obtain⟨l1,l2,a5,_⟩:=lC H;rw[a5,List.flatMap_append,List.flatMap_cons]at n2;exact(aiJ.1 (aiJ.1 n2).2.1).1
  have a6:p∉x.2.af:=fun e=>n1 (List.mem_flatMap.2 ⟨x,D,e⟩);have Q:=wN (pg:=dk.pg) Y hi h.f J L O;have iw:=fun W (g:Gr w W)=>Rq B key item Y hi (h.gr g) (I.gr g) J L O;have a7:cK c (d:=d+1) (p,l) key item=match cK c x.2 key item with
   |( c1,u,none)=>(c1,(p,l.set K (x.1,u)),none)
   |( c1,u,some none)=>bI (X:=T d) aH false c1 p (l.set K (x.1,u)) (l.set K (x.1,u))
   |( c1,u,some (some m))=>bI (X:=T d) aH false c1 p ((l.set K (x.1,u)).insertIdx (K+1) m) (l.set K (x.1,u)):=by
   refine(cK.eq_2 c key item d ((p,l):Nat×List (ByteArray×T d))).trans ?_;simp only[Z,H]
   rfl
  rw[a7];rcases hr:cK c x.2 key item with⟨c1,u,r⟩
  rw[hr]at Q iw;have a8:eW c1 p:=Q.fr.GD G.1.1 a6;have a9:u.pg=x.2.pg:=Q.b_;have b0:=Q.more;have V:K<(l.map aH).length:=by rw[aiv];exact q
  have S:(l.map aH)[K]=aH x:=by rw[List.getElem_map,a3]
  have z:(l.set K (x.1,u)).map aH=l.map aH:=by
   rw[aiW];have:aH (x.1,u)=aH x:=by
     unfold aH;rw[a9]
   rw[this,<-S,List.set_getElem_self]
  have b:=O3 h I B (p:=p) (l:=l.map aH) G.1 s.1.2.2 s.1.2.1 key item (K:=K) (by rw[wR];exact Z) V (c1:=c1) (o:=GL r) a8 (fun m hm=>by
   rcases r with _|_|U
   · cases hm
   · cases hm
   · obtain rfl:aH U=m:=by
       have h1:some (some (aH U))=some (some m):=hm;simpa using h1
     obtain⟨q1,q2,q3,_,_⟩:=b0 U rfl;have:=T.cx q1 _ (T.ei U.2);exact⟨q3,by show(0:Nat)<=100;omega,this.2.1,fun e=>(by cases e),fun _=>rfl⟩) (by
   rw[S];exact iw)
  rcases r with _|_|m
  ·exact b
  ·have e2:ou c1 p (l.map aH) K (GL (d:=d) (some none))=df false c1 p ((l.set K (x.1,u)).map aH):=by rw[z];rfl
   rw[e2,sW (en:=aH (d:=d)) (fun _=>rfl) false c1 p (l.set K (x.1,u)) (l.set K (x.1,u))]at b;exact b
  ·have e2:ou c1 p (l.map aH) K (GL (some (some m)))=df false c1 p (((l.set K (x.1,u)).insertIdx (K+1) m).map aH):=by rw[jS,z];rfl
   rw[e2,sW (en:=aH (d:=d)) (fun _=>rfl) false c1 p ((l.set K (x.1,u)).insertIdx (K+1) m) (l.set K (x.1,u))]at b;exact b
end
structure BC(w:World)(FT FF FM FO FW TP:Nat)(from_:ByteArray):Prop where
 ft:w.cell? ⟨FT,0,none⟩=some (.pointer (some ⟨TP,0,none⟩))
 ff:w.cell? ⟨FF,0,none⟩=some (.string from_)
 fm:w.cell? ⟨FM,0,none⟩=some (.int .i64 (-1))
 fw:w.cell? ⟨FW,0,none⟩=some (.func (.func 168) #[] #[.pointer (some ⟨FT,0,none⟩),.pointer (some ⟨FF,0,none⟩),.pointer (some ⟨FM,0,none⟩),.pointer (some ⟨FO,0,none⟩),.pointer (some ⟨FW,0,none⟩)])
 ne:FO≠FT/\FO≠FF/\FO≠FM/\FO≠FW
theorem BC.aC{S:Nat->Prop}{w w':World}{b q y B z TP:Nat}{s:ByteArray}(h:BC w b q y B z TP s)(g:ag S w w')(D:¬S b)(G:¬S q)(H:¬S y)(I:¬S z):BC w' b q y B z TP s:=
 ⟨g.keeps D h.ft,g.keeps G h.ff,g.keeps H h.fm,g.keeps I h.fw,h.ne⟩
theorem BC.gr{w w':World}{b q y z B TP:Nat}{s:ByteArray}(h:BC w b q y z B TP s)(g:Gr w w'):BC w' b q y z B TP s:=⟨g.keeps h.ft,g.keeps h.ff,g.keeps h.fm,g.keeps h.fw,h.ne⟩
structure pw(n:Nat)(w:World)(FO:Nat)(v:Value)(out:List cM):Prop where
 c:w.cell? ⟨FO,0,none⟩=some v
 f:w.frozen? ⟨FO,0,none⟩=false
 o:fS n w v out
theorem pw.gr{n:Nat}{w w':World}{b:Nat}{v:Value}{out:List cM}(h:pw n w b v out)(g:Gr w w'):pw n w' b v out:=⟨g.keeps h.c,(g.frozen 0 (ad h.c)).trans h.f,h.o.gr g⟩
def LM(n:Nat)(w w':World)(q:Nat)(v:Value)(out:List cM):Prop:=∃s,pw n w' q s out/\ag (fun b=>b=q\/v.ownBlock=some b) w w'/\oj v s w
theorem ag.Nq{S T:Nat->Prop}{w b q:World}(h:ag S w b)(k:ag T b q)(y:∀j,T j->S j\/w.heap.size<=j):ag S w q:=
 ⟨k.1.trans h.1,k.2.1.trans h.2.1,k.2.2.1.trans h.2.2.1,aiu h.2.2.2.1 k.2.2.2.1,fun j s hs=>(k.block (aiq s h.2.2.2.1) (fun e=>(y j e).elim hs fun e=>by omega)).trans (h.block s hs)⟩
def rq(e:En):cM:=(e.key,e.item)
section
variable{w:World}{PB DB M:Nat}{c:Ch}{sv:Head}{t:Int}{d:Dk}
theorem LN(h:bF w PB DB M c sv t d){TP root:Nat}(ht:bc w TP PB root){p:Nat}{l:List En}(hp:gO c d.pg true p l)(i0:∀e∈l,e.ok true)(z:ah true l<=1024){FT FF FM q FW:Nat}{s:ByteArray}(hw:BC w FT FF FM q FW TP s)
  {n:Nat} {v:Value} {out:List cM} (ho:pw n w q v out) (hn:FT<n/\FF<n/\FM<n/\q<n/\FW<n) (m7:n<=w.heap.size) (l3:out.length+600<=100000000):
  Calls ais 168 #[.int .i64 (p:Int),.pointer (some ⟨FT,0,none⟩),.pointer (some ⟨FF,0,none⟩),.pointer (some ⟨FM,0,none⟩),.pointer (some ⟨q,0,none⟩),.pointer (some ⟨FW,0,none⟩)] w fun e w'=>e=.returned .nilIface/\LM n w w' q v (out++(l.drop (ai (aD l) s)).map rq):=by
 have c7:=lQ h.s ht hp i0 z;obtain⟨K,hK⟩:∃K,ai (aD l) s=K:=⟨_,rfl⟩;have m8:K<=l.length:=by
  have:=jg (aD l) s;have h2:(aD l).length=l.length:=by unfold aD;rw[aiv]
  omega
 have hl:l.length<=600:=by
  have:=dC true l;unfold ah at z;omega
 rw[hK];obtain⟨RR,b8⟩:∃RR,out++(l.drop K).map rq=RR:=⟨_,rfl⟩;rw[b8];have d0:=ain b8;clear b8;have ft:=hw.ft;have ff:=hw.ff;have Q:=hw.fm;have I:=ho.c;have i1:=ain c7;have HW:=ain hw;have HO:=ain ho;clear c7;go_enter Tryz.func168,Tryz.ntmps168;go_wp2_with fail
 refine i1.out.mono ?_;rintro e J ⟨s',rfl,a1,O⟩;obtain⟨ao,ca,rfl⟩:=a1.form;have b9:=fun W (g:Gr J W)=>pj p true l (.slice ao l.length ca) s W (a1.qn.gr g) (by omega);simp only[if_true,hK]at b9;unfold aU at*;have i2:=ain b9;clear b9;replace ft:=O.keeps ft;replace ff:=O.keeps ff;replace Q:=O.keeps Q;replace I:=O.keeps I;have D:Gr J (J.alloc (.cells #[.int .i64 (p:Int),.bool true,.slice ao l.length ca] 200)):=(Gr.refl J).alloc _;replace ft:=D.keeps ft;replace ff:=D.keeps ff;replace Q:=D.keeps Q;replace I:=D.keeps I;have k0:(J.alloc (.cells #[.int .i64 (p:Int),.bool true,.slice ao l.length ca] 200)).cell? ⟨J.heap.size,0,none⟩=some (.int .i64 (p:Int)):=by rw[aim];rfl
 have k1:(J.alloc (.cells #[.int .i64 (p:Int),.bool true,.slice ao l.length ca] 200)).cell? ⟨J.heap.size,1,none⟩=some (.bool true):=by rw[aim];rfl
 have k2:(J.alloc (.cells #[.int .i64 (p:Int),.bool true,.slice ao l.length ca] 200)).cell? ⟨J.heap.size,2,none⟩=some (.slice ao l.length ca):=by rw[aim];rfl
 go_wp2_with fail
 obtain⟨NB,c0⟩:∃NB,J.heap.size=NB:=⟨_,rfl⟩;rw[c0]at k0 k1 k2⊢;refine(i2.out _ D).mono ?_;rintro e U ⟨rfl,y⟩;replace ft:=y.keeps ft;replace ff:=y.keeps ff;replace Q:=y.keeps Q;replace I:=y.keeps I;replace k0:=y.keeps k0;replace k1:=y.keeps k1;replace k2:=y.keeps k2;have m9:(K:Int)<=(l.length:Int):=by omega
 have d3:w.heap.size<=NB:=by
  rw[<-c0];exact O.size
 have c1:=(O.trans D).trans y;have i3:Hid (∃V,pw n U q V (out++((l.drop K).take 0).map rq)/\ag (fun b=>b=q\/v.ownBlock=some b) U U/\oj v V U):=ain ⟨v,by
  rw[aiP,aiG,aiO];exact HO.out.gr c1,ag.refl _ _,fun b z=>.inl z⟩
 have Y:=ain c1;have HK:=ain hK;have d4:=a1.gr (D.trans y);have n1:=ain d4;have i4:=ain d3;clear c1 hK d4 d3 c0;rcases Nat.lt_or_ge K l.length with Z|Z
 ·rcases a1.at' with⟨_,e2⟩|⟨B,cap,e3,h2,h3,h4,h5,h6⟩
  ·rw[e2]at Z;exact absurd Z (by simp)
  obtain⟨rfl,rfl⟩:ao=some ⟨B,0,none⟩/\ca=cap:=by
   injection e3 with e1 e2 e3
   exact⟨e1,e3⟩
  have n2:¬ca=K:=by omega
  have H5:=ain (h5.gr (D.trans y));have n3:n<=B:=by omega
  have d6:∀b,v.ownBlock=some b->b<w.heap.size:=fun b z=>Jb HO.out.o b z;have i5:=ain d6;clear h5 h6 d6 e3;go_wp2_with fail
  have l4:B<U.heap.size:=by
   have:=D.size;have:=y.size;omega
  have hm:((l.length-K:Nat):Int)=((l.length-K:Nat):Int):=rfl;go_loopw [35] (fun iv w'=>∃(i:Nat),i<=l.length-K/\iv=.int .i64 i/\∃V,pw n w' q V (out++((l.drop K).take i).map rq)/\ag (fun b=>b=q\/v.ownBlock=some b) U w'/\oj v V U) (fun iv _=>l.length-K-(aiC iv).toNat)
  case atStart=>exact⟨0,aiY _,rfl,i3.out⟩
  case round=>
   obtain⟨i,hi,rfl,V,hO,hG,hT⟩:=hrel;by_cases i6:i<l.length-K
   ·have g0:(i:Int)<((l.length-K:Nat):Int):=by omega
    have hS:∀j,(j<n/\j≠q)\/w.heap.size<=j->¬(j=q\/v.ownBlock=some j):=fun j hj e=>by
     rcases e with e|e
     ·omega
     ·have h8:=i5.out j e;have h9:=wO HO.out.o j e;omega
    have d8:=HW.out.ne;replace Q:=hG.keeps (hS FM (.inl ⟨hn.2.2.1,fun e=>d8.2.2.1 e.symm⟩)) Q;replace k1:=hG.keeps (hS NB (.inr i4.out)) k1;obtain⟨b0,b1,b2⟩:=(H5.out.aC hG (hS B (.inr h3))) (K+i) (by omega);rw[show 0+(K+i)*3=K*3+i*3 by omega]at b0 b1 b2;replace I:=hO.c;have c2:=hO.f;have i7:Hid ((l.drop K).take (i+1)=(l.drop K).take i++[l[K+i]]):=ain (by
     rw[List.take_succ_eq_append_getElem (by rw[aip];exact i6),aiH])
    generalize l[K+i]=en at*;obtain⟨L,it,G⟩:=en;have a2:=ain hO;have HG:=ain hG;have HT:=ain hT;have HS:=ain hS;clear hO hG hT hS d8 hm;have H:Gr wr (wr.alloc (.cells #[.string L,.string it,.int .i64 (G:Int)] 206)):=(Gr.refl wr).alloc _;replace Q:=H.keeps Q;replace k1:=H.keeps k1;replace I:=H.keeps I;replace c2:=(H.frozen 0 (ad a2.out.c)).trans c2;have e0:(wr.alloc (.cells #[.string L,.string it,.int .i64 (G:Int)] 206)).cell? ⟨wr.heap.size,0,none⟩=some (.string L):=by rw[aim];rfl
    have e1:(wr.alloc (.cells #[.string L,.string it,.int .i64 (G:Int)] 206)).cell? ⟨wr.heap.size,1,none⟩=some (.string it):=by rw[aim];rfl
    have e2:(wr.alloc (.cells #[.string L,.string it,.int .i64 (G:Int)] 206)).cell? ⟨wr.heap.size,2,none⟩=some (.int .i64 (G:Int)):=by rw[aim];rfl
    obtain⟨P0,a4⟩:∃P0,out++((l.drop K).take i).map rq=P0:=⟨_,rfl⟩;have i9:P0.length<=100000000:=by
     rw[<-a4,aiF,aiv,ait,aip];omega
    rw[a4]at a2;obtain⟨P1,d9⟩:∃P1,P0++[(L,it)]=P1:=⟨_,rfl⟩;have j0:=ain a4;have e4:=ain d9;clear a4 d9;have j1:=ain ((a2.out.gr H).o);have j2:n<=(wr.alloc (.cells #[.string L,.string it,.int .i64 (G:Int)] 206)).heap.size:=by
     have h7:=Y.out.size;have h8:=HG.out.2.2.2.1;have h9:=H.size;omega
    have l5:q<n:=hn.2.2.2.1;have e5:¬V.ownBlock=some q:=fun e=>by
     have:=wO a2.out.o q e;omega
    go_wp2_with(at_builtin;(refine GJ (n:=n) (w:=wr.alloc (.cells #[.string L,.string it,.int .i64 (G:Int)] 206)) rfl _ _ rfl V P0 (L,it) rfl j1.out (wr.heap.size+1) (by simp) rfl i9 j2 ?_);intro v3 w3 a5 a6 e6;rw[e4.out]at a5;(have j3:=a6.keeps e5 I);(have j4:w3.frozen? ⟨q,0,none⟩=false:=(a6.frozen 0 (ad I) e5).trans c2);(obtain⟨a3,c3,rfl⟩:=a5.form);(have e7:=ain a5);(have j5:=ain a6);(have j6:=ain e6);clear a5 a6 e6)
    have j7:rq ⟨L,it,G⟩=(L,it):=rfl;have j8:out++((l.drop K).take (i+1)).map rq=P1:=by
     rw[i7.out,List.map_append,List.map_singleton,j7,<-aiI,j0.out];exact e4.out
    have gS:ag (fun b=>b=q) w3 (w3.setCell ⟨q,0,none⟩ (.slice a3 P1.length c3)):=ag.setCell (S:=fun b=>b=q) (p:=⟨q,0,none⟩) w3 _ rfl;have j9:∀b,(aiw a3 P1.length c3).ownBlock=some b->¬b=q:=fun b z e=>by
     have:=wO e7.out b z;omega
    have k3:ag (fun b=>b=q\/v.ownBlock=some b) U (w3.setCell ⟨q,0,none⟩ (.slice a3 P1.length c3)):=by
     refine ag.Nq (ag.Nq HG.out ((ag.ak H).trans j5.out) (fun j e=>?_)) gS (fun j e=>.inl (.inl e));rcases HT.out j e with e|e
     ·exact .inl (.inr e)
     ·exact .inr e
    refine⟨⟨i+1,by omega,by go_num,_,⟨air w3 ⟨q,0,none⟩ _ j3,by simpa using j4,?_⟩,k3,fun b z=>?_⟩,by simp[aiC];omega⟩
    ·rw[j8];exact e7.out.aC gS j9
    ·rcases j6.out with e|⟨b',e,h9⟩
     ·rw[e]at z;exact HT.out b z
     ·rw[e]at z;have h8:=HG.out.2.2.2.1;have h7:=H.size;have:=aiN z;exact .inr (by omega)
   ·have g0:¬(i:Int)<((l.length-K:Nat):Int):=by omega
    have e8:(l.drop K).take i=l.drop K:=aiy (by rw[aip];omega);rw[e8]at hO;have HR:Hid (LM n w wr q v RR):=ain ⟨V,by rw[<-d0.out];exact hO,(ag.ak Y.out).trans hG,fun b z=>by
     rcases hT b z with e|e
     ·exact .inl e
     ·exact .inr (aiu Y.out.size e)⟩
    clear hO hG hT e8 hm;go_wp2_with fail
    go_ret;exact⟨rfl,HR.out⟩
 ·have k4:l.length=K:=by omega
  have e9:l.drop K=[]:=List.drop_eq_nil_of_le (by omega);have HR:Hid (LM n w U q v RR):=ain (by
   rw[<-d0.out,e9,aiG,aiO];exact⟨v,HO.out.gr Y.out,ag.ak Y.out,fun b z=>.inl z⟩)
  have hz:l.length-K=0:=by omega
  clear k4 e9;go_wp2_with fail
  all_goals
   go_loopw [35] (fun iv w'=>iv=.int .i64 0/\w'=U) (fun _ _=>0)
   case atStart=>exact⟨rfl,rfl⟩
   case round=>
    obtain⟨rfl,rfl⟩:=hrel;go_wp2_with fail
    go_ret;exact⟨rfl,HR.out⟩
end
