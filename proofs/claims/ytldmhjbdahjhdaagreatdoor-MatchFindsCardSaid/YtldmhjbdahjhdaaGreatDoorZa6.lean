/-
  Part 6 of the proof.
-/
import Derived.Test.YtldmhjbdahjhdaaGreatDoorZa5
import Derived.Laws.EntriesVeiled
open Go.Proofs.Tryz
open Prod renaming fst->ae,snd->cf
open List renaming mem_singleton->ak,length_map->aJ,flatMap_cons->aQ,mem_cons_of_mem->aS,mem_cons->aU,mem_cons_self->aV,flatMap_append->aX,mem_append->bc,getElem?_append_right->be,mem_flatMap->bh,length_append->bt,map_append->bu,take_append_drop->bv,mem_append_right->bz,getElem?_eq_getElem->bA,append_assoc->bB,append_nil->bC,length_drop->bF,mem_append_left->bM,nodup_cons->bP,drop_eq_getElem_cons->bQ,nodup_append->bW,take_succ_eq_append_getElem->bX,map_cons->bZ,mem_map_of_mem->b_,mem_map->cg,getD_eq_getElem?_getD->cj,length_take->co,pairwise_iff_getElem->cs,getElem_of_mem->cD,mem_filter->cF,getElem_drop->cL,drop_eq_nil_of_le->cO,length_singleton->cW,singleton_append->da,length_cons->de,flatMap_def->dg,cons_append->dh,mem_of_getElem?->dr,pairwise_append->dA,map_eq_nil_iff->dD,filter_append->dJ,find?_eq_none->dQ,length_erase_of_mem->dS,map_drop->dT,getElem_map->dU,getElem?_cons_succ->dZ,take_of_length_le->eh,mem_of_mem_drop->es,map_take->ez,pairwise_cons->eH,map_map->eT,find?_append->fe,getElem_mem->fl,sum_append->fI,take_zero->fK,drop_drop->fM,drop_left->fT,sum_cons->gc,map_set->gs,map_nil->gw
open Go.World renaming cell?_alloc_new->ap
open Go.Lib renaming hid->az,compareBytes->bj
open Nat renaming le_refl->bT,le_trans->cl,lt_of_lt_of_le->cK,sub_self->dF,lt_or_ge->ea,eq_or_lt_of_le->eB,zero_le->fy,not_lt_zero->fA,zero_add->gf
open Go renaming World->ch,Value->ek,Calls->em,TypeId->iu
open Go.Value renaming slice->di,tuple->hI
open Go.RowKit renaming intOf->eb
open UInt8 renaming not_lt->ej,le_antisymm->eY,lt_trans->fS
open Option.some renaming inj->el
open List.Sublist renaming append->ew,refl->eV
open Bool renaming false_eq_true->eA,and_eq_true->fn
open List.Pairwise renaming sublist->he
open Option renaming map->ib
open Go.IntWalk renaming i64_in->ik
open Go.IntKind renaming i64->iF
set_option maxRecDepth 100000
set_option maxHeartbeats 100000000
set_option linter.all false
namespace Go.Proofs.YtldmhjbdahjhdaaGreatDoor
section
open Go Go.RowKit
def Gh(w:ch)(n:Nat):ch:={w with heap:=w.heap.extract 0 n}
theorem mw{w:ch}{n:Nat}(h:n<=w.heap.size):(Gh w n).heap.size=n:=by
 unfold Gh;simp;omega
theorem KC{w:ch}{n:Nat}(h:n<=w.heap.size):Gr (Gh w n) w:=by
 refine⟨rfl,rfl,rfl,by rw[mw h];exact h,fun k b=>?_⟩;rw[mw h]at b;unfold Gh;show _=(w.heap.extract 0 n)[k]?;rw[Array.getElem?_extract,if_pos (by omega),gf]
theorem ba.base{a0 b w:ch}{v:ek}{l:List En}(h:ba a0 w v l)(e:b.heap.size=a0.heap.size):ba b w v l:=by
 unfold ba;rw[e];exact h
theorem QA(a0 w:ch)(v:ek)(l:List En)(k s:Nat)(e:En)(h:ba a0 w v l)(D:k<=l.length)(y:a0.heap.size<=w.heap.size)(G:l.length<=10000)(hv:qg w s e)(z:v.ownBlock≠some s):
  em prog 253 #[v,.int .i64 k,.slice (some ⟨s,0,none⟩) 1 1] w fun ex B=>
   ∃q,ex=.returned q/\ba a0 B q (l.insertIdx k e)/\ag (fun b=>v.ownBlock=some b) w B/\oY v q w:=
 (FQ (Gh w a0.heap.size) w v l k s e (h.base (mw y)) D (KC y) G hv z).mono fun _ _ ⟨q,H,I,_,J,L⟩=>⟨q,H,I.base (mw y).symm,J,L⟩
theorem zj(a0 w:ch)(v:ek)(l:List En)(k:Nat)(h:ba a0 w v l)(z:k<l.length)(s:a0.heap.size<=w.heap.size)(B:l.length<=10000):
  em prog 255 #[v,.int .i64 k,.int .i64 ((k:Int)+1)] w fun ex y=>
   ∃q,ex=.returned q/\ba a0 y q (l.eraseIdx k)/\ag (fun b=>v.ownBlock=some b) w y/\q.ownBlock=v.ownBlock:=
 (Qk (Gh w a0.heap.size) w v l k (h.base (mw s)) z (KC s) B).mono fun _ _ ⟨q,D,G,_,H,I⟩=>⟨q,D,G.base (mw s).symm,H,I⟩
theorem bH.ay{S:Nat->Prop}{w w':ch}{TP PB root:Nat}(h:bH w TP PB root)(g:ag S w w')(hs:¬S TP):bH w' TP PB root:=⟨g.keeps hs h.p,g.keeps hs h.r⟩
def ph(c1:Ch)(p:Nat)(l:List En)(K:Nat):Option (Option En)->Ch×Option (Option En)
 |none=>(c1,none)
 |some none=>dK false c1 p l
 |some (some m)=>dK false c1 p (l.insertIdx (K+1) m)
section
variable{w:ch}{PB DB M:Nat}{c:Ch}{sv:Head}{t:Int}{d:Dk}
theorem QB(h:cG w PB DB M c sv t d){TP root:Nat}(ht:bH w TP PB root)(a0:TP≠PB/\TP≠DB/\TP≠M){p:Nat}{l:List En}(hp:iy c d.pg false p l)(c9:∀e∈l,e.ok false)(hb:aj false l<=1024)(key item:ByteArray)
  {K:Nat} (hK:aL (aH l) key=K) (d0:K<l.length) {c1:Ch} {o:Option (Option En)} (d8:fE c1 p) (ho:∀m,o=some (some m)->m.ok false)
  (L:∀W,Gr w W->em prog 201 #[.pointer (some ⟨TP,0,none⟩),.int .i64 (l[K].cU:Int),.agg #[.string key,.string item,.int .i64 0]] W fun e U=>∃v,e=.returned v/\iY W U v o/\cG U PB DB M c1 sv t d/\aY PB DB M M W U):
  em prog 201 #[.pointer (some ⟨TP,0,none⟩),.int .i64 (p:Int),.agg #[.string key,.string item,.int .i64 0]] w fun e U=>∃v,e=.returned v/\iY w U v (ph c1 p l K o).2/\cG U PB DB M (ph c1 p l K o).1 sv t d/\aY PB DB M M w U:=by
 have Y:=fun W (g:Gr w W)=>mP (h.gr g).s (ht.gr g) hp c9 hb;have i9:=az Y;clear Y;have h8:=az L;clear L;go_enter func201,ntmps201;go_wp2_with fail
 have d9:Gr w (w.alloc (.cells #[.string key,.string item,.int .i64 0] 206)):=(Gr.refl w).alloc _;have Y:=i9.out _ d9;have f0:(w.alloc (.cells #[.string key,.string item,.int .i64 0] 206)).cell? ⟨w.heap.size,0,none⟩=some (.string key):=by rw[ap];rfl
 have f1:(w.alloc (.cells #[.string key,.string item,.int .i64 0] 206)).cell? ⟨w.heap.size,1,none⟩=some (.string item):=by rw[ap];rfl
 have f2:(w.alloc (.cells #[.string key,.string item,.int .i64 0] 206)).cell? ⟨w.heap.size,2,none⟩=some (.int .i64 0):=by rw[ap];rfl
 have a2:=az d9;have c2:Hid (w.heap.size<(w.alloc (.cells #[.string key,.string item,.int .i64 0] 206)).heap.size):=az (by simp);obtain⟨V,b5⟩:∃V,w.alloc (.cells #[.string key,.string item,.int .i64 0] 206)=V:=⟨_,rfl⟩;rw[b5]at Y f0 f1 f2 a2 c2⊢;clear b5;have j3:∃EB,w.heap.size=EB:=⟨_,rfl⟩;obtain⟨EB,e0⟩:=j3;rw[e0]at f0 f1 f2⊢;have n3:(aH l).length=l.length:=by unfold aH;rw[aJ]
 refine Y.mono ?_;rintro e O ⟨s',rfl,a3,H⟩;obtain⟨ao,Q,rfl⟩:=a3.form;have hl:l.length<=600:=by
  have:=d_ false l;unfold aj at hb;omega
 have d1:=fun W (g:Gr O W)=>qh p false l (.slice ao l.length Q) key W (a3.qW.gr g) (by omega);simp only[eA,if_false]at d1;have a4:Gr O (O.alloc (.cells #[.int .i64 (p:Int),.bool false,.slice ao l.length Q] 200)):=(Gr.refl O).alloc _;unfold bi at*;have e4:=az d1;have f0:=H.keeps f0;have f1:=H.keeps f1;have f2:=H.keeps f2;have f0:=a4.keeps f0;have f1:=a4.keeps f1;have f2:=a4.keeps f2;have k0:(O.alloc (.cells #[.int .i64 (p:Int),.bool false,.slice ao l.length Q] 200)).cell? ⟨O.heap.size,0,none⟩=some (.int .i64 (p:Int)):=by rw[ap];rfl
 have k1:(O.alloc (.cells #[.int .i64 (p:Int),.bool false,.slice ao l.length Q] 200)).cell? ⟨O.heap.size,1,none⟩=some (.bool false):=by rw[ap];rfl
 have k2:(O.alloc (.cells #[.int .i64 (p:Int),.bool false,.slice ao l.length Q] 200)).cell? ⟨O.heap.size,2,none⟩=some (.slice ao l.length Q):=by rw[ap];rfl
 have kf:∀o,(O.alloc (.cells #[.int .i64 (p:Int),.bool false,.slice ao l.length Q] 200)).frozen? ⟨O.heap.size,o,none⟩=false:=fun o=>by simp
 clear Y d1;go_wp2_with fail
 obtain⟨G,d2⟩:∃G,O.heap.size=G:=⟨_,rfl⟩;have n4:EB<G:=by
  rw[<-d2];exact cK (by rw[<-e0];exact c2.out) H.size
 rw[d2]at k0 k1 k2 kf⊢;rw[hK]at e4;generalize dR (aH l) key=hit at*;rcases a3.at' with⟨_,e2⟩|⟨B,cap,e3,h2,h3,h4,h5,h6⟩
 ·rw[e2]at d0;exact absurd d0 (by simp)
 obtain⟨rfl,rfl⟩:ao=some ⟨B,0,none⟩/\Q=cap:=by
  injection e3 with e1 e2 e3
  exact⟨e1,e3⟩
 refine(e4.out _ a4).mono ?_;rintro e w2 ⟨rfl,I⟩;have b6:=a4.trans I;have f0:=I.keeps f0;have f1:=I.keeps f1;have f2:=I.keeps f2;have k0:=I.keeps k0;have k1:=I.keeps k1;have k2:=I.keeps k2;have d3:=a3.gr b6;have n5:(K:Int)<(l.length:Int):=by omega
 obtain⟨_,_,b2⟩:=(h5.gr b6) K d0;rw[gf]at b2;have d4:=(a2.out.trans H).trans b6;go_wp2_with fail
 have L:=h8.out _ d4.drew;generalize(l[K].cU:Int)=pgi at*;have j4:=az L;have n6:=az hK;clear L hK;go_cut [11,12] (fun j5 j6 wx=>∃x y,j5=x/\j6=y/\iY w2 wx (.tuple #[x,y]) o/\cG wx PB DB M c1 sv t d/\aY PB DB M M w2 wx)
 case first=>
  go_region_with(go_at_call 201;refine j4.out.mono ?_;rintro e w3 ⟨v,rfl,hm,a6,z⟩;obtain⟨v1,v2,rfl⟩:=hm.form)
  all_goals
   go_wp2_with fail
   go_meet
   exact⟨_,_,rfl,rfl,hm.mono (bT _),a6,(aY.ah PB DB M (Gr.refl w2).drew).trans z⟩
 case rest=>
  obtain⟨x,y,rfl,rfl,hm,a6,z⟩:=hcut;have b1:G<w2.heap.size:=ad k0;have q:G≠PB/\G≠DB/\G≠M:=by
   have:=h.lt;have:=a2.out.size;have:=H.size;omega
  have k0:=z.keeps q.1 q.2.1 q.2.2 k0;have k1:=z.keeps q.1 q.2.1 q.2.2 k1;have k2:=z.keeps q.1 q.2.1 q.2.2 k2;have e6:PB<V.heap.size/\DB<V.heap.size/\M<V.heap.size:=by
   have:=h.lt;have:=a2.out.size;omega
  have j7:wc.frozen? ⟨G,2,none⟩=false:=by
   rw[z.2.frozen 2 b1 (fun e=>e.elim q.1 fun e=>e.elim q.2.1 q.2.2),I.frozen 2 (by rw[<-d2];simp)];exact kf 2
  have j8:∀b,(di (some ⟨B,0,none⟩) l.length Q).ownBlock=some b->¬(b=PB\/b=DB\/b=M):=fun b hb e=>by
   have:=aP d3 b hb;omega
  have d5:=d3.ay z.2 j8;have F3:=(aY.ah PB DB M d4).trans z;have T3:bH wc TP PB root:=(ht.gr d4).pg z a0.1 a0.2.1 a0.2.2;have HO:=az ho;clear ho;rcases o with _|_|m
  ·have D:(hI #[u11,u12])=.tuple #[.pointer none,eJ 12]:=hm;injection D with D
   obtain⟨rfl,rfl⟩:u11=.pointer none/\u12=eJ 12:=by simpa using D
   have j9:eJ 12=.iface 24 (.int .i64 12):=rfl;rw[j9];go_wp2_with fail
   go_ret2;exact⟨_,rfl,rfl,a6,F3⟩
  ·have D:(hI #[u11,u12])=.tuple #[.pointer none,.nilIface]:=hm;injection D with D
   obtain⟨rfl,rfl⟩:u11=.pointer none/\u12=.nilIface:=by simpa using D
   have d6:=xX a6 T3 a0 d5 e6 c9 (by omega) d8;unfold bi at d6;have k3:=az d6;clear d6;go_wp2_with(refine k3.out.mono ?_;rintro e w4 ⟨v,rfl,e8,k4,k5⟩;obtain⟨v1,v2,rfl⟩:=e8.form)
   go_ret2;exact⟨_,rfl,e8.mono F3.size,k4,F3.trans k5⟩
  obtain⟨EC,D,n7,y0,y1,y2⟩:=hm;injection D with D
  obtain⟨rfl,rfl⟩:u11=.pointer (some ⟨EC,0,none⟩)/\u12=.nilIface:=by simpa using D
  go_wp2_with fail
  have e9:=HO.out m rfl;have J:Gr wc (wc.alloc (.cells #[.string m.key,.string m.item,.int .i64 (m.cU:Int)] 206)):=(Gr.refl wc).alloc _;have g0:qg (wc.alloc (.cells #[.string m.key,.string m.item,.int .i64 (m.cU:Int)] 206)).drew wc.heap.size m:=⟨by show(wc.heap.push _)[wc.heap.size]?=_;rw[Array.getElem?_push_size];rfl⟩;have b5:V.heap.size<=(wc.alloc (.cells #[.string m.key,.string m.item,.int .i64 (m.cU:Int)] 206)).drew.heap.size:=by
   have:=H.size;have:=b6.size;have:=z.size;have:=J.drew.size;omega
  have d7:=QA V _ _ l (K+1) wc.heap.size m (d5.gr J.drew) (by omega) b5 (by omega) g0 (fun e=>by have:=bd d5 _ e;omega);have g3:((K+1:Nat):Int)=(K:Int)+1:=by omega
  rw[g3]at d7;have k6:=az d7;have j0:=J.keeps k0;have j1:=J.keeps k1;have j2:=J.keeps k2;have jf:(wc.alloc (.cells #[.string m.key,.string m.item,.int .i64 (m.cU:Int)] 206)).frozen? ⟨G,2,none⟩=false:=(J.frozen 2 (ad k0)).trans j7;have a7:=az J;have a8:¬((di (some ⟨B,0,none⟩) l.length Q).ownBlock=some G):=fun e=>by
   have:=bd a3 _ e;omega
  clear d7 g3 J g0;have n8:iF.wrap ((K:Int)+1)=(K:Int)+1:=ik _ (by omega);have g4:=T3.gr a7.out.drew;have g5:=a6.gr a7.out.drew;have g6:=F3.trans (aY.ah PB DB M a7.out.drew);have n9:w.heap.size<=V.heap.size:=a2.out.size;have l7:=ad ht.p;have o0:V.heap.size<=G:=by
   have:=H.size;omega
  have Z:∀b,(di (some ⟨B,0,none⟩) l.length Q).ownBlock=some b->V.heap.size<=b:=fun b hb=>aP d3 b hb;have o1:G<(wc.alloc (.cells #[.string m.key,.string m.item,.int .i64 (m.cU:Int)] 206)).drew.heap.size:=cK b1 (cl z.size a7.out.size);have c7:=Av (k:=K+1) c9 e9;have g7:aj false (l.insertIdx (K+1) m)<=1400:=by
   have:=oh (leaf:=false) (y:=m) l (K+1);have h9:m.sz false<=162:=En.oV e9;unfold aj at hb⊢;omega
  have g8:Hid (ph c1 p l K (some (some m))=dK false c1 p (l.insertIdx (K+1) m)):=rfl;generalize l.insertIdx (K+1) m=R at*;have c8:∀w5 a5 c5,ba V w5 (.slice a5 R.length c5) R->ag (fun b=>(di (some ⟨B,0,none⟩) l.length Q).ownBlock=some b) (wc.alloc (.cells #[.string m.key,.string m.item,.int .i64 (m.cU:Int)] 206)).drew w5->oY (di (some ⟨B,0,none⟩) l.length Q) (.slice a5 R.length c5) (wc.alloc (.cells #[.string m.key,.string m.item,.int .i64 (m.cU:Int)] 206)).drew->
    em prog 254 #[.pointer (some ⟨TP,0,none⟩),.agg #[.int .i64 (p:Int),.bool false,.slice a5 R.length c5]] (w5.setCell ⟨G,2,none⟩ (.slice a5 R.length c5)) fun e U=>∃v1 v2,e=.returned (.tuple #[v1,v2])/\iY w U (.tuple #[v1,v2]) (ph c1 p l K (some (some m))).2/\cG U PB DB M (ph c1 p l K (some (some m))).1 sv t d/\aY PB DB M M w U:=by
   intro w5 a5 c5 x1 x2 x3;have gS:ag (fun b=>b=G) w5 (w5.setCell ⟨G,2,none⟩ (.slice a5 R.length c5)):=ag.setCell (S:=fun b=>b=G) (p:=⟨G,2,none⟩) w5 _ rfl;have y1:=x1.ay gS (fun b hb e=>by
    rcases x3 b hb with h1|h1
    ·exact a8 (by rw[h1,e])
    omega)
   have y2:=((g5.ay x2 (fun e=>by have:=Z _ e;omega) (fun e=>by have:=Z _ e;omega) (fun e=>by have:=Z _ e;omega)).ay gS (fun e=>q.1 e.symm) (fun e=>q.2.1 e.symm) (fun e=>q.2.2 e.symm));have y3:=(g4.ay x2 (fun e=>by have:=Z _ e;omega)).ay gS (fun e=>by omega);have y4:=(g6.own x2 (fun j e=>by have:=Z _ e;omega)).own gS (fun j e=>by omega);rw[g8.out];exact(xX y2 y3 a0 y1 e6 c7 g7 d8).mono fun e U ⟨v,z1,z2,z3,z4⟩=>by
    obtain⟨v1,v2,rfl⟩:=z2.form;exact⟨v1,v2,z1,z2.mono y4.size,z3,y4.trans z4⟩
  have k7:=az c8;clear c8 g4 g5 g6 Z c7 g7 g8;go_region_with(go_at_call 253;refine k6.out.mono ?_;rintro e w5 ⟨v5,rfl,h7,b0,k8⟩;obtain⟨a5,c5,rfl⟩:=h7.form;(have q2:=b0.keeps a8 j2);(have qf:w5.frozen? ⟨G,2,none⟩=false:=(b0.frozen 2 (cK b1 (cl z.size a7.out.size)) a8).trans jf);(have q0:=b0.keeps a8 j0);(have q1:=b0.keeps a8 j1))
  all_goals
   go_wp2_with(refine(k7.out _ _ _ h7 b0 k8).mono ?_;rintro e w9 ⟨v1,v2,rfl,z2,z3,z4⟩)
   go_ret2;exact⟨_,rfl,z2,z3,z4⟩
end
def IN{d:Nat}(o:Option (Option (ByteArray×T d))):Option (Option En):=o.map (ib aM)
theorem tW{X:Type}{en:ByteArray×X->En}(b:∀x,(en x).key=x.1)(leaf:Bool)(c:Ch)(p:Nat)(l old:List (ByteArray×X)):
  dK leaf c p (l.map en)=((cz en leaf c p l old).1,(cz en leaf c p l old).2.2.map (ib fun m=>⟨m.1,fJ,m.2.1⟩)):=by
 obtain⟨s,y,z,B⟩:=Qw b leaf c p l old;refine Prod.ext s.symm ?_;show(dK leaf c p (l.map en)).2=_;rcases q:(cz en leaf c p l old).2.2 with _|_|m
 ·exact B q
 ·exact z q
 exact y m q
theorem tX(l:List (ByteArray×ByteArray)):aH (l.map cy)=l.map ae:=by
 unfold aH;rw[eT]
 rfl
theorem xY{d:Nat}(l:List (ByteArray×T d)):aH (l.map aM)=l.map ae:=by
 unfold aH;rw[eT]
 rfl
theorem Vi(l:List (ByteArray×ByteArray))(key item:ByteArray):(eN l key item).map cy=if dR (aH (l.map cy)) key then(l.map cy).set (am (aH (l.map cy)) key) ⟨key,item,0⟩else(l.map cy).insertIdx (am (aH (l.map cy)) key) ⟨key,item,0⟩:=by
 rw[tX];unfold eN
 split
 ·rw[gs]
  rfl
 rw[kF]
 rfl
section
variable{PB DB M:Nat}{sv:Head}{t:Int}{dk:Dk}
theorem Tm{TP root:Nat}(B:TP≠PB/\TP≠DB/\TP≠M)(key item:ByteArray)(Y:key.size<=60)(hi:item.size<=100):∀{d:Nat} {c:Ch} {x:T d} {w:ch},cG w PB DB M c sv t dk->bH w TP PB root->x.lays c dk.pg->x.fC->x.ai.Nodup->
  em prog 201 #[.pointer (some ⟨TP,0,none⟩),.int .i64 (x.pg:Int),.agg #[.string key,.string item,.int .i64 0]] w fun e Z=>∃v,e=.returned v/\iY w Z v (IN (dt c x key item).2.2)/\cG Z PB DB M (dt c x key item).1 sv t dk/\aY PB DB M M w Z
 |0,c,x,w,h,I,G,s,hn=>by
  obtain⟨p,l⟩:Nat×List (ByteArray×ByteArray):=x;have hp:=Qz h I B (p:=p) (l:=l.map cy) G s.2.2 s.2.1 key item Y hi;rw[<-Vi,tW (fun _=>rfl) true c p (eN l key item) l]at hp;have e:dt c (d:=0) (p,l) key item=cz cy true c p (eN l key item) l:=by
   refine(dt.eq_1 c key item ((p,l):Nat×List (ByteArray×ByteArray))).trans ?_
   rfl
  rw[e];exact hp
 |d+1,c,t0,w,h,I,G,s,hn=>by
  obtain⟨p,l⟩:Nat×List (ByteArray×T d):=t0;have a3:l.map ae≠[]:=fun e=>s.1.1 (by
   have:l=[]:=dD.1 e;show l.map aM=[];rw[this]
   rfl)
  have q:=oE a3 key;rw[aJ]at q;obtain⟨K,hK⟩:∃K,aL (l.map ae) key=K:=⟨_,rfl⟩;rw[hK]at q;obtain⟨x,H⟩:∃x,l[K]?=some x:=⟨_,bA q⟩;have a4:l[K]=x:=by
   rw[bA q]at H;exact el H
  have D:x∈l:=dr H;have a5:(p::l.flatMap fun y=>y.2.ai).Nodup:=hn;obtain⟨n1,n2⟩:=bP.1 a5;have J:x.2.lays c dk.pg:=G.2 x D;have L:x.2.fC:=s.2 x D;have O:x.2.ai.Nodup:=by
   obtain⟨l1,l2,a6,_⟩:=mv H;rw[a6,aX,aQ]at n2;exact(bW.1 (bW.1 n2).2.1).1
  have a7:p∉x.2.ai:=fun e=>n1 (bh.2 ⟨x,D,e⟩);have Q:=xU (pg:=dk.pg) Y hi h.f J L O;have iw:=fun W (g:Gr w W)=>Tm B key item Y hi (h.gr g) (I.gr g) J L O;have a8:dt c (d:=d+1) (p,l) key item=match dt c x.2 key item with
   |( c1,u,none)=>(c1,(p,l.set K (x.1,u)),none)
   |( c1,u,some none)=>cz (X:=T d) aM false c1 p (l.set K (x.1,u)) (l.set K (x.1,u))
   |( c1,u,some (some m))=>cz (X:=T d) aM false c1 p ((l.set K (x.1,u)).insertIdx (K+1) m) (l.set K (x.1,u)):=by
   refine(dt.eq_2 c key item d ((p,l):Nat×List (ByteArray×T d))).trans ?_;simp only[hK,H]
   rfl
  rw[a8];rcases hr:dt c x.2 key item with⟨c1,u,r⟩
  rw[hr]at Q iw;have a9:fE c1 p:=Q.fr.IE G.1.1 a7;have b0:u.pg=x.2.pg:=Q.cU;have b1:=Q.more;have V:K<(l.map aM).length:=by rw[aJ];exact q
  have S:(l.map aM)[K]=aM x:=by rw[dU,a4]
  have z:(l.set K (x.1,u)).map aM=l.map aM:=by
   rw[gs];have:aM (x.1,u)=aM x:=by
     unfold aM;rw[b0]
   rw[this,<-S,List.set_getElem_self]
  have b:=QB h I B (p:=p) (l:=l.map aM) G.1 s.1.2.2 s.1.2.1 key item (K:=K) (by rw[xY];exact hK) V (c1:=c1) (o:=IN r) a9 (fun m hm=>by
   rcases r with _|_|U
   · cases hm
   · cases hm
   · obtain rfl:aM U=m:=by
       have h1:some (some (aM U))=some (some m):=hm;simpa using h1
     obtain⟨q1,q2,q3,_,_⟩:=b1 U rfl;have:=T.cY q1 _ (T.eP U.2);exact⟨q3,by show(0:Nat)<=100;omega,this.2.1,fun e=>(by cases e),fun _=>rfl⟩) (by
   rw[S];exact iw)
  rcases r with _|_|m
  ·exact b
  ·have e2:ph c1 p (l.map aM) K (IN (d:=d) (some none))=dK false c1 p ((l.set K (x.1,u)).map aM):=by rw[z];rfl
   rw[e2,tW (en:=aM (d:=d)) (fun _=>rfl) false c1 p (l.set K (x.1,u)) (l.set K (x.1,u))]at b;exact b
  have e2:ph c1 p (l.map aM) K (IN (some (some m)))=dK false c1 p (((l.set K (x.1,u)).insertIdx (K+1) m).map aM):=by rw[kF,z];rfl
  rw[e2,tW (en:=aM (d:=d)) (fun _=>rfl) false c1 p ((l.set K (x.1,u)).insertIdx (K+1) m) (l.set K (x.1,u))]at b;exact b
end
structure CE(w:ch)(FT FF FM FO FW TP:Nat)(from_:ByteArray):Prop where
 ft:w.cell? ⟨FT,0,none⟩=some (.pointer (some ⟨TP,0,none⟩))
 ff:w.cell? ⟨FF,0,none⟩=some (.string from_)
 fm:w.cell? ⟨FM,0,none⟩=some (.int .i64 (-1))
 fw:w.cell? ⟨FW,0,none⟩=some (.func (.func 168) #[] #[.pointer (some ⟨FT,0,none⟩),.pointer (some ⟨FF,0,none⟩),.pointer (some ⟨FM,0,none⟩),.pointer (some ⟨FO,0,none⟩),.pointer (some ⟨FW,0,none⟩)])
 ne:FO≠FT/\FO≠FF/\FO≠FM/\FO≠FW
theorem CE.ay{S:Nat->Prop}{w w':ch}{b q y B z TP:Nat}{s:ByteArray}(h:CE w b q y B z TP s)(g:ag S w w')(D:¬S b)(G:¬S q)(H:¬S y)(I:¬S z):CE w' b q y B z TP s:=
 ⟨g.keeps D h.ft,g.keeps G h.ff,g.keeps H h.fm,g.keeps I h.fw,h.ne⟩
theorem CE.gr{w w':ch}{b q y z B TP:Nat}{s:ByteArray}(h:CE w b q y z B TP s)(g:Gr w w'):CE w' b q y z B TP s:=⟨g.keeps h.ft,g.keeps h.ff,g.keeps h.fm,g.keeps h.fw,h.ne⟩
structure qo(n:Nat)(w:ch)(FO:Nat)(v:ek)(out:List dv):Prop where
 c:w.cell? ⟨FO,0,none⟩=some v
 f:w.frozen? ⟨FO,0,none⟩=false
 o:gL n w v out
theorem qo.gr{n:Nat}{w w':ch}{b:Nat}{v:ek}{out:List dv}(h:qo n w b v out)(g:Gr w w'):qo n w' b v out:=⟨g.keeps h.c,(g.frozen 0 (ad h.c)).trans h.f,h.o.gr g⟩
def M2(n:Nat)(w w':ch)(q:Nat)(v:ek)(out:List dv):Prop:=∃s,qo n w' q s out/\ag (fun b=>b=q\/v.ownBlock=some b) w w'/\oY v s w
theorem ag.Pk{S T:Nat->Prop}{w b q:ch}(h:ag S w b)(k:ag T b q)(y:∀j,T j->S j\/w.heap.size<=j):ag S w q:=
 ⟨k.1.trans h.1,k.2.1.trans h.2.1,k.2.2.1.trans h.2.2.1,cl h.2.2.2.1 k.2.2.2.1,fun j s hs=>(k.block (cK s h.2.2.2.1) (fun e=>(y j e).elim hs fun e=>by omega)).trans (h.block s hs)⟩
def si(e:En):dv:=(e.key,e.item)
section
variable{w:ch}{PB DB M:Nat}{c:Ch}{sv:Head}{t:Int}{d:Dk}
theorem M3(h:cG w PB DB M c sv t d){TP root:Nat}(ht:bH w TP PB root){p:Nat}{l:List En}(hp:iy c d.pg true p l)(i1:∀e∈l,e.ok true)(z:aj true l<=1024){FT FF FM q FW:Nat}{s:ByteArray}(hw:CE w FT FF FM q FW TP s)
  {n:Nat} {v:ek} {out:List dv} (ho:qo n w q v out) (hn:FT<n/\FF<n/\FM<n/\q<n/\FW<n) (m8:n<=w.heap.size) (l4:out.length+600<=100000000):
  em prog 168 #[.int .i64 (p:Int),.pointer (some ⟨FT,0,none⟩),.pointer (some ⟨FF,0,none⟩),.pointer (some ⟨FM,0,none⟩),.pointer (some ⟨q,0,none⟩),.pointer (some ⟨FW,0,none⟩)] w fun e w'=>e=.returned .nilIface/\M2 n w w' q v (out++(l.drop (am (aH l) s)).map si):=by
 have c8:=mP h.s ht hp i1 z;obtain⟨K,hK⟩:∃K,am (aH l) s=K:=⟨_,rfl⟩;have m9:K<=l.length:=by
  have:=jJ (aH l) s;have h2:(aH l).length=l.length:=by unfold aH;rw[aJ]
  omega
 have hl:l.length<=600:=by
  have:=d_ true l;unfold aj at z;omega
 rw[hK];obtain⟨RR,b9⟩:∃RR,out++(l.drop K).map si=RR:=⟨_,rfl⟩;rw[b9];have d1:=az b9;clear b9;have ft:=hw.ft;have ff:=hw.ff;have Q:=hw.fm;have I:=ho.c;have i2:=az c8;have HW:=az hw;have HO:=az ho;clear c8;go_enter func168,ntmps168;go_wp2_with fail
 refine i2.out.mono ?_;rintro e J ⟨s',rfl,a1,O⟩;obtain⟨ao,ca,rfl⟩:=a1.form;have c0:=fun W (g:Gr J W)=>qh p true l (.slice ao l.length ca) s W (a1.qW.gr g) (by omega);simp only[if_true,hK]at c0;unfold bi at*;have i3:=az c0;clear c0;replace ft:=O.keeps ft;replace ff:=O.keeps ff;replace Q:=O.keeps Q;replace I:=O.keeps I;have D:Gr J (J.alloc (.cells #[.int .i64 (p:Int),.bool true,.slice ao l.length ca] 200)):=(Gr.refl J).alloc _;replace ft:=D.keeps ft;replace ff:=D.keeps ff;replace Q:=D.keeps Q;replace I:=D.keeps I;have k0:(J.alloc (.cells #[.int .i64 (p:Int),.bool true,.slice ao l.length ca] 200)).cell? ⟨J.heap.size,0,none⟩=some (.int .i64 (p:Int)):=by rw[ap];rfl
 have k1:(J.alloc (.cells #[.int .i64 (p:Int),.bool true,.slice ao l.length ca] 200)).cell? ⟨J.heap.size,1,none⟩=some (.bool true):=by rw[ap];rfl
 have k2:(J.alloc (.cells #[.int .i64 (p:Int),.bool true,.slice ao l.length ca] 200)).cell? ⟨J.heap.size,2,none⟩=some (.slice ao l.length ca):=by rw[ap];rfl
 go_wp2_with fail
 obtain⟨NB,c1⟩:∃NB,J.heap.size=NB:=⟨_,rfl⟩;rw[c1]at k0 k1 k2⊢;refine(i3.out _ D).mono ?_;rintro e U ⟨rfl,y⟩;replace ft:=y.keeps ft;replace ff:=y.keeps ff;replace Q:=y.keeps Q;replace I:=y.keeps I;replace k0:=y.keeps k0;replace k1:=y.keeps k1;replace k2:=y.keeps k2;have n1:(K:Int)<=(l.length:Int):=by omega
 have d4:w.heap.size<=NB:=by
  rw[<-c1];exact O.size
 have c2:=(O.trans D).trans y;have i4:Hid (∃V,qo n U q V (out++((l.drop K).take 0).map si)/\ag (fun b=>b=q\/v.ownBlock=some b) U U/\oY v V U):=az ⟨v,by
  rw[fK,gw,bC];exact HO.out.gr c2,ag.refl _ _,fun b z=>.inl z⟩
 have Y:=az c2;have HK:=az hK;have d5:=a1.gr (D.trans y);have n2:=az d5;have i5:=az d4;clear c2 hK d5 d4 c1;rcases ea K l.length with Z|Z
 ·rcases a1.at' with⟨_,e2⟩|⟨B,cap,e3,h2,h3,h4,h5,h6⟩
  ·rw[e2]at Z;exact absurd Z (by simp)
  obtain⟨rfl,rfl⟩:ao=some ⟨B,0,none⟩/\ca=cap:=by
   injection e3 with e1 e2 e3
   exact⟨e1,e3⟩
  have n3:¬ca=K:=by omega
  have H5:=az (h5.gr (D.trans y));have n4:n<=B:=by omega
  have d7:∀b,v.ownBlock=some b->b<w.heap.size:=fun b z=>Kx HO.out.o b z;have i6:=az d7;clear h5 h6 d7 e3;go_wp2_with fail
  have l5:B<U.heap.size:=by
   have:=D.size;have:=y.size;omega
  have hm:((l.length-K:Nat):Int)=((l.length-K:Nat):Int):=rfl;go_loopw [35] (fun iv w'=>∃(i:Nat),i<=l.length-K/\iv=.int .i64 i/\∃V,qo n w' q V (out++((l.drop K).take i).map si)/\ag (fun b=>b=q\/v.ownBlock=some b) U w'/\oY v V U) (fun iv _=>l.length-K-(eb iv).toNat)
  case atStart=>exact⟨0,fy _,rfl,i4.out⟩
  case round=>
   obtain⟨i,hi,rfl,V,hO,hG,hT⟩:=hrel;by_cases i7:i<l.length-K
   ·have g3:(i:Int)<((l.length-K:Nat):Int):=by omega
    have hS:∀j,(j<n/\j≠q)\/w.heap.size<=j->¬(j=q\/v.ownBlock=some j):=fun j hj e=>by
     rcases e with e|e
     ·omega
     have h8:=i6.out j e;have h9:=xV HO.out.o j e;omega
    have d9:=HW.out.ne;replace Q:=hG.keeps (hS FM (.inl ⟨hn.2.2.1,fun e=>d9.2.2.1 e.symm⟩)) Q;replace k1:=hG.keeps (hS NB (.inr i5.out)) k1;obtain⟨b0,b1,b2⟩:=(H5.out.ay hG (hS B (.inr h3))) (K+i) (by omega);rw[show 0+(K+i)*3=K*3+i*3 by omega]at b0 b1 b2;replace I:=hO.c;have c4:=hO.f;have i9:Hid ((l.drop K).take (i+1)=(l.drop K).take i++[l[K+i]]):=az (by
     rw[bX (by rw[bF];exact i7),cL])
    generalize l[K+i]=en at*;obtain⟨L,it,G⟩:=en;have a2:=az hO;have HG:=az hG;have HT:=az hT;have HS:=az hS;clear hO hG hT hS d9 hm;have H:Gr wr (wr.alloc (.cells #[.string L,.string it,.int .i64 (G:Int)] 206)):=(Gr.refl wr).alloc _;replace Q:=H.keeps Q;replace k1:=H.keeps k1;replace I:=H.keeps I;replace c4:=(H.frozen 0 (ad a2.out.c)).trans c4;have e0:(wr.alloc (.cells #[.string L,.string it,.int .i64 (G:Int)] 206)).cell? ⟨wr.heap.size,0,none⟩=some (.string L):=by rw[ap];rfl
    have e1:(wr.alloc (.cells #[.string L,.string it,.int .i64 (G:Int)] 206)).cell? ⟨wr.heap.size,1,none⟩=some (.string it):=by rw[ap];rfl
    have e2:(wr.alloc (.cells #[.string L,.string it,.int .i64 (G:Int)] 206)).cell? ⟨wr.heap.size,2,none⟩=some (.int .i64 (G:Int)):=by rw[ap];rfl
    obtain⟨P0,a4⟩:∃P0,out++((l.drop K).take i).map si=P0:=⟨_,rfl⟩;have j0:P0.length<=100000000:=by
     rw[<-a4,bt,aJ,co,bF];omega
    rw[a4]at a2;obtain⟨P1,e4⟩:∃P1,P0++[(L,it)]=P1:=⟨_,rfl⟩;have j1:=az a4;have e5:=az e4;clear a4 e4;have j2:=az ((a2.out.gr H).o);have j3:n<=(wr.alloc (.cells #[.string L,.string it,.int .i64 (G:Int)] 206)).heap.size:=by
     have h7:=Y.out.size;have h8:=HG.out.2.2.2.1;have h9:=H.size;omega
    have l6:q<n:=hn.2.2.2.1;have e6:¬V.ownBlock=some q:=fun e=>by
     have:=xV a2.out.o q e;omega
    go_wp2_with(at_builtin;(refine IJ (n:=n) (w:=wr.alloc (.cells #[.string L,.string it,.int .i64 (G:Int)] 206)) rfl _ _ rfl V P0 (L,it) rfl j2.out (wr.heap.size+1) (by simp) rfl j0 j3 ?_);intro v3 w3 a5 a6 e7;rw[e5.out]at a5;(have j4:=a6.keeps e6 I);(have j5:w3.frozen? ⟨q,0,none⟩=false:=(a6.frozen 0 (ad I) e6).trans c4);(obtain⟨a3,c3,rfl⟩:=a5.form);(have e8:=az a5);(have j6:=az a6);(have j7:=az e7);clear a5 a6 e7)
    have j8:si ⟨L,it,G⟩=(L,it):=rfl;have j9:out++((l.drop K).take (i+1)).map si=P1:=by
     rw[i9.out,bu,List.map_singleton,j8,<-bB,j1.out];exact e5.out
    have gS:ag (fun b=>b=q) w3 (w3.setCell ⟨q,0,none⟩ (.slice a3 P1.length c3)):=ag.setCell (S:=fun b=>b=q) (p:=⟨q,0,none⟩) w3 _ rfl;have k3:∀b,(di a3 P1.length c3).ownBlock=some b->¬b=q:=fun b z e=>by
     have:=xV e8.out b z;omega
    have k4:ag (fun b=>b=q\/v.ownBlock=some b) U (w3.setCell ⟨q,0,none⟩ (.slice a3 P1.length c3)):=by
     refine ag.Pk (ag.Pk HG.out ((ag.ah H).trans j6.out) (fun j e=>?_)) gS (fun j e=>.inl (.inl e));rcases HT.out j e with e|e
     ·exact .inl (.inr e)
     exact .inr e
    refine⟨⟨i+1,by omega,by go_num,_,⟨World.cell?_setCell_same w3 ⟨q,0,none⟩ _ j4,by simpa using j5,?_⟩,k4,fun b z=>?_⟩,by simp[eb];omega⟩
    ·rw[j9];exact e8.out.ay gS k3
    rcases j7.out with e|⟨b',e,h9⟩
    ·rw[e]at z;exact HT.out b z
    rw[e]at z;have h8:=HG.out.2.2.2.1;have h7:=H.size;have:=el z;exact .inr (by omega)
   have g3:¬(i:Int)<((l.length-K:Nat):Int):=by omega
   have e9:(l.drop K).take i=l.drop K:=eh (by rw[bF];omega);rw[e9]at hO;have HR:Hid (M2 n w wr q v RR):=az ⟨V,by rw[<-d1.out];exact hO,(ag.ah Y.out).trans hG,fun b z=>by
    rcases hT b z with e|e
    ·exact .inl e
    exact .inr (cl Y.out.size e)⟩
   clear hO hG hT e9 hm;go_wp2_with fail
   go_ret;exact⟨rfl,HR.out⟩
 have k5:l.length=K:=by omega
 have g0:l.drop K=[]:=cO (by omega);have HR:Hid (M2 n w U q v RR):=az (by
  rw[<-d1.out,g0,gw,bC];exact⟨v,HO.out.gr Y.out,ag.ah Y.out,fun b z=>.inl z⟩)
 have hz:l.length-K=0:=by omega
 clear k5 g0;go_wp2_with fail
 all_goals
  go_loopw [35] (fun iv w'=>iv=.int .i64 0/\w'=U) (fun _ _=>0)
  case atStart=>exact⟨rfl,rfl⟩
  case round=>
   obtain⟨rfl,rfl⟩:=hrel;go_wp2_with fail
   go_ret;exact⟨rfl,HR.out⟩
end
section
variable{w:ch}{PB DB M:Nat}{c:Ch}{sv:Head}{t:Int}{d:Dk}
theorem M4(h:cG w PB DB M c sv t d){TP root:Nat}(ht:bH w TP PB root){p:Nat}{l:List En}(hp:iy c d.pg false p l)(g7:∀e∈l,e.ok false)(O:aj false l<=1024){FT FF FM q FW:Nat}{s:ByteArray}(hw:CE w FT FF FM q FW TP s)
  {n:Nat} {v:ek} {out:List dv} (ho:qo n w q v out) (hn:FT<n/\FF<n/\FM<n/\q<n/\FW<n) (l2:n<=w.heap.size) (a0:PB<n/\DB<n/\M<n/\TP<n) (a1:q≠PB/\q≠DB/\q≠M/\q≠TP) {outs:List (List dv)} {K:Nat} (hK:aL (aH l) s=K) (b3:K<l.length) (l3:outs.length=l.length)
  (b4:∀j (hj:K+j<l.length) W v,cG W PB DB M c sv t d->bH W TP PB root->CE W FT FF FM q FW TP s->qo n W q v (out++((outs.drop K).take j).flatten)->n<=W.heap.size->
   em prog 168 #[.int .i64 (l[K+j].cU:Int),.pointer (some ⟨FT,0,none⟩),.pointer (some ⟨FF,0,none⟩),.pointer (some ⟨FM,0,none⟩),.pointer (some ⟨q,0,none⟩),.pointer (some ⟨FW,0,none⟩)] W fun e w'=>e=.returned .nilIface/\M2 n W w' q v (out++((outs.drop K).take (j+1)).flatten)):
  em prog 168 #[.int .i64 (p:Int),.pointer (some ⟨FT,0,none⟩),.pointer (some ⟨FF,0,none⟩),.pointer (some ⟨FM,0,none⟩),.pointer (some ⟨q,0,none⟩),.pointer (some ⟨FW,0,none⟩)] w fun e w'=>e=.returned .nilIface/\M2 n w w' q v (out++(outs.drop K).flatten):=by
 have c6:=mP h.s ht hp g7 O;have hl:l.length<=600:=by
  have:=d_ false l;unfold aj at O;omega
 obtain⟨RR,c0⟩:∃RR,out++(outs.drop K).flatten=RR:=⟨_,rfl⟩;rw[c0];have g8:=az c0;clear c0;have ft:=hw.ft;have ff:=hw.ff;have Q:=hw.fm;have fo:=ho.c;have g9:=az c6;have e6:=az b4;clear b4;have HW:=az hw;have HO:=az ho;clear c6;go_enter func168,ntmps168;go_wp2_with fail
 refine g9.out.mono ?_;rintro e H ⟨s',rfl,a2,I⟩;obtain⟨ao,Y,rfl⟩:=a2.form;have c1:=fun W (g:Gr H W)=>qh p false l (.slice ao l.length Y) s W (a2.qW.gr g) (by omega);simp only[eA,if_false,hK]at c1;unfold bi at*;have h0:=az c1;clear c1;replace ft:=I.keeps ft;replace ff:=I.keeps ff;replace Q:=I.keeps Q;replace fo:=I.keeps fo;have z:Gr H (H.alloc (.cells #[.int .i64 (p:Int),.bool false,.slice ao l.length Y] 200)):=(Gr.refl H).alloc _;replace ft:=z.keeps ft;replace ff:=z.keeps ff;replace Q:=z.keeps Q;replace fo:=z.keeps fo;have k0:(H.alloc (.cells #[.int .i64 (p:Int),.bool false,.slice ao l.length Y] 200)).cell? ⟨H.heap.size,0,none⟩=some (.int .i64 (p:Int)):=by rw[ap];rfl
 have k1:(H.alloc (.cells #[.int .i64 (p:Int),.bool false,.slice ao l.length Y] 200)).cell? ⟨H.heap.size,1,none⟩=some (.bool false):=by rw[ap];rfl
 have k2:(H.alloc (.cells #[.int .i64 (p:Int),.bool false,.slice ao l.length Y] 200)).cell? ⟨H.heap.size,2,none⟩=some (.slice ao l.length Y):=by rw[ap];rfl
 go_wp2_with fail
 obtain⟨NB,c2⟩:∃NB,H.heap.size=NB:=⟨_,rfl⟩;rw[c2]at k0 k1 k2⊢;refine(h0.out _ z).mono ?_;rintro e U ⟨rfl,y⟩;replace ft:=y.keeps ft;replace ff:=y.keeps ff;replace Q:=y.keeps Q;replace fo:=y.keeps fo;replace k0:=y.keeps k0;replace k1:=y.keeps k1;replace k2:=y.keeps k2;have l4:(K:Int)<=(l.length:Int):=by omega
 have c8:w.heap.size<=NB:=by
  rw[<-c2];exact I.size
 have a3:=(I.trans z).trans y;have h1:Hid (∃Z,qo n U q Z (out++((outs.drop K).take 0).flatten)/\ag (fun b=>b=q\/v.ownBlock=some b) U U/\oY v Z U):=az ⟨v,by
  rw[fK,List.flatten_nil,bC];exact HO.out.gr a3,ag.refl _ _,fun b O=>.inl O⟩
 have c3:=az a3;have J:=a3;have c9:=a2.gr (z.trans y);have l5:=az c9;have i0:=az c8;clear a3 c9 c8 c2;have i1:=az (h.gr J);have i2:=az (ht.gr J);have d0:=az (hw.gr J);clear J;rcases a2.at' with⟨_,e2⟩|⟨B,cap,e3,h2,h3,h4,h5,h6⟩
 ·rw[e2]at b3;exact absurd b3 (by simp)
 obtain⟨rfl,rfl⟩:ao=some ⟨B,0,none⟩/\Y=cap:=by
  injection e3 with e1 e2 e3
  exact⟨e1,e3⟩
 have l6:¬Y=K:=by omega
 have H5:=az (h5.gr (z.trans y));have l7:n<=B:=by omega
 have d2:∀b,v.ownBlock=some b->b<w.heap.size:=fun b O=>Kx HO.out.o b O;have i3:=az d2;clear h5 h6 d2 e3;go_wp2_with fail
 have j7:B<U.heap.size:=by
  have:=z.size;have:=y.size;omega
 go_loopw [35] (fun iv w'=>∃(i:Nat),i<=l.length-K/\iv=.int .i64 i/\∃Z,qo n w' q Z (out++((outs.drop K).take i).flatten)/\ag (fun b=>b=q\/v.ownBlock=some b) U w'/\oY v Z U) (fun iv _=>l.length-K-(eb iv).toNat)
 case atStart=>exact⟨0,fy _,rfl,h1.out⟩
 case round=>
  obtain⟨i,hi,rfl,Z,hO,G,hT⟩:=hrel;by_cases l8:i<l.length-K
  ·have e7:(i:Int)<((l.length-K:Nat):Int):=by omega
   have hS:∀j,(j<n/\j≠q)\/w.heap.size<=j->¬(j=q\/v.ownBlock=some j):=fun j hj e=>by
    rcases e with e|e
    ·omega
    have h8:=i3.out j e;have h9:=xV HO.out.o j e;omega
   have D:=HW.out.ne;replace Q:=G.keeps (hS FM (.inl ⟨hn.2.2.1,fun e=>D.2.2.1 e.symm⟩)) Q;have fw:=G.keeps (hS FW (.inl ⟨hn.2.2.2.2,fun e=>D.2.2.2 e.symm⟩)) d0.out.fw;replace k1:=G.keeps (hS NB (.inr i0.out)) k1;have b9:K+i<l.length:=by omega
   obtain⟨b0,b1,b2⟩:=(H5.out.ay G (hS B (.inr h3))) (K+i) b9;rw[show 0+(K+i)*3=K*3+i*3 by omega]at b0 b1 b2;have d4:=i1.out.ay G (hS PB (.inl ⟨a0.1,fun e=>a1.1 e.symm⟩)) (hS DB (.inl ⟨a0.2.1,fun e=>a1.2.1 e.symm⟩)) (hS M (.inl ⟨a0.2.2.1,fun e=>a1.2.2.1 e.symm⟩));have d5:=i2.out.ay G (hS TP (.inl ⟨a0.2.2.2,fun e=>a1.2.2.2 e.symm⟩));have d6:=d0.out.ay G (hS FT (.inl ⟨hn.1,fun e=>D.1 e.symm⟩)) (hS FF (.inl ⟨hn.2.1,fun e=>D.2.1 e.symm⟩)) (hS FM (.inl ⟨hn.2.2.1,fun e=>D.2.2.1 e.symm⟩)) (hS FW (.inl ⟨hn.2.2.2.2,fun e=>D.2.2.2 e.symm⟩));have i4:n<=wr.heap.size:=by
    have h7:=c3.out.size;have h8:=G.2.2.2.1;omega
   have d7:=fun W (g:Gr wr W)=>e6.out i b9 W Z (d4.gr g) (d5.gr g) (d6.gr g) (hO.gr g) (cl i4 g.size);generalize l[K+i]=en at*;obtain⟨ky,it,V⟩:=en;have i5:=az d7;have HG:=az G;have HT:=az hT;clear hO G hT hS D d4 d5 d6 d7;have L:Gr wr (wr.alloc (.cells #[.string ky,.string it,.int .i64 (V:Int)] 206)):=(Gr.refl wr).alloc _;replace Q:=L.keeps Q;replace fw:=L.keeps fw;replace k1:=L.keeps k1;have e0:(wr.alloc (.cells #[.string ky,.string it,.int .i64 (V:Int)] 206)).cell? ⟨wr.heap.size,0,none⟩=some (.string ky):=by rw[ap];rfl
   have e1:(wr.alloc (.cells #[.string ky,.string it,.int .i64 (V:Int)] 206)).cell? ⟨wr.heap.size,1,none⟩=some (.string it):=by rw[ap];rfl
   have e2:(wr.alloc (.cells #[.string ky,.string it,.int .i64 (V:Int)] 206)).cell? ⟨wr.heap.size,2,none⟩=some (.int .i64 (V:Int)):=by rw[ap];rfl
   go_wp2_with fail
   refine(i5.out _ L).mono ?_;rintro e w3 ⟨rfl,v3,d8,d9,e4⟩;have e8:Hid (qo n w3 q v3 (out++((outs.drop K).take (i+1)).flatten)/\ag (fun b=>b=q\/v.ownBlock=some b) U w3/\oY v v3 U):=az ⟨d8,ag.Pk (ag.Pk HG.out (ag.ah (S:=fun _=>False) L) (fun j e=>e.elim)) d9 (fun j e=>by
    rcases e with e|e
    ·exact .inl (.inl e)
    ·rcases HT.out j e with e|e
     ·exact .inl (.inr e)
     exact .inr e),fun b O=>by
    rcases e4 b O with e|e
    ·exact HT.out b e
    have h8:=HG.out.2.2.2.1;have h7:=L.size;exact .inr (by omega)⟩
   clear d8 d9 e4;go_wp2_with fail
   exact⟨⟨i+1,by omega,by go_num,_,e8.out⟩,by simp[eb];omega⟩
  have e7:¬(i:Int)<((l.length-K:Nat):Int):=by omega
  have e5:(outs.drop K).take i=outs.drop K:=eh (by rw[bF];omega);rw[e5]at hO;have HR:Hid (M2 n w wr q v RR):=az ⟨Z,by rw[<-g8.out];exact hO,(ag.ah c3.out).trans G,fun b O=>by
   rcases hT b O with e|e
   ·exact .inl e
   exact .inr (cl c3.out.size e)⟩
  clear hO G hT e5;go_wp2_with fail
  go_ret;exact⟨rfl,HR.out⟩
end
theorem vm:∀(N:Nat) (l:List Nat),l.Nodup->(∀k∈l,k<N)->l.length<=N
 |0,l,_,h=>by
  cases l with
  |nil=>exact bT _
  |cons a r=>exact absurd (h a aV) (fA _)
 |N+1,l,hn,h=>by
  by_cases s:N∈l
  ·have y:=vm N (l.erase N) (hn.erase N) fun k b=>by
    have q:=(hn.mem_erase_iff).1 b;have:=h k q.2;have:=q.1;omega
   rw[dS s]at y;omega
  have y:=vm N l hn fun k b=>by
   have q:=h k b;have:k≠N:=fun e=>s (e▸b);omega
  omega
theorem CH(s:ByteArray):∀{d:Nat} {x:T d},x.fC->(iI s x).length<=600*x.ai.length
 |0,x,h=>by
  obtain⟨p,l⟩:Nat×List (ByteArray×ByteArray):=x;have q:aj true (l.map cy)<=1024:=h.2.1;have b:=d_ true (l.map cy);rw[aJ]at b;unfold aj at q;show(l.drop _).length<=600*([p]:List Nat).length;rw[bF,cW];omega
 |d+1,x,h=>by
  obtain⟨p,l⟩:Nat×List (ByteArray×T d):=x;have D:∀y∈l,y.2.fC:=h.2;have step:∀m:List (ByteArray×T d),(∀y∈m,y.2.fC)->(m.flatMap fun y=>iI s y.2).length<=600*(m.flatMap fun y=>y.2.ai).length:=by
   intro m
   induction m with
   |nil=>intro _;simp
   |cons y m G=>
    intro B;rw[aQ,aQ,bt,bt];have q:=CH s (B y aV);have b:=G fun z H=>B z (aS _ H);omega
  show((l.drop (aL (l.map ae) s)).flatMap fun y=>iI s y.2).length<=600*(p::l.flatMap fun y=>y.2.ai).length;have q:=step (l.drop (aL (l.map ae) s)) fun y I=>D y (es I);have b:(l.flatMap fun y=>y.2.ai).length=((l.take (aL (l.map ae) s)).flatMap fun y=>y.2.ai).length+((l.drop (aL (l.map ae) s)).flatMap fun y=>y.2.ai).length:=by
   rw[<-bt,<-aX,bv]
  rw[de,b];omega
theorem tY(s:ByteArray){d:Nat}:∀m:List (ByteArray×T d),(∀y∈m,y.2.fC)->(m.flatMap fun y=>iI s y.2).length<=600*(m.flatMap fun y=>y.2.ai).length
 |[],_=>by simp
 |y::m,b=>by
  rw[aQ,aQ,bt,bt];have B:=CH s (b y aV);have D:=tY s m fun z q=>b z (aS _ q);omega
section
variable{PB DB M:Nat}{c:Ch}{sv:Head}{t:Int}{dk:Dk}
theorem Pm{TP root Z FF FM q FW n:Nat}{s:ByteArray}(hn:Z<n/\FF<n/\FM<n/\q<n/\FW<n)(Q:PB<n/\DB<n/\M<n/\TP<n)(S:q≠PB/\q≠DB/\q≠M/\q≠TP):∀{m:Nat} {x:T m} {w:ch} {v:ek} {out:List dv},cG w PB DB M c sv t dk->bH w TP PB root->CE w Z FF FM q FW TP s->qo n w q v out->n<=w.heap.size->x.lays c dk.pg->x.fC->out.length+600*x.ai.length<=100000000->
  em prog 168 #[.int .i64 (x.pg:Int),.pointer (some ⟨Z,0,none⟩),.pointer (some ⟨FF,0,none⟩),.pointer (some ⟨FM,0,none⟩),.pointer (some ⟨q,0,none⟩),.pointer (some ⟨FW,0,none⟩)] w fun e w'=>e=.returned .nilIface/\M2 n w w' q v (out++iI s x)
 |0,x,w,v,out,h,ht,hw,ho,H,U,b,hb=>by
  obtain⟨p,l⟩:Nat×List (ByteArray×ByteArray):=x;have I:out.length+600*([p]:List Nat).length<=100000000:=hb;rw[cW]at I;have D:=M3 h ht (p:=p) (l:=l.map cy) U b.2.2 b.2.1 hw ho hn H (by omega);rw[tX]at D;have e:((l.map cy).drop (am (l.map ae) s)).map si=iI s (d:=0) (p,l):=by
   show _=l.drop (am (l.map ae) s);rw[<-dT,eT];have:(si∘cy)=id:=by funext y;rfl
   rw[this,List.map_id]
  rw[e]at D;exact D
 |m+1,x,w,v,out,h,ht,hw,ho,H,U,b,hb=>by
  obtain⟨p,l⟩:Nat×List (ByteArray×T m):=x;have a7:l.map ae≠[]:=fun e=>b.1.1 (by
   have:l=[]:=dD.1 e;show l.map aM=[];rw[this]
   rfl)
  have J:=oE a7 s;rw[aJ]at J;obtain⟨K,hK⟩:∃K,aL (l.map ae) s=K:=⟨_,rfl⟩;rw[hK]at J;have I:out.length+600*(p::l.flatMap fun y=>y.2.ai).length<=100000000:=hb;have O:∀y∈l,y.2.lays c dk.pg:=U.2;have G:∀y∈l,y.2.fC:=b.2;have L:∀j,(((l.map fun y=>iI s y.2).drop K).take j).flatten=((l.drop K).take j).flatMap fun y=>iI s y.2:=fun j=>by
   rw[<-dT,<-ez,dg]
  have Y:((l.map fun y=>iI s y.2).drop K).flatten=(l.drop K).flatMap fun y=>iI s y.2:=by
   rw[<-dT,dg]
  have D:=M4 h ht (p:=p) (l:=l.map aM) U.1 b.1.2.2 b.1.2.1 hw ho hn H Q S (outs:=l.map fun y=>iI s y.2) (K:=K) (by rw[xY];exact hK) (by rw[aJ];exact J) (by rw[aJ,aJ]) (fun j hj W v1 q1 q2 q3 q4 q5=>by
   have V:K+j<l.length:=by rw[aJ]at hj;exact hj
   have hm:l[K+j]∈l:=fl V;have a8:(l.map aM)[K+j]=aM l[K+j]:=dU _;have a9:(((l.map aM)[K+j]).cU:Int)=(l[K+j].2.pg:Int):=by rw[a8];rfl
   rw[a9];have B:l=l.take K++((l.drop K).take j++(l[K+j]::l.drop (K+j+1))):=by
    rw[<-bQ V,<-fM,bv,bv]
   have c3:(l.flatMap fun y=>y.2.ai).length=((l.take K).flatMap fun y=>y.2.ai).length+((((l.drop K).take j).flatMap fun y=>y.2.ai).length+(l[K+j].2.ai.length+((l.drop (K+j+1)).flatMap fun y=>y.2.ai).length)):=by
    have h1:=congrArg (fun z:List (ByteArray×T m)=>(z.flatMap fun y=>y.2.ai).length) B;simp only[aX,aQ,bt]at h1;exact h1
   have c4:=tY s ((l.drop K).take j) fun y hy=>G y (es (List.mem_of_mem_take hy));have ih:=Pm hn Q S (x:=l[K+j].2) q1 q2 q3 q4 q5 (O _ hm) (G _ hm) (by
    rw[bt,L];rw[de]at I;omega)
   have e2:out++(((l.map fun y=>iI s y.2).drop K).take (j+1)).flatten=out++(((l.map fun y=>iI s y.2).drop K).take j).flatten++iI s l[K+j].2:=by
    rw[L,L,bX (by rw[bF];omega),aX,bB,cL];simp
   rw[e2];exact ih)
  rw[Y]at D;have e3:iI s (d:=m+1) (p,l)=(l.drop K).flatMap fun y=>iI s y.2:=by rw[<-hK];rfl
  rw[e3];exact D
end
theorem fh(w:ch)(v:ek)(t:iu):(w.alloc (.cells #[v] t)).cell? ⟨w.heap.size,0,none⟩=some v:=by rw[ap];rfl
theorem QF(w:ch)(a b e:ek)(q s y:iu):
  (((w.alloc (.cells #[a] q)).alloc (.cells #[b] s)).alloc (.cells #[e] y)).cell? ⟨w.heap.size,0,none⟩=some a/\(((w.alloc (.cells #[a] q)).alloc (.cells #[b] s)).alloc (.cells #[e] y)).cell? ⟨w.heap.size+1,0,none⟩=some b/\(((w.alloc (.cells #[a] q)).alloc (.cells #[b] s)).alloc (.cells #[e] y)).cell? ⟨w.heap.size+1+1,0,none⟩=some e/\Gr w (((w.alloc (.cells #[a] q)).alloc (.cells #[b] s)).alloc (.cells #[e] y))/\(((w.alloc (.cells #[a] q)).alloc (.cells #[b] s)).alloc (.cells #[e] y)).heap.size=w.heap.size+1+1+1:=by
 have g1:Gr w (w.alloc (.cells #[a] q)):=(Gr.refl w).alloc _;have g2:Gr (w.alloc (.cells #[a] q)) ((w.alloc (.cells #[a] q)).alloc (.cells #[b] s)):=(Gr.refl _).alloc _;have z:Gr ((w.alloc (.cells #[a] q)).alloc (.cells #[b] s)) (((w.alloc (.cells #[a] q)).alloc (.cells #[b] s)).alloc (.cells #[e] y)):=(Gr.refl _).alloc _;have G:(w.alloc (.cells #[a] q)).heap.size=w.heap.size+1:=by simp
 have H:((w.alloc (.cells #[a] q)).alloc (.cells #[b] s)).heap.size=w.heap.size+1+1:=by simp
 have I:=fh w a q;have B:=fh (w.alloc (.cells #[a] q)) b s;have D:=fh ((w.alloc (.cells #[a] q)).alloc (.cells #[b] s)) e y;rw[G]at B;rw[H]at D;exact⟨z.keeps (g2.keeps I),z.keeps B,D,(g1.trans g2).trans z,by simp⟩
theorem M5(w:ch)(a v:ek)(b q:iu):Gr w ((w.alloc (.cells #[a] b)).alloc (.cells #[v] q))/\((w.alloc (.cells #[a] b)).alloc (.cells #[v] q)).cell? ⟨w.heap.size,0,none⟩=some a/\((w.alloc (.cells #[a] b)).alloc (.cells #[v] q)).cell? ⟨w.heap.size+1,0,none⟩=some v/\((w.alloc (.cells #[a] b)).alloc (.cells #[v] q)).frozen? ⟨w.heap.size,0,none⟩=false/\((w.alloc (.cells #[a] b)).alloc (.cells #[v] q)).heap.size=w.heap.size+1+1:=by
 have g1:Gr w (w.alloc (.cells #[a] b)):=(Gr.refl w).alloc _;have g2:Gr (w.alloc (.cells #[a] b)) ((w.alloc (.cells #[a] b)).alloc (.cells #[v] q)):=(Gr.refl _).alloc _;have y:(w.alloc (.cells #[a] b)).heap.size=w.heap.size+1:=by simp
 have z:=fh w a b;have f1:(w.alloc (.cells #[a] b)).frozen? ⟨w.heap.size,0,none⟩=false:=by simp
 have s:=fh (w.alloc (.cells #[a] b)) v q;rw[y]at s;exact⟨g1.trans g2,g2.keeps z,s,(g2.frozen 0 (by simp)).trans f1,by simp⟩
theorem gL.back{n s:Nat}{w:ch}{v:ek}{l:List dv}(h:gL n w v l)(g:s<=n):gL s w v l:=by
 refine⟨h.row.1,?_⟩;rcases h.row.2 with b|⟨g',cap,q,b,y,z⟩
 ·exact .inl b
 exact .inr ⟨g',cap,q,b,cl g y,z⟩
theorem IQ{w:ch}{PB DB M:Nat}{c:Ch}{sv:Head}{t:Int}{d:Dk}(h:cG w PB DB M c sv t d):em prog 142 #[.pointer (some ⟨PB,0,none⟩)] w (ar w (.bool false)):=by
 obtain⟨q,_,b⟩:=h.s.pg;have y:=b.down;go_enter func142,ntmps142;go_wp2_with fail
 go_ret;exact ar.mk rfl (Gr.refl _)
section
variable{w:ch}{PB DB M:Nat}{c:Ch}{sv:Head}{t:Int}{d:Dk}
theorem Vj(h:cG w PB DB M c sv t d){TP root:Nat}(ht:bH w TP PB root)(hr:root<8)(s:ByteArray){tr:Tr}(hl:tr.lays c d.pg root):
  em prog 116 #[.pointer (some ⟨TP,0,none⟩),.string s,.int .i64 (-1)] w fun e w'=>∃v,e=.returned (.tuple #[v,.nilIface])/\gL w.heap.size w' v (mq tr s)/\Gr w w':=by
 obtain⟨RR,Q⟩:∃RR,mq tr s=RR:=⟨_,rfl⟩;rw[Q];have b8:=az Q;clear Q;have g9:=h.lt;have h0:=ad ht.p;obtain⟨D,G,H,I,b9⟩:=QF w (.pointer (some ⟨TP,0,none⟩)) (.string s) (.int .i64 (-1)) 90 9 3;have tp:=ht.gr I;have c0:=IQ (h.gr I);have c1:=az c0;have J:=az I;have S:=az b9;have U:=tp.p;clear c0 b9 I tp;go_enter func116,ntmps116;go_wp2_with fail
 obtain⟨W3,c2⟩:∃W3,((w.alloc (.cells #[.pointer (some ⟨TP,0,none⟩)] 90)).alloc (.cells #[.string s] 9)).alloc (.cells #[.int .i64 (-1)] 3)=W3:=⟨_,rfl⟩;rw[c2]at D G H c1 J S U⊢;clear c2;obtain⟨y,V⟩:∃y,w.heap.size=y:=⟨_,rfl⟩;rw[V]at D G H S⊢;have d6:=az V;clear V;refine c1.out.mono ?_;rintro e w1 ⟨rfl,b⟩;replace D:=b.keeps D;replace G:=b.keeps G;replace H:=b.keeps H;replace U:=b.keeps U;obtain⟨O,z0,z1,z2,z3⟩:=M5 w1 (.slice none 0 0) (.func (.func 168) #[] #[.pointer (some ⟨y,0,none⟩),.pointer (some ⟨y+1,0,none⟩),.pointer (some ⟨y+1+1,0,none⟩),.pointer (some ⟨w1.heap.size,0,none⟩),.pointer (some ⟨w1.heap.size+1,0,none⟩)]) 134 106;have Y:=az O;have Z:=az z3;have c3:=az b;have c4:=mZ (h.gr ((J.out.trans b).trans O)) (ht.gr ((J.out.trans b).trans O)) hr;have a0:=az c4;replace D:=O.keeps D;replace G:=O.keeps G;replace H:=O.keeps H;have HZ:=az z2;clear O z3 b c4 z2;go_wp2_with fail
 obtain⟨z,a1⟩:∃z,w1.heap.size=z:=⟨_,rfl⟩;rw[a1]at z0 z1 HZ Y Z a0 D G H⊢;obtain⟨W5,c5⟩:∃W5,(w1.alloc (.cells #[.slice none 0 0] 134)).alloc (.cells #[.func (.func 168) #[] #[.pointer (some ⟨y,0,none⟩),.pointer (some ⟨y+1,0,none⟩),.pointer (some ⟨y+1+1,0,none⟩),.pointer (some ⟨z,0,none⟩),.pointer (some ⟨z+1,0,none⟩)]] 106)=W5:=⟨_,rfl⟩;rw[c5]at z0 z1 HZ Y Z a0 D G H⊢;clear c5;have g3:y+1+1<z:=by
  have h7:=S.out;have h8:=c3.out.size;omega
 have h1:=az a1;clear a1;have c6:CE W5 y (y+1) (y+1+1) z (z+1) TP s:=⟨D,G,H,z1,by omega⟩;have c8:qo (z+1+1) W5 z (.slice none 0 0) []:=⟨z0,HZ.out,gL.nil _ _⟩;refine a0.out.mono ?_;rintro e w6 ⟨rfl,q⟩;have a2:Gr w W5:=(J.out.trans c3.out).trans Y.out;have B:=a2.trans q;have a3:=c6.gr q;have a4:=c8.gr q;have z0:=q.keeps z0;have z1:=q.keeps z1;have h3:=Z.out;have h7:=d6.out;clear c6 c8;cases tr with
 |none=>
  have h2:c.h.roots root=0:=hl;have HR:Hid (gL w.heap.size w6 (.slice none 0 0) RR/\Gr w w6):=az ⟨by rw[<-b8.out];exact gL.nil _ _,B⟩;clear h3 h7 a2 B q a3 a4;go_wp2_with fail
  go_ret2;exact⟨_,rfl,HR.out⟩
 |some x=>
  obtain⟨q1,q2,q3,q4⟩:=hl;have a5:=T.cY q2;have h4:=vm 2000 x.2.ai q4 (fun k hk=>(a5 k hk).2.1);have h5:=(a5 _ (T.eP x.2)).1;have h6:(0:Int)<c.h.roots root:=by omega
  have c9:=Pm (n:=z+1+1) (by omega) (by omega) (by omega) (h.gr B) (ht.gr B) a3 a4 (by have:=q.size;omega) q2 q3 (by simp;omega);have d7:=az c9;have d8:=az B;have g4:w.heap.size<=z:=by omega
  have b4:w.heap.size<=z+1+1:=by omega
  clear h3 h7 a2 B q a3 a4 c9 a5 q2 q3 q4;go_wp2_with fail
  refine d7.out.mono ?_;rintro e w7 ⟨rfl,v7,L,d0,d9⟩;have d1:Gr w w7:=d0.gr d8.out (fun j e=>by
   rcases e with e|e
   ·omega
   cases e)
  have z7:=L.c;have HR:Hid (gL w.heap.size w7 v7 RR/\Gr w w7):=az ⟨by rw[<-b8.out];exact L.o.back b4,d1⟩;obtain⟨a7,c7,e7⟩:=L.o.form;clear L d0 d9 d1;subst e7;go_wp2_with fail
  go_ret2;exact⟨_,rfl,HR.out⟩
end
section
variable{pg:Nat->ByteArray}{d:Nat}
structure Kids(pg:Nat->ByteArray)(c:Ch)(p:Nat)(l:List (ByteArray×T d)):Prop where
 lays:∀x∈l,x.2.lays c pg
 fits:∀x∈l,x.2.fC
 aO:∀e∈l.map aM,e.ok false
 bytes:aj false (l.map aM)<=1024
 nd:(p::l.flatMap fun x=>x.2.ai).Nodup
theorem Gj{l m:List (ByteArray×T d)}(h:∀x∈l,∃y∈m,∀k∈x.2.ai,k∈y.2.ai):∀k∈l.flatMap (fun x=>x.2.ai),k∈m.flatMap fun x=>x.2.ai:=fun k b=>by
 obtain⟨x,q,b⟩:=bh.1 b;obtain⟨y,s,hs⟩:=h x q;exact bh.2 ⟨y,s,hs k b⟩
theorem IS{l:List (ByteArray×T d)}{i:Nat}{a b:ByteArray×T d}(ha:l[i]?=some a)(q:l[i+1]?=some b):∃s z,l=s++a::b::z/\s.length=i:=by
 obtain⟨s,z,e,B⟩:=mv ha;refine⟨s,z.tail,?_,B⟩;rw[e]at q⊢;rw[be (by omega),show i+1-s.length=1 by omega]at q;cases z with
 |nil=>simp at q
 |cons y r=>
  simp at q;rw[q]
  rfl
theorem Tn{c:Ch}{p:Nat}{l:List (ByteArray×T d)}(hc:c.aE)(h:Kids pg c p l)(k:Nat)(u:T d):
  Fr pg (l.flatMap fun x=>x.2.ai) c (du c l k u).1/\Kids pg (du c l k u).1 p (du c l k u).2/\(∀j∈(du c l k u).2.flatMap (fun x=>x.2.ai),j∈l.flatMap fun x=>x.2.ai)/\(l≠[]->(du c l k u).2≠[]):=by
 have G:Fr pg (l.flatMap fun x=>x.2.ai) c c/\Kids pg c p l/\(∀j∈l.flatMap (fun x=>x.2.ai),j∈l.flatMap fun x=>x.2.ai)/\(l≠[]->l≠[]):=⟨Fr.refl hc _,h,fun _ h=>h,fun h=>h⟩;by_cases h1:341<aj (cn d) u.aO\/l.length<2
 ·have e:du c l k u=(c,l):=by
   unfold du;rw[if_pos h1]
  rw[e];exact G
 cases ha:l[k-1]? with
 |none=>
  have e:du c l k u=(c,l):=by
   unfold du;rw[if_neg h1,ha]
  rw[e];exact G
 |some a=>
  cases Z:l[k-1+1]? with
  |none=>
   have e:du c l k u=(c,l):=by
    unfold du;rw[if_neg h1,ha,Z]
   rw[e];exact G
  |some b=>
   by_cases h2:1024<aj (cn d) (a.2.meet b.1 b.2).aO
   ·have e:du c l k u=(c,l):=by
     unfold du;rw[if_neg h1,ha,Z];exact if_pos h2
    rw[e];exact G
   have a6:aj (cn d) (a.2.meet b.1 b.2).aO<=1024:=by omega
   obtain⟨l1,l2,z,S⟩:=IS ha Z;have e:du c l k u=((c.write (a.2.pg:Nat) (aw (cn d) (a.2.meet b.1 b.2).aO)).free (b.2.pg:Nat),l1++(a.1,a.2.meet b.1 b.2)::l2):=by
    unfold du;rw[if_neg h1,ha,Z];refine(if_neg h2).trans ?_;rw[<-S,z,mW];have:=pd b l2 (l1++[(a.1,a.2.meet b.1 b.2)]);rw[bt,cW]at this;simp only[bB,da]at this;rw[this]
   rw[e];have a2:a∈l:=by rw[z];simp
   have U:b∈l:=by rw[z];simp
   have c2:=h.fits a a2;have c3:=h.fits b U;have a9:=T.oI.1 (h.lays a a2);have b0:=T.oI.1 (h.lays b U);have c4:b.1.size<=60:=(h.aO (aM b) (b_ U)).key;have b1:=Tg c2 c3 c4 a6;have V:=h.nd;rw[z,aX,aQ,aQ,T.q_ a.2,T.q_ b.2]at V;obtain⟨P1,L⟩:∃P1,l1.flatMap (fun x=>x.2.ai)=P1:=⟨_,rfl⟩;obtain⟨P2,M⟩:∃P2,l2.flatMap (fun x=>x.2.ai)=P2:=⟨_,rfl⟩;obtain⟨A,hA⟩:∃A,a.2.ai.tail=A:=⟨_,rfl⟩;obtain⟨B,hB⟩:∃B,b.2.ai.tail=B:=⟨_,rfl⟩;rw[L,M,hA,hB]at V;simp only[dh,bP,bW,bc,aU,not_or]at V;obtain⟨⟨c5,c6,c7,e4,c8,c9⟩,n1,⟨⟨b3,b4,b5,b6⟩,nA,⟨⟨d0,d1⟩,nB,n2,d2⟩,a3⟩,I⟩:=V;have d3:a.2.pg∈l.flatMap fun x=>x.2.ai:=bh.2 ⟨a,a2,T.eP _⟩;have d4:b.2.pg∈l.flatMap fun x=>x.2.ai:=bh.2 ⟨b,U,T.eP _⟩;have d5:(aw (cn d) (a.2.meet b.1 b.2).aO).size=1024:=dY (T.lA.1 b1).1.2.2 a6;obtain⟨w1,w2,w3⟩:=gV (pg:=pg) hc a9.1.1 d5;have d6:=w1.IE b0.1.1 (by simpa using fun e=>b4 e.symm);have f1:=Cy (pg:=pg) w1.aE d6;have O:Fr pg [a.2.pg,b.2.pg] c ((c.write (a.2.pg:Nat) (aw (cn d) (a.2.meet b.1 b.2).aO)).free (b.2.pg:Nat)):=
    (w1.wide (S':=[a.2.pg,b.2.pg]) fun k s=>.inl (by rw[ak.1 s];exact aV)).trans f1 fun k s=>.inl (by rw[ak.1 s];exact aS _ aV)
   have b7:(a.2.meet b.1 b.2).ai=a.2.pg::(A++B):=by
    rw[Kw,T.q_ a.2,hA,hB,dh]
   have a0:∀x∈l1,x.2.lays ((c.write (a.2.pg:Nat) (aw (cn d) (a.2.meet b.1 b.2).aO)).free (b.2.pg:Nat)) pg:=fun x q=>T.hJ O (h.lays x (by rw[z];exact bM _ q)) fun k s D=>by
    have S:k∈P1:=by rw[<-L];exact bh.2 ⟨x,q,s⟩
    rcases aU.1 D with e|D
    ·exact I k S k (.inl e) rfl
    exact I k S k (.inr (.inr (.inl (ak.1 D)))) rfl
   have a1:∀x∈l2,x.2.lays ((c.write (a.2.pg:Nat) (aw (cn d) (a.2.meet b.1 b.2).aO)).free (b.2.pg:Nat)) pg:=fun x q=>T.hJ O (h.lays x (by rw[z];exact bz _ (aS _ (aS _ q)))) fun k s D=>by
    have Y:k∈P2:=by rw[<-M];exact bh.2 ⟨x,q,s⟩
    rcases aU.1 D with e|D
    ·rw[e]at Y;exact b6 Y
    rw[ak.1 D]at Y;exact d1 Y
   have a5:(a.2.meet b.1 b.2).lays ((c.write (a.2.pg:Nat) (aw (cn d) (a.2.meet b.1 b.2).aO)).free (b.2.pg:Nat)) pg:=by
    refine T.oI.2 ⟨?_,MU (T.Kv O a9.2 fun k s D=>?_) (T.Kv O b0.2 fun k s D=>?_)⟩
    ·rw[Cz];exact f1.Ga ⟨w2,w3⟩ (by simpa using b4)
    ·rw[hA]at s;rcases aU.1 D with e|D
     ·rw[e]at s;exact b3 s
     exact a3 k s k (.inl (ak.1 D)) rfl
    rw[hB]at s;rcases aU.1 D with e|D
    ·rw[e]at s;exact b5 s
    rw[ak.1 D]at s;exact d0 s
   have J:aM (a.1,a.2.meet b.1 b.2)=aM a:=by
    unfold aM;rw[Cz]
   refine⟨O.wide fun k s=>.inl ?_,⟨fun x q=>?_,fun x q=>?_,fun e Q=>h.aO e ?_,?_,?_⟩,fun j hj=>?_,fun _=>by simp⟩
   ·rcases aU.1 s with e|s
    ·rw[e];exact d3
    rw[ak.1 s];exact d4
   ·rcases bc.1 q with q|q
    ·exact a0 x q
    rcases aU.1 q with e|q
    ·rw[e];exact a5
    exact a1 x q
   ·rcases bc.1 q with q|q
    ·exact h.fits x (by rw[z];exact bM _ q)
    rcases aU.1 q with e|q
    ·rw[e];exact b1
    exact h.fits x (by rw[z];exact bz _ (aS _ (aS _ q)))
   ·rw[z];simp only[bu,bZ,J,bc,aU]at Q⊢;rcases Q with Q|Q|Q
    ·exact .inl Q
    ·exact .inr (.inl Q)
    exact .inr (.inr (.inr Q))
   ·have Z:=h.bytes;rw[z]at Z;simp only[bu,bZ,J,aj,ly,cE]at Z⊢;omega
   ·rw[aX,aQ,b7,L,M];simp only[dh,bP,bW,bc,aU,not_or];refine⟨⟨c5,c6,⟨c7,c8⟩,c9⟩,n1,⟨⟨⟨b3,b5⟩,b6⟩,⟨nA,nB,fun x q y H=>a3 x q y (.inr (.inl H))⟩,n2,fun x q y H=>?_⟩,fun x q y H=>?_⟩
    ·rcases q with q|q
     ·exact a3 x q y (.inr (.inr H))
     exact d2 x q y H
    rcases H with H|(H|H)|H
    ·exact I x q y (.inl H)
    ·exact I x q y (.inr (.inl H))
    ·exact I x q y (.inr (.inr (.inr (.inl H))))
    exact I x q y (.inr (.inr (.inr (.inr H))))
   rw[aX,aQ,b7,L,M]at hj;rw[z,aX,aQ,aQ,T.q_ a.2,T.q_ b.2,L,M,hA,hB];simp only[dh,bc,aU]at hj⊢;rcases hj with h|h|(h|h)|h
   ·exact .inl h
   ·exact .inr (.inl h)
   ·exact .inr (.inr (.inl h))
   ·exact .inr (.inr (.inr (.inr (.inl h))))
   exact .inr (.inr (.inr (.inr (.inr h))))
end
theorem CI{leaf:Bool}{a b:List En}(h:a.Sublist b)(q:(∀e∈b,e.ok leaf)/\aj leaf b<=1024):(∀e∈a,e.ok leaf)/\aj leaf a<=1024:=by
 refine⟨fun e s=>q.1 e (h.subset s),?_⟩;have:=Ge (leaf:=leaf) h;have y:=q.2;unfold aj at*;omega
theorem re{pg:Nat->ByteArray}{key:ByteArray}:∀{d:Nat} {c:Ch} {t:T d},c.aE->t.lays c pg->t.fC->t.ai.Nodup->Pb pg c t (dN c t key)
 |0,c,t,hc,V,Q,hn=>by
  obtain⟨p,l⟩:Nat×List (ByteArray×ByteArray):=t;have V:iy c pg true p (l.map cy):=V;have Q:qG true (l.map cy):=Q;have e0:dN (d:=0) c (p,l) key=(c.write (p:Nat) (aw true ((l.eraseIdx (am (l.map ae) key)).map cy)),(p,l.eraseIdx (am (l.map ae) key))):=rfl;obtain⟨m,Y⟩:∃m,l.eraseIdx (am (l.map ae) key)=m:=⟨_,rfl⟩;have I:(m.map cy).Sublist (l.map cy):=by
   rw[<-Y];exact(List.eraseIdx_sublist _ _).map _
  obtain⟨g1,g2⟩:=CI I ⟨Q.2.2,Q.2.1⟩;obtain⟨w1,w2,w3⟩:=gV (pg:=pg) hc V.1 (dY g1 g2);rw[e0,Y];exact⟨w1,rfl,⟨w2,w3⟩,fun h=>⟨h,g2,g1⟩,fun k b=>b,hn⟩
 |d+1,c,t,hc,V,Q,hn=>by
  obtain⟨p,l⟩:Nat×List (ByteArray×T d):=t;have c9:l.map ae≠[]:=fun e=>Q.1.1 (by
   have:l=[]:=dD.1 e;show l.map aM=[];rw[this]
   rfl)
  have b0:=oE c9 key;rw[aJ]at b0;obtain⟨x,hx⟩:∃x,l[aL (l.map ae) key]?=some x:=⟨_,bA b0⟩;obtain⟨z,B,G,b1⟩:=mv hx;have M:x∈l:=by rw[G];simp
  have a0:(p::l.flatMap fun y=>y.2.ai).Nodup:=hn;have a1:=a0;rw[G,aX,aQ]at a1;obtain⟨n1,n2⟩:=bP.1 a1;obtain⟨n3,n4,n5⟩:=bW.1 n2;obtain⟨n6,n7,n8⟩:=bW.1 n4;have b2:∀y∈l,y.2.lays c pg:=V.2;have b3:∀y∈l,y.2.fC:=Q.2;have a7:iy c pg false p (l.map aM):=V.1;have J:qG false (l.map aM):=Q.1;have S:=re (pg:=pg) (key:=key) hc (b2 x M) (b3 x M) n6;have hS:∀k∈x.2.ai,k∈p::l.flatMap (fun y=>y.2.ai):=fun k h=>aS _ (bh.2 ⟨x,M,h⟩);have D:∀y,y∈z\/y∈B->y∈l/\∀k∈y.2.ai,k∉x.2.ai:=fun y q=>by
   rcases q with q|q
   ·refine⟨by rw[G];exact bM _ q,fun k h1 h2=>n5 k (bh.2 ⟨y,q,h1⟩) k (bM _ h2) rfl⟩
   refine⟨by rw[G];exact bz _ (aS _ q),fun k h1 h2=>n8 k h2 k (bh.2 ⟨y,q,h1⟩) rfl⟩
  have d0:p∉x.2.ai:=fun h=>n1 (bz _ (bM _ h));rcases hr:dN c x.2 key with⟨H,u⟩
  rw[hr]at S;have O:Fr pg x.2.ai c H:=S.fr;have d1:u.pg=x.2.pg:=S.cU;have b4:u.lays H pg:=S.lays;have a2:u.aO≠[]->u.fC:=S.fits;have a3:∀k∈u.ai,k∈x.2.ai:=S.sub;have d2:u.ai.Nodup:=S.nd;have b8:l.set (aL (l.map ae) key) (x.1,u)=z++(x.1,u)::B:=by rw[<-b1,G,mW]
  have b9:(z++(x.1,u)::B).eraseIdx (aL (l.map ae) key)=z++B:=by rw[<-b1,pd]
  have Z:(z++(x.1,u)::B).map aM=l.map aM:=by
   rw[G];simp only[bu,bZ];have:aM (x.1,u)=aM x:=by
    unfold aM;rw[d1]
   rw[this]
  have L:∀y,y∈z\/y∈B->y.2.lays H pg/\y.2.fC:=fun y q=>⟨T.hJ O (b2 y (D y q).1) (D y q).2,b3 y (D y q).1⟩;have d3:iy H pg false p (l.map aM):=O.Ga a7 d0;have d4:Fr pg (p::l.flatMap fun y=>y.2.ai) c H:=O.wide fun k h=>.inl (hS k h);obtain⟨s,hs⟩:∃s:Ch×List (ByteArray×T d),(if u.aO.isEmpty then(H.free (u.pg:Nat),(z++(x.1,u)::B).eraseIdx (aL (l.map ae) key))else du H (z++(x.1,u)::B) (aL (l.map ae) key) u)=s:=⟨_,rfl⟩;have e0:dN (d:=d+1) c (p,l) key=(s.1.write (p:Nat) (aw false (s.2.map aM)),(p,s.2)):=by
   refine(dN.eq_2 c key d ((p,l):Nat×List (ByteArray×T d))).trans ?_;simp only[hx,hr,b8,hs]
   rfl
  have c0:Fr pg (l.flatMap fun y=>y.2.ai) H s.1/\(∀y∈s.2,y.2.lays s.1 pg)/\(∀y∈s.2,y.2.fC)/\(∀e∈s.2.map aM,e.ok false)/\aj false (s.2.map aM)<=1024/\(p::s.2.flatMap fun y=>y.2.ai).Nodup/\∀k∈s.2.flatMap (fun y=>y.2.ai),k∈l.flatMap fun y=>y.2.ai:=by
   by_cases a4:u.aO.isEmpty=true
   ·have a5:s=(H.free (u.pg:Nat),z++B):=by
     rw[<-hs,if_pos a4,b9]
    rw[a5];have b5:u.pg∈x.2.ai:=a3 _ (T.eP u);have b6:=Cy (pg:=pg) O.aE (T.cY b4 _ (T.eP u));have b7:(z++B).Sublist l:=by
     rw[G];exact ew (eV _) (List.sublist_cons_self _ _)
    have d5:((z++B).map aM).Sublist (l.map aM):=b7.map _;obtain⟨g1,g2⟩:=CI d5 ⟨J.2.2,J.2.1⟩;have a6:∀y∈z++B,y∈z\/y∈B:=fun y q=>bc.1 q;refine⟨b6.wide fun k b=>.inl ?_,fun y q=>T.hJ b6 (L y (a6 y q)).1 fun k b Y=>?_,fun y q=>(L y (a6 y q)).2,g1,g2,?_,?_⟩
    ·rw[ak.1 b];exact bh.2 ⟨x,M,b5⟩
    ·rw[ak.1 Y]at b;exact(D y (a6 y q)).2 _ b b5
    ·have:((z++B).flatMap fun y=>y.2.ai).Sublist (l.flatMap fun y=>y.2.ai):=by
      rw[G,aX,aX,aQ];exact ew (eV _) (List.sublist_append_right _ _)
     exact a0.sublist (this.cons_cons p)
    exact Gj fun y q=>⟨y,b7.subset q,fun k b=>b⟩
   have a5:s=du H (z++(x.1,u)::B) (aL (l.map ae) key) u:=by
    rw[<-hs,if_neg a4]
   have a2:=a2 (fun e=>a4 (by rw[e];rfl));have I:∀k∈(z++(x.1,u)::B).flatMap (fun y=>y.2.ai),k∈l.flatMap fun y=>y.2.ai:=Gj fun y q=>by
    rcases bc.1 q with h|h
    ·exact⟨y,(D y (.inl h)).1,fun k b=>b⟩
    rcases aU.1 h with e|h
    ·exact⟨x,M,fun k b=>by rw[e]at b;exact a3 k b⟩
    exact⟨y,(D y (.inr h)).1,fun k b=>b⟩
   have hK:Kids pg H p (z++(x.1,u)::B):=by
    refine⟨fun y q=>?_,fun y q=>?_,by rw[Z];exact J.2.2,by rw[Z];exact J.2.1,?_⟩
    ·rcases bc.1 q with h|h
     ·exact(L y (.inl h)).1
     rcases aU.1 h with e|h
     ·rw[e];exact b4
     exact(L y (.inr h)).1
    ·rcases bc.1 q with h|h
     ·exact(L y (.inl h)).2
     rcases aU.1 h with e|h
     ·rw[e];exact a2
     exact(L y (.inr h)).2
    rw[aX,aQ];exact wI (U:=fun _=>True) a1 d2 (fun k b=>.inl (a3 k b)) (fun _ _=>trivial)
   obtain⟨j1,j2,j3,_⟩:=Tn O.aE hK (aL (l.map ae) key) u;rw[a5];exact⟨j1.wide fun k b=>.inl (I k b),j2.lays,j2.fits,j2.aO,j2.bytes,j2.nd,fun k b=>I k (j3 k b)⟩
  obtain⟨k1,k2,k3,k4,k5,k6,k7⟩:=c0;have d6:p∉l.flatMap fun y=>y.2.ai:=(bP.1 a0).1;have d7:fE s.1 p:=k1.IE d3.1 d6;obtain⟨w1,w2,w3⟩:=gV (pg:=pg) k1.aE d7 (dY k4 k5);rw[e0];have c2:=(bP.1 k6).1;refine⟨(d4.trans (k1.wide (S':=p::l.flatMap fun y=>y.2.ai) fun k b=>.inl (aS _ b)) fun k b=>.inl b).trans w1 fun k b=>.inl (by rw[ak.1 b];exact aV),rfl,⟨⟨w2,w3⟩,fun y q=>T.hJ w1 (k2 y q) fun k b Y=>?_⟩,fun h=>⟨⟨h,k5,k4⟩,k3⟩,fun k b=>?_,k6⟩
  ·rw[ak.1 Y]at b;exact c2 (bh.2 ⟨y,q,b⟩)
  rcases aU.1 b with e|b
  ·rw[e];exact aV
  exact aS _ (k7 k b)
structure lB(pg:Nat->ByteArray)(S:List Nat)(i:Nat)(c c':Ch):Prop where
 aE:c'.aE
 keep:∀k,1<=k->k<2000->c.h.used k=true->k∉S->c'.h.used k=true/\fB pg c'.F k=fB pg c.F k
 roots:∀j,j≠i->c'.h.roots j=c.h.roots j
section
variable{pg:Nat->ByteArray}{i:Nat}
theorem Fr.tZ{S:List Nat}{c b:Ch}(h:Fr pg S c b)(i:Nat):lB pg S i c b:=⟨h.aE,h.keep,fun j _=>by rw[h.roots]⟩
theorem lB.refl{c:Ch}(h:c.aE)(S:List Nat):lB pg S i c c:=⟨h,fun _ _ _ hu _=>⟨hu,rfl⟩,fun _ _=>rfl⟩
theorem lB.trans{S S':List Nat}{c c1 q:Ch}(h:lB pg S i c c1)(b:lB pg S' i c1 q)(hs:∀k∈S',k∈S\/c.h.used k=false):lB pg S i c q:=
 ⟨b.aE,fun k s y hu hn=>by
  obtain⟨B,D⟩:=h.keep k s y hu hn;obtain⟨G,H⟩:=b.keep k s y B (fun I=>by
   rcases hs k I with e|e
   ·exact hn e
   rw[e]at hu;cases hu)
  exact⟨G,H.trans D⟩,fun j z=>(b.roots j z).trans (h.roots j z)⟩
theorem lB.set{c:Ch}{p n:Int}(h:(⟨c.h.ed i p n,c.F⟩:Ch).aE):lB pg [] i c ⟨c.h.ed i p n,c.F⟩:=
 ⟨h,fun _ _ _ hu _=>⟨hu,rfl⟩,fun j b=>by
  show(if j=i then p else c.h.roots j)=_;rw[if_neg b]⟩
theorem oJ{c:Ch}(p n:Int):(⟨c.h.ed i p n,c.F⟩:Ch).h.roots i=p:=by
 show(if i=i then p else c.h.roots i)=p;rw[if_pos rfl]
theorem Ch.aE.set{c:Ch}(h:c.aE)(i:Nat){p n:Int}(b:0<=p/\p<2000)(hn:0<=n/\n<65536):(⟨c.h.ed i p n,c.F⟩:Ch).aE:=⟨FJ h.head i b hn,h.iH⟩
theorem T.vn{c:Ch}{p n:Int}:{d:Nat}->{t:T d}->t.lays c pg->t.lays ⟨c.h.ed i p n,c.F⟩ pg
 |0,t,h=>h
 |d+1,t,h=>⟨h.1,fun x b=>T.vn (h.2 x b)⟩
structure ma(pg:Nat->ByteArray)(i:Nat)(c:Ch)(X:Tr)(c':Ch)(X':Tr):Prop where
 k:lB pg X.ai i c c'
 lays:X'.lays c' pg i
 sub:∀k∈X'.ai,k∈X.ai\/c.h.used k=false
theorem ma.refl{c:Ch}{X:Tr}(hc:c.aE)(h:X.lays c pg i):ma pg i c X c X:=⟨lB.refl hc _,h,fun _ h=>.inl h⟩
theorem ma.more{c q:Ch}{X b:Tr}(h:ma pg i c X q b)(hi:i<8)(m:Int):ma pg i c X (ey q i m).1 b:=by
 unfold ey
 split
 ·rename_i s
  have hf:=h.k.aE.set i (h.k.aE.head.root i hi) s;refine⟨h.k.trans (lB.set hf) (fun k y=>by cases y),?_,h.sub⟩;cases b with
  |none=>
   have:=h.lays;exact(oJ _ _).trans this
  |some t=>exact⟨(oJ _ _).trans h.lays.1,T.vn h.lays.2.1,h.lays.2.2⟩
 exact h
theorem Gk{d:Nat}{u:T d}(b:u.fC):((u.aO.head?.map En.key).getD fJ).size<=60:=by
 have b:=(T.lA.1 b).1.2.2;cases q:u.aO with
 |nil=>show(0:Nat)<=60;omega
 |cons e r=>
  rw[q]at b;exact(b e aV).key
def Aw(b:ByteArray)(p1:Nat)(k2:ByteArray)(p2:Nat):List En:=[⟨b,fJ,p1⟩,⟨k2,fJ,p2⟩]
theorem KD{q k2:ByteArray}{p1 p2:Nat}(s:q.size<=60)(y:k2.size<=60)(g1:p1<2000)(g2:p2<2000):qG false (Aw q p1 k2 p2):=by
 refine⟨(fun h=>by cases h),?_,fun e b=>?_⟩
 ·unfold Aw aj;rw[cE,cE];unfold En.sz dq;simp;omega
 unfold Aw at b;simp at b;rcases b with rfl|rfl
 ·exact⟨s,by show(0:Nat)<=100;omega,g1,(fun h=>by cases h),fun _=>rfl⟩
 exact⟨y,by show(0:Nat)<=100;omega,g2,(fun h=>by cases h),fun _=>rfl⟩
theorem KE{key item:ByteArray}(q:key.size<=60)(s:item.size<=100):qG true [⟨key,item,0⟩]:=by
 refine⟨(fun h=>by cases h),?_,fun e b=>?_⟩
 ·unfold aj;rw[cE];unfold En.sz dq;simp;omega
 simp at b;rw[b];exact⟨q,s,by show(0:Nat)<2000;omega,fun _=>rfl,(fun h=>by cases h)⟩
theorem zm{c:Ch}{X:Tr}(hc:c.aE)(h:X.lays c pg i)(hi:i<8){key item:ByteArray}(G:key.size<=60)(hit:item.size<=100):ma pg i c X (bN c i X key item).1 (bN c i X key item).2.1:=by
 cases X with
 |none=>
  unfold bN;cases ha:cS c.h with
  |none=>exact ma.refl hc h
  |some k=>
   obtain⟨f1,u1,J,k1,k2⟩:=oH (pg:=pg) hc ha;have L:=KE G hit;obtain⟨f2,u2,M⟩:=gV (pg:=pg) f1.aE u1 (dY L.2.2 L.2.1);have hf:=f2.aE.set i (p:=(k:Nat)) (n:=((c.alloc.write (k:Nat) (aw true [⟨key,item,0⟩])).h.notes i)) (by omega) (f2.aE.head.note i hi);have V:lB pg [] i c (c.alloc.write (k:Nat) (aw true [⟨key,item,0⟩])):=(f1.tZ i).trans (f2.tZ i) fun j b=>.inr (by rw[ak.1 b];exact J);refine⟨V.trans (lB.set hf) (fun k G=>by cases G),⟨oJ _ _,⟨u2,M⟩,L,?_⟩,fun j b=>.inr ?_⟩
   ·show([k]:List Nat).Nodup;simp
   have:j∈([k]:List Nat):=b;rw[ak.1 this];exact J
 |some x=>
  obtain⟨d,t⟩:=x;obtain⟨hr,hl,L,hn⟩:=h;have q:=xU (pg:=pg) G hit hc hl L hn;rcases O:dt c t key item with⟨s,u,r⟩
  rw[O]at q;have z:ma pg i c (some ⟨d,t⟩) s (some ⟨d,u⟩):=by
   refine⟨q.fr.tZ i,⟨?_,q.lays,q.fits,q.nd⟩,q.sub⟩;show s.h.roots i=(u.pg:Nat);have e1:s.h.roots=c.h.roots:=q.fr.roots;have M:u.pg=t.pg:=q.cU;rw[e1,M];exact hr
  rcases r with _|_|m
  ·unfold bN;simp only[O];exact z
  ·unfold bN;simp only[O];exact z
  cases ha:cS s.h with
  |none=>
   unfold bN;simp only[O,ha];exact z
  |some k=>
   unfold bN;simp only[O,ha];obtain⟨Q,Y,mk,Z,mn⟩:=q.more m rfl;have Q:m.2.lays s pg:=Q;have Y:m.2.fC:=Y;have Z:∀k∈m.2.ai,k∈t.ai\/c.h.used k=false:=Z;have mn:(u.ai++m.2.ai).Nodup:=mn;have ul:u.lays s pg:=q.lays;have uo:u.fC:=q.fits;obtain⟨f1,u1,J,k1,k2⟩:=oH (pg:=pg) q.fr.aE ha;have uu:=T.cY ul;have mu:=T.cY Q;have H:=KD (p1:=u.pg) (p2:=m.2.pg) (Gk uo) mk (uu _ (T.eP u)).2.1 (mu _ (T.eP m.2)).2.1;obtain⟨f2,u2,M⟩:=gV (pg:=pg) f1.aE u1 (dY H.2.2 H.2.1);have hf:=f2.aE.set i (p:=(k:Nat)) (n:=((s.alloc.write (k:Nat) (aw false (Aw ((u.aO.head?.map En.key).getD fJ) u.pg m.1 m.2.pg))).h.notes i)) (by omega) (f2.aE.head.note i hi);have I:Fr pg [k] s (s.alloc.write (k:Nat) (aw false (Aw ((u.aO.head?.map En.key).getD fJ) u.pg m.1 m.2.pg))):=(f1.wide (S':=[k]) fun j b=>by cases b).trans f2 fun j b=>.inl b;have S:∀j,fE s j->j∉([k]:List Nat):=fun j b D=>by
    have:=ak.1 D;rw[this]at b;have:=b.2.2;rw[J]at this;cases this
   have U:k∈t.ai\/c.h.used k=false:=by
    by_cases hu:c.h.used k=true
    ·by_cases D:k∈t.ai
     ·exact .inl D
     have:=(q.fr.keep k k1 k2 hu D).1;rw[J]at this;cases this
    exact .inr (by simpa using hu)
   have V:lB pg t.ai i c (s.alloc.write (k:Nat) (aw false (Aw ((u.aO.head?.map En.key).getD fJ) u.pg m.1 m.2.pg))):=(q.fr.tZ i).trans (I.tZ i) fun j b=>by rw[ak.1 b];exact U
   refine⟨V.trans (lB.set hf) (fun k G=>by cases G),⟨oJ _ _,⟨⟨u2,M⟩,fun y B=>?_⟩,⟨H,fun y B=>?_⟩,?_⟩,fun j b=>?_⟩
   ·refine T.vn ?_;have B:y∈[((u.aO.head?.map En.key).getD fJ,u),m]:=B;rcases aU.1 B with e|B
    ·rw[e];exact T.hJ I ul fun j b=>S j (uu j b)
    rw[ak.1 B];exact T.hJ I Q fun j b=>S j (mu j b)
   ·have B:y∈[((u.aO.head?.map En.key).getD fJ,u),m]:=B;rcases aU.1 B with e|B
    ·rw[e];exact uo
    rw[ak.1 B];exact Y
   ·show(k::(u.ai++(m.2.ai++[]))).Nodup;rw[bC];refine bP.2 ⟨fun D=>?_,mn⟩;rcases bc.1 D with D|D
    ·exact S k (uu k D) (ak.2 rfl)
    exact S k (mu k D) (ak.2 rfl)
   have b:j∈k::(u.ai++(m.2.ai++[])):=b;rw[bC]at b;rcases aU.1 b with e|b
   ·rw[e];exact U
   rcases bc.1 b with b|b
   ·exact q.sub j b
   exact Z j b
theorem To{c:Ch}{X:Tr}(hc:c.aE)(h:X.lays c pg i)(hi:i<8)(key item:ByteArray):ma pg i c X (kh c i X key item).1 (kh c i X key item).2.1:=by
 unfold kh
 split
 ·exact ma.refl hc h
 rename_i hs
 split
 ·exact ma.refl hc h
 have b:=zm hc h hi (key:=key) (item:=item) (by omega) (by omega);rcases q:bN c i X key item with⟨s,u,n⟩
 rw[q]at b;cases n with
 |zero=>exact b.more hi _
 |succ n=>exact b
theorem CJ{c:Ch}{X:Tr}(hc:c.aE)(h:X.lays c pg i)(hi:i<8)(key:ByteArray):ma pg i c X (cM c i X key).1 (cM c i X key).2:=by
 cases X with
 |none=>exact ma.refl hc h
 |some x=>
  obtain⟨d,t⟩:=x;obtain⟨hr,hl,ho,hn⟩:=h;have s:=re (pg:=pg) (key:=key) hc hl ho hn;rcases S:dN c t key with⟨q,u⟩
  rw[S]at s;have D:Fr pg t.ai c q:=s.fr;have H:u.pg=t.pg:=s.cU;have I:u.lays q pg:=s.lays;have J:∀k∈u.ai,k∈t.ai:=s.sub;have L:u.ai.Nodup:=s.nd;have U:q.h.roots i=(u.pg:Nat):=by
   rw[D.roots,H];exact hr
  have V:fE q t.pg:=by
   rw[<-H];exact T.cY I _ (T.eP u)
  have f2:=Cy (pg:=pg) D.aE V;have kf:lB pg t.ai i c (q.free (t.pg:Nat)):=(D.tZ i).trans (f2.tZ i) fun k b=>.inl (by rw[ak.1 b];exact T.eP t);have z:u.aO≠[]->ma pg i c (some ⟨d,t⟩) q (some ⟨d,u⟩):=fun G=>⟨D.tZ i,⟨U,I,s.fits G,L⟩,fun k b=>.inl (J k b)⟩;have B:ma pg i c (some ⟨d,t⟩) ((q.free (t.pg:Nat)).root i 0) none:=by
   have hf:=f2.aE.set i (p:=0) (n:=(q.free (t.pg:Nat)).h.notes i) (by omega) (f2.aE.head.note i hi);exact⟨kf.trans (lB.set hf) (fun k b=>by cases b),oJ _ _,fun k b=>by cases b⟩
  cases d with
  |zero=>
   unfold cM;simp only[S]
   split
   ·exact B
   rename_i M
   exact z fun e=>M (by rw[e];rfl)
  |succ d=>
   obtain⟨p,l⟩:Nat×List (ByteArray×T d):=u;unfold cM;simp only[S]
   split
   ·exact B
   rename_i M
   have G:T.aO (d:=d+1) (p,l)≠[]:=fun e=>M (by rw[e];rfl);have hs:=z G;have Y:∀x,l=[x]->ma pg i c (some ⟨d+1,t⟩) ((q.free (t.pg:Nat)).root i (T.pg (d:=d) x.2:Nat)) (some ⟨d,x.2⟩):=by
    intro x hx;subst hx;have O:x.2.lays q pg:=I.2 x aV;have Z:x.2.fC:=(s.fits G).2 x aV;have Q:T.ai (d:=d+1) (p,[x])=p::(x.2.ai++[]):=rfl;rw[bC]at Q;rw[Q]at L J;obtain⟨n1,n2⟩:=bP.1 L;have a0:p=t.pg:=H;have a1:x.2.lays (q.free (t.pg:Nat)) pg:=T.hJ f2 O fun k b hm=>by
     rw[ak.1 hm,<-a0]at b;exact n1 b
    have a2:=T.cY O _ (T.eP x.2);have hf:=f2.aE.set i (p:=(x.2.pg:Nat)) (n:=(q.free (t.pg:Nat)).h.notes i) (by have:=a2.2.1;omega) (f2.aE.head.note i hi);exact⟨kf.trans (lB.set hf) (fun k b=>by cases b),⟨oJ _ _,T.vn a1,Z,n2⟩,fun k b=>.inl (J k (aS _ b))⟩
   rcases l with _|⟨x,_|⟨y,r⟩⟩
   ·exact hs
   ·exact Y x rfl
   exact hs
theorem QG{c:Ch}{X:Tr}(hc:c.aE)(h:X.lays c pg i)(hi:i<8)(key:ByteArray):ma pg i c X (mo c i X key).1 (mo c i X key).2.1:=by
 unfold mo;cases X.get key with
 |none=>exact ma.refl hc h
 |some b=>exact(CJ hc h hi key).more hi _
end
theorem M6(a b:List UInt8):bj b a=-bj a b:=by
 induction a generalizing b with
 |nil=>cases b<;>simp[bj]
 |cons x B z=>
  cases b with
  |nil=>simp[bj]
  |cons y D=>
   simp only[bj];by_cases q:x<y
   ·have s:¬y<x:=fun h=>UInt8.lt_irrefl _ (fS q h);simp[q,s]
   by_cases s:y<x
   ·simp[q,s]
   simp[q,s,z]
theorem KG(a b c:List UInt8)(B:bj a b=-1)(q:bj b c=-1):bj a c=-1:=by
 induction a generalizing b c with
 |nil=>
  cases c with
  |nil=>cases b<;>simp[bj]at B q
  |cons z I=>simp[bj]
 |cons x L J=>
  cases b with
  |nil=>simp[bj]at B
  |cons y M=>
   cases c with
   |nil=>simp[bj]at q
   |cons z I=>
    simp only[bj]at B q⊢;by_cases D:x<y
    ·by_cases s:y<z
     ·simp[fS D s]
     by_cases G:z<y
     ·simp[s,G]at q
     have e:y=z:=eY (ej.1 G) (ej.1 s);subst e;simp[D]
    by_cases H:y<x
    ·simp[D,H]at B
    have e:x=y:=eY (ej.1 H) (ej.1 D);subst e;simp only[D,if_false]at B;by_cases s:x<z
    ·simp[s]
    by_cases G:z<x
    ·simp[s,G]at q
    simp only[s,G,if_false]at q⊢;exact J _ _ B q
def aC(a b:ByteArray):Prop:=g_ a b<0
instance (a b:ByteArray):Decidable (aC a b):=inferInstanceAs (Decidable (g_ a b<0))
theorem CK(a b:ByteArray):g_ a b=-1\/g_ a b=0\/g_ a b=1:=Ad _ _
theorem vp{a b:ByteArray}:g_ a b=0↔a=b:=⟨fun h=>bE ((oP _ _).1 h),fun h=>(oP _ _).2 (by rw[h])⟩
theorem wO(a b:ByteArray):g_ b a=-g_ a b:=M6 _ _
theorem ku{a b:ByteArray}:aC a b↔g_ a b=-1:=by
 unfold aC;rcases CK a b with h|h|h<;>omega
theorem bL(a:ByteArray):¬aC a a:=by
 unfold aC;rw[vp.2 rfl];omega
theorem fi{a b c:ByteArray}(q:aC a b)(s:aC b c):aC a c:=ku.2 (KG _ _ _ (ku.1 q) (ku.1 s))
theorem dO{a b:ByteArray}(q:aC a b):¬aC b a:=fun s=>bL a (fi q s)
theorem kN(a b:ByteArray):aC a b\/a=b\/aC b a:=by
 rcases CK a b with h|h|h
 ·exact .inl (ku.2 h)
 ·exact .inr (.inl (vp.1 h))
 refine .inr (.inr (ku.2 ?_));rw[wO,h]
theorem KH{a b:ByteArray}(q:¬aC a b)(s:a≠b):aC b a:=by
 rcases kN a b with h|h|h
 ·exact absurd h q
 ·exact absurd h s
 exact h
theorem vT{a b c:ByteArray}(s:¬aC b a)(q:aC b c):aC a c:=by
 rcases kN a b with h|h|h
 ·exact fi h q
 ·rw[h];exact q
 exact absurd h s
theorem gn{a b c:ByteArray}(q:aC a b)(s:¬aC c b):aC a c:=by
 rcases kN b c with h|h|h
 ·exact fi q h
 ·rw[<-h];exact q
 exact absurd h s
abbrev KI (b:List ByteArray):Prop:=b.Pairwise aC
theorem zn(lt:Nat->Bool)(n:Nat)(q:∀a b,a<=b->b<n->lt b=true->lt a=true):∀f i j,i<=j->j<=n->j-i<=f->(∀h,h<i->lt h=true)->(∀h,j<=h->h<n->lt h=false)->(∀h,h<yZ lt f i j->lt h=true)/\∀h,yZ lt f i j<=h->h<n->lt h=false
 |0,i,j,H,B,I,s,y=>by
  have e:i=j:=by omega
  subst e;exact⟨s,y⟩
 |f+1,i,j,H,B,I,s,y=>by
  unfold yZ;by_cases D:i<j
  ·rw[if_pos D];by_cases z:lt ((i+j)/2)=true
   ·rw[if_pos z];exact zn lt n q f _ _ (by omega) B (by omega) (fun h G=>q h ((i+j)/2) (by omega) (by omega) z) y
   rw[if_neg z];refine zn lt n q f _ _ (by omega) (by omega) (by omega) s (fun h G hn=>?_);cases hv:lt h with
   |false=>rfl
   |true=>exact absurd (q ((i+j)/2) h G hn hv) z
  rw[if_neg D];have e:i=j:=by omega
  subst e;exact⟨s,y⟩
theorem xZ{b:List ByteArray}{k:ByteArray}{h:Nat}(q:h<b.length):Iw b k h=true↔aC b[h] k:=by
 unfold Iw aC;rw[decide_eq_true_eq,cj,bA q]
 rfl
theorem x_{q:List ByteArray}(hs:KI q)(k:ByteArray):(∀h (s:h<q.length),h<am q k->aC q[h] k)/\∀h (s:h<q.length),am q k<=h->¬aC q[h] k:=by
 have L:=cs.1 hs;have y:∀a b,a<=b->b<q.length->Iw q k b=true->Iw q k a=true:=fun a b B G h=>by
  rw[xZ G]at h;rw[xZ (by omega)];rcases eB B with e|e
  ·subst e;exact h
  exact fi (L a b (by omega) G e) h
 obtain⟨H,I⟩:=zn (Iw q k) q.length y q.length 0 q.length (fy _) (bT _) (by omega) (fun h s=>absurd s (fA _)) (fun h H I=>by omega);refine⟨fun h s z=>(xZ s).1 (H h z),fun h s z D=>?_⟩;have J:=I h z s;rw[(xZ s).2 D]at J;cases J
theorem Tp{b:List ByteArray}{k:ByteArray}(h:dR b k=true):∃q:am b k<b.length,b[am b k]=k:=by
 have q:=oW h;refine⟨q,?_⟩;unfold dR at h;rw[fn,decide_eq_true_eq,decide_eq_true_eq,cj,bA q]at h;exact vp.1 h.2
theorem IU{b:List ByteArray}(hs:KI b){k:ByteArray}(h:k∈b):dR b k=true:=by
 obtain⟨i,hi,q⟩:=cD h;obtain⟨D,G⟩:=x_ hs k;have H:=cs.1 hs;have y:am b k<=i:=by
  rcases ea i (am b k)with s|s
  ·have:=D i hi s;rw[q]at this;exact absurd this (bL k)
  exact s
 have z:am b k=i:=by
  rcases eB y with e|e
  ·exact e
  have B:=H (am b k) i (by omega) hi e;rw[q]at B;exact absurd B (G (am b k) (by omega) (bT _))
 unfold dR;rw[fn,decide_eq_true_eq,decide_eq_true_eq,cj,bA (by omega)];refine⟨by omega,vp.2 ?_⟩;show b[am b k]=k;simp only[z];exact q
theorem CM{X:Type}{l:List (ByteArray×X)}(hs:KI (l.map ae))(k:ByteArray):
  (∀x∈l.take (am (l.map ae) k),aC x.1 k)/\
  (dR (l.map ae) k=true->∃x,l.drop (am (l.map ae) k)=x::l.drop (am (l.map ae) k+1)/\x.1=k/\∀y∈l.drop (am (l.map ae) k+1),aC k y.1)/\
  (dR (l.map ae) k=false->∀y∈l.drop (am (l.map ae) k),aC k y.1):=by
 obtain⟨I,J⟩:=x_ hs k;have L:=cs.1 hs;have s:∀i (hi:i<l.length),(l.map ae)[i]'(by rw[aJ];exact hi)=l[i].1:=fun i hi=>dU _;refine⟨fun x M=>?_,fun z=>?_,fun z y B=>?_⟩
 ·obtain⟨i,hi,rfl⟩:=cD M;have b:i<l.length:=by rw[co]at hi;omega
  rw[List.getElem_take,<-s i b];exact I i (by rw[aJ];exact b) (by rw[co]at hi;omega)
 ·obtain⟨D,G⟩:=Tp z;have q:am (l.map ae) k<l.length:=by rw[aJ]at D;exact D
  rw[s _ q]at G;refine⟨l[am (l.map ae) k],bQ q,G,fun y B=>?_⟩;obtain⟨i,hi,rfl⟩:=cD B;have b:am (l.map ae) k+1+i<l.length:=by rw[bF]at hi;omega
  have:=L (am (l.map ae) k) (am (l.map ae) k+1+i) D (by rw[aJ];exact b) (by omega);rw[s _ q,s _ b,G]at this;rw[cL];exact this
 obtain⟨i,hi,rfl⟩:=cD B;have b:am (l.map ae) k+i<l.length:=by rw[bF]at hi;omega
 have H:=J (am (l.map ae) k+i) (by rw[aJ];exact b) (by omega);rw[s _ b]at H;rw[cL];refine KH H (fun e=>?_);have O:k∈l.map ae:=cg.2 ⟨_,fl b,e⟩;rw[IU hs O]at z;cases z
def bV(l:List (ByteArray×ByteArray))(k:ByteArray):Option ByteArray:=(l.find? fun x=>decide (x.1=k)).map cf
abbrev LP:Type:=List (ByteArray×ByteArray)
def au(l:LP)(k v:ByteArray):LP:=l.filter (fun x=>decide (aC x.1 k))++(k,v)::l.filter fun x=>decide (aC k x.1)
def cZ(l:LP)(k:ByteArray):LP:=l.filter fun x=>decide (x.1≠k)
def jt(l:LP)(s:ByteArray):LP:=l.filter fun x=>decide (¬aC x.1 s)
abbrev eC (l:LP):Prop:=KI (l.map ae)
theorem filter_all{b:Type}{p:b->Bool}{l:List b}(h:∀x∈l,p x=true):l.filter p=l:=List.filter_eq_self.2 h
theorem my{b:Type}{p:b->Bool}{l:List b}(h:∀x∈l,p x=false):l.filter p=[]:=List.filter_eq_nil_iff.2 fun x q=>by rw[h x q];simp
theorem mz(a m b:LP)(k v:ByteArray)(ha:∀x∈a,aC x.1 k)(s:∀x∈b,aC k x.1):au (a++m++b) k v=a++au m k v++b:=by
 unfold au;simp only[dJ];rw[filter_all (l:=a) (p:=fun x=>decide (aC x.1 k)) (fun x q=>decide_eq_true (ha x q)),my (l:=b) (p:=fun x=>decide (aC x.1 k)) (fun x q=>decide_eq_false (dO (s x q))),my (l:=a) (p:=fun x=>decide (aC k x.1)) (fun x q=>decide_eq_false (dO (ha x q))),filter_all (l:=b) (p:=fun x=>decide (aC k x.1)) (fun x q=>decide_eq_true (s x q))];simp
theorem pl(a m b:LP)(k:ByteArray)(ha:∀x∈a,aC x.1 k)(s:∀x∈b,aC k x.1):cZ (a++m++b) k=a++cZ m k++b:=by
 unfold cZ;simp only[dJ];rw[filter_all (l:=a) (p:=fun x=>decide (x.1≠k)) (fun x q=>decide_eq_true (fun e=>bL k (by have:=ha x q;rw[e]at this;exact this))),filter_all (l:=b) (p:=fun x=>decide (x.1≠k)) (fun x q=>decide_eq_true (fun e=>bL k (by have:=s x q;rw[e]at this;exact this)))]
theorem oK(a m b:LP)(k:ByteArray)(ha:∀x∈a,aC x.1 k)(s:∀x∈b,aC k x.1):bV (a++m++b) k=bV m k:=by
 unfold bV;have y:a.find? (fun x=>decide (x.1=k))=none:=dQ.2 fun x q=>by
  simp only[decide_eq_true_eq];exact fun e=>bL k (by have:=ha x q;rw[e]at this;exact this)
 have z:b.find? (fun x=>decide (x.1=k))=none:=dQ.2 fun x q=>by
  simp only[decide_eq_true_eq];exact fun e=>bL k (by have:=s x q;rw[e]at this;exact this)
 rw[fe,fe,y,z];simp
theorem wP(a m b:LP)(k:ByteArray)(ha:∀x∈a,aC x.1 k)(s:∀x∈b,aC k x.1):jt (a++m++b) k=jt m k++b:=by
 unfold jt;simp only[dJ];rw[my (l:=a) (p:=fun x=>decide (¬aC x.1 k)) (fun x q=>decide_eq_false (fun h=>h (ha x q))),filter_all (l:=b) (p:=fun x=>decide (¬aC x.1 k)) (fun x q=>decide_eq_true (dO (s x q)))];simp
theorem CN{b:Type}(l:List b){i:Nat}{x:b}{r:List b}(h:l.drop i=x::r)(y:b):l.set i y=l.take i++y::r:=by
 have s:i<l.length:=by
  rcases ea i l.length with q|q
  ·exact q
  rw[cO q]at h;cases h
 rw[List.set_eq_take_append_cons_drop,if_pos s];rw[bQ s]at h;injection h with _ h
 rw[h]
theorem zo{b:Type}(l:List b){i:Nat}{x:b}{r:List b}(h:l.drop i=x::r):l.eraseIdx i=l.take i++r:=by
 have s:i<l.length:=by
  rcases ea i l.length with q|q
  ·exact q
  rw[cO q]at h;cases h
 rw[List.eraseIdx_eq_take_drop_succ];rw[bQ s]at h;injection h with _ h
 rw[h]
theorem Ax{b:Type}(x:b):∀(l:List b) (i:Nat),i<=l.length->l.insertIdx i x=l.take i++x::l.drop i
 |l,0,_=>by simp
 |[],i+1,h=>by simp at h
 |a::l,i+1,h=>by
  have:=Ax x l i (by simpa using h);simp[List.insertIdx_succ_cons,this]
section
variable{l:LP}(hs:eC l)(k:ByteArray)
include hs
theorem nc:∃a b,l=a++b/\a=l.take (am (l.map ae) k)/\b=l.drop (am (l.map ae) k)/\(∀x∈a,aC x.1 k)/\((dR (l.map ae) k=true/\∃v r,b=(k,v)::r/\∀y∈r,aC k y.1)\/(dR (l.map ae) k=false/\∀y∈b,aC k y.1)):=by
 obtain⟨s,z,B⟩:=CM hs k;refine⟨_,_,(bv _ _).symm,rfl,rfl,s,?_⟩;cases q:dR (l.map ae) k with
 |true=>
  obtain⟨x,e,D,G⟩:=z q;refine .inl ⟨rfl,x.2,_,?_,G⟩;rw[e,<-D]
 |false=>exact .inr ⟨rfl,B q⟩
theorem Pn(v:ByteArray):eN l k v=au l k v:=by
 obtain⟨a,b,e,D,G,H,J⟩:=nc hs k;unfold eN;have M:∀r:LP,(∀y∈r,aC k y.1)->(r.filter fun x=>decide (aC x.1 k))=[]/\(r.filter fun x=>decide (aC k x.1))=r:=fun r q=>⟨my fun x z=>decide_eq_false (dO (q x z)),filter_all fun x z=>decide_eq_true (q x z)⟩;rcases J with⟨B,u,r,I,q⟩|⟨B,q⟩
 ·rw[B,if_pos rfl,CN l (G.symm.trans I) (k,v),<-D];rw[e,I];have s:=mz a [(k,u)] r k v H q;rw[show a++(k,u)::r=a++[(k,u)]++r by simp,s];unfold au;have L:¬aC k k:=bL k;simp[L]
 rw[B,if_neg (by simp),Ax _ _ _ (by have:=jJ (l.map ae) k;rw[aJ]at this;exact this),<-D,<-G];rw[e];have s:=mz a [] b k v H q;rw[bC]at s;rw[s];unfold au;simp
theorem KJ(y:dR (l.map ae) k=true):l.eraseIdx (am (l.map ae) k)=cZ l k:=by
 obtain⟨a,b,e,z,B,D,G⟩:=nc hs k;rcases G with⟨_,u,r,q,H⟩|⟨s,_⟩
 ·rw[zo l (B.symm.trans q),<-z];rw[e,q,show a++(k,u)::r=a++[(k,u)]++r by simp,pl a [(k,u)] r k D H];unfold cZ;simp
 rw[y]at s;cases s
theorem Po:l.drop (am (l.map ae) k)=jt l k:=by
 obtain⟨a,b,e,H,z,s,B⟩:=nc hs k;rw[<-z];rcases B with⟨_,u,r,D,q⟩|⟨_,q⟩
 ·rw[e,D,show a++(k,u)::r=a++[(k,u)]++r by simp,wP a [(k,u)] r k s q];unfold jt;have G:¬aC k k:=bL k;simp[G]
 have y:=wP a [] b k s q;rw[bC]at y;rw[e,y];unfold jt;simp
theorem M7:(if dR (l.map ae) k then(l[am (l.map ae) k]?).map cf else none)=bV l k:=by
 obtain⟨a,b,e,I,D,y,G⟩:=nc hs k;rcases G with⟨q,u,r,z,s⟩|⟨q,s⟩
 ·have H:l[am (l.map ae) k]?=some (k,u):=by
   have:(l.drop (am (l.map ae) k))[0]?=some (k,u):=by rw[<-D,z];rfl
   rw[List.getElem?_drop,Nat.add_zero]at this;exact this
  rw[q,if_pos rfl,H];rw[e,z,show a++(k,u)::r=a++[(k,u)]++r by simp,oK a [(k,u)] r k y s];unfold bV;simp
 rw[q,if_neg (by simp)];have B:=oK a [] b k y s;rw[bC]at B;rw[e,B]
 rfl
end
theorem lf{a b:List ByteArray}:KI (a++b)↔KI a/\KI b/\∀x∈a,∀y∈b,aC x y:=dA
theorem qp{l:LP}(hs:eC l)(p:ByteArray×ByteArray->Bool):eC (l.filter p):=he ((List.filter_sublist (p:=p) (l:=l)).map _) hs
theorem Gl{l:LP}(hs:eC l)(k v:ByteArray):eC (au l k v):=by
 unfold eC au;rw[bu,bZ];refine lf.2 ⟨qp hs _,eH.2 ⟨fun y b=>?_,qp hs _⟩,fun x B y b=>?_⟩
 ·obtain⟨z,q,rfl⟩:=cg.1 b;simpa using(cF.1 q).2
 obtain⟨z,q,rfl⟩:=cg.1 B;have s:aC z.1 k:=by simpa using(cF.1 q).2
 rcases aU.1 b with e|b
 ·rw[e];exact s
 obtain⟨u,hu,rfl⟩:=cg.1 b;have D:aC k u.1:=by simpa using(cF.1 hu).2
 exact fi s D
theorem CO{l:LP}(hs:eC l)(k:ByteArray):eC (cZ l k):=qp hs _
theorem oL{l:LP}{k v:ByteArray}{x:ByteArray×ByteArray}(h:x∈au l k v):x∈l\/x=(k,v):=by
 unfold au at h;rcases bc.1 h with h|h
 ·exact .inl (cF.1 h).1
 rcases aU.1 h with h|h
 ·exact .inr h
 exact .inl (cF.1 h).1
abbrev KL:Type:=ByteArray×T 0
def KL.kv(x:KL):LP:=T.kv x.2
def eo(ls:List KL):LP:=ls.flatMap KL.kv
theorem dE(a b:List KL):eo (a++b)=eo a++eo b:=aX
theorem dm(x:KL)(b:List KL):eo (x::b)=x.kv++eo b:=aQ
theorem ng:eo []=[]:=rfl
structure fF(ls:List KL):Prop where
 keys:KI (ls.map ae)
 leaf:∀x∈ls,eC x.kv/\∀e∈x.kv,¬aC e.1 x.1
 next:ls.Pairwise fun x y=>∀e∈x.kv,aC e.1 y.1
theorem iZ{a b:List KL}:fF (a++b)↔fF a/\fF b/\∀x∈a,∀y∈b,aC x.1 y.1/\∀e∈x.kv,aC e.1 y.1:=by
 constructor
 ·intro h;have D:=h.keys;rw[bu]at D;obtain⟨H,I,J⟩:=lf.1 D;obtain⟨L,M,O⟩:=dA.1 h.next;exact⟨⟨H,fun x q=>h.leaf x (bM _ q),L⟩,⟨I,fun x q=>h.leaf x (bz _ q),M⟩,fun x q y s=>⟨J x.1 (b_ q) y.1 (b_ s),O x q y s⟩⟩
 rintro⟨z,B,G⟩;refine⟨?_,fun x q=>(bc.1 q).elim (z.leaf x) (B.leaf x),dA.2 ⟨z.next,B.next,fun x q y s=>(G x q y s).2⟩⟩;rw[bu];refine lf.2 ⟨z.keys,B.keys,fun x q y s=>?_⟩;obtain⟨u,hu,rfl⟩:=cg.1 q;obtain⟨v,hv,rfl⟩:=cg.1 s;exact(G u hu v hv).1
theorem i_{x:KL}{b:List KL}:fF (x::b)↔(eC x.kv/\∀e∈x.kv,¬aC e.1 x.1)/\fF b/\∀y∈b,aC x.1 y.1/\∀e∈x.kv,aC e.1 y.1:=by
 have:=iZ (a:=[x]) (b:=b);rw[da]at this;rw[this]
 constructor
 ·rintro⟨s,z,B⟩;exact⟨s.leaf x (by simp),z,fun y q=>B x (by simp) y q⟩
 rintro⟨s,z,B⟩;refine⟨⟨by simp,fun y q=>?_,by simp⟩,z,fun u hu y q=>?_⟩
 ·rw[ak.1 q];exact s
 rw[ak.1 hu];exact B y q
theorem ya{ls:List KL}{e:ByteArray×ByteArray}:e∈eo ls↔∃x∈ls,e∈x.kv:=bh
theorem KK:∀{ls:List KL},fF ls->eC (eo ls)
 |[],_=>by simp[eC,eo]
 |x::b,h=>by
  obtain⟨B,s,D⟩:=i_.1 h;unfold eC;rw[dm,bu];refine lf.2 ⟨B.1,KK s,fun u hu v hv=>?_⟩;obtain⟨e,G,rfl⟩:=cg.1 hu;obtain⟨f,hf,rfl⟩:=cg.1 hv;obtain⟨y,z,q⟩:=ya.1 hf;exact gn ((D y z).2 e G) ((s.leaf y z).2 f q)
theorem hQ{ls:List KL}(h:fF ls){k:ByteArray}{x0:KL}{r0:List KL}(V:ls=x0::r0)(Y:¬aC k x0.1):
  ∃a x b,ls=a++x::b/\a.length=aL (ls.map ae) k/\¬aC k x.1/\(∀y∈b,aC k y.1)/\(∀e∈eo a,aC e.1 k)/\(∀e∈eo b,aC k e.1)/\fF a/\(eC x.kv/\∀e∈x.kv,¬aC e.1 x.1)/\fF b/\(∀y∈b,aC x.1 y.1/\∀e∈x.kv,aC e.1 y.1)/\∀y∈a,aC y.1 x.1/\∀e∈y.kv,aC e.1 x.1:=by
 obtain⟨Z,p2,p3⟩:=CM h.keys k;have main:∀(a:List KL) (x:KL) (b:List KL),ls=a++x::b->a.length=aL (ls.map ae) k->¬aC k x.1->(∀y∈b,aC k y.1)->∃a x b,ls=a++x::b/\a.length=aL (ls.map ae) k/\¬aC k x.1/\(∀y∈b,aC k y.1)/\(∀e∈eo a,aC e.1 k)/\(∀e∈eo b,aC k e.1)/\fF a/\(eC x.kv/\∀e∈x.kv,¬aC e.1 x.1)/\fF b/\(∀y∈b,aC x.1 y.1/\∀e∈x.kv,aC e.1 y.1)/\∀y∈a,aC y.1 x.1/\∀e∈y.kv,aC e.1 x.1:=by
  intro a x b J e2 L M;rw[J]at h;obtain⟨o1,o2,O⟩:=iZ.1 h;obtain⟨c1,Q,c3⟩:=i_.1 o2;refine⟨a,x,b,J,e2,L,M,fun e D=>?_,fun e D=>?_,o1,c1,Q,c3,fun y q=>O y q x aV⟩
  ·obtain⟨y,q,s⟩:=ya.1 D;exact gn ((O y q x aV).2 e s) L
  obtain⟨y,q,s⟩:=ya.1 D;exact gn (M y q) ((Q.leaf y q).2 e s)
 cases z:dR (ls.map ae) k with
 |true=>
  obtain⟨x,e,hx,q⟩:=p2 z;refine main (ls.take (am (ls.map ae) k)) x (ls.drop (am (ls.map ae) k+1)) ?_ ?_ ?_ q
  ·rw[<-e,bv]
  ·have:=oW z;rw[aJ]at this;unfold aL;rw[z,if_pos rfl,co];omega
  rw[hx];exact bL k
 |false=>
  have G:=p3 z;have U:1<=am (ls.map ae) k:=by
   rcases Nat.eq_zero_or_pos (am (ls.map ae) k)with e|e
   ·rw[e,List.drop_zero,V]at G;exact absurd (G x0 aV) Y
   exact e
  have H:=jJ (ls.map ae) k;rw[aJ]at H;have I:am (ls.map ae) k-1<ls.length:=by omega
  have B:ls.take (am (ls.map ae) k)=ls.take (am (ls.map ae) k-1)++[ls[am (ls.map ae) k-1]]:=by
   have:=bX I;rw[show am (ls.map ae) k-1+1=am (ls.map ae) k by omega]at this;exact this
  refine main (ls.take (am (ls.map ae) k-1)) ls[am (ls.map ae) k-1] (ls.drop (am (ls.map ae) k)) ?_ ?_ ?_ G
  ·have S:=(bv (am (ls.map ae) k) ls).symm;rw[B,bB,da]at S;exact S
  ·unfold aL;rw[z,if_neg (by simp),co];omega
  refine dO (Z _ ?_);rw[B];exact bz _ (ak.2 rfl)
section
variable{a b:List KL}{x:KL}{k:ByteArray}(ha:∀e∈eo a,aC e.1 k)(hb:∀e∈eo b,aC k e.1)
include ha hb
theorem Tq(v:ByteArray):au (eo (a++x::b)) k v=eo a++au x.kv k v++eo b:=by
 rw[dE,dm,<-bB];exact mz _ _ _ k v ha hb
theorem QH:cZ (eo (a++x::b)) k=eo a++cZ x.kv k++eo b:=by
 rw[dE,dm,<-bB];exact pl _ _ _ k ha hb
theorem CP:bV (eo (a++x::b)) k=bV x.kv k:=by
 rw[dE,dm,<-bB];exact oK _ _ _ k ha hb
theorem QI:jt (eo (a++x::b)) k=jt x.kv k++eo b:=by
 rw[dE,dm,<-bB];exact wP _ _ _ k ha hb
end
def pm(b:ByteArray)(l:LP):Prop:=∃v r,l=(b,v)::r
def kO(b:ByteArray):Tr->Prop
 |none=>True
 |some ⟨0,t⟩=>eC (T.kv t)/\pm b (T.kv t)
 |some ⟨1,t⟩=>fF (cf t:List KL)/\∃x0 r,(cf t:List KL)=x0::r/\x0.1=b/\pm b (KL.kv x0)
 |some ⟨_+2,_⟩=>False
def tB:Tr->LP
 |none=>[]
 |some t=>t.2.kv
theorem M8{b:ByteArray}:∀{t:Tr},kO b t->eC (tB t)
 |none,_=>by simp[eC,tB]
 |some ⟨0,t⟩,h=>h.1
 |some ⟨1,t⟩,h=>by
  obtain⟨p,ls⟩:Nat×List KL:=t;exact KK h.1
 |some ⟨_+2,_⟩,h=>h.elim
theorem QJ{b:ByteArray}{l:LP}(hs:eC l)(h:pm b l):∀e∈l,¬aC e.1 b:=fun e q=>by
 obtain⟨v,r,rfl⟩:=h;rcases aU.1 q with s|q
 ·rw[s];exact bL b
 have:=(eH.1 hs).1 e.1 (b_ q);exact dO this
theorem QK{z k:ByteArray}(D:¬aC k z):∀{t:Tr},kO z t->t.get k=bV (tB t) k
 |none,_=>rfl
 |some ⟨0,t⟩,h=>by
  obtain⟨p,l⟩:Nat×LP:=t;exact M7 (l:=l) h.1 k
 |some ⟨1,t⟩,h=>by
  obtain⟨p,ls⟩:Nat×List KL:=t;obtain⟨s,G,r,e,H,_⟩:=h;have s:fF ls:=s;have e:ls=G::r:=e;obtain⟨a,x,b,B,I,_,_,J,L,_,M,_⟩:=hQ s e (k:=k) (by rw[H];exact D);have O:ls[aL (ls.map ae) k]?=some x:=by
   rw[<-I,B,be (bT _),dF]
   rfl
  show((ls[aL (ls.map ae) k]?).bind fun y=>kZ k y.2)=bV (eo ls) k;rw[O,B,CP J L];obtain⟨Q,q⟩:=x;obtain⟨q,l⟩:Nat×LP:=q;exact M7 (l:=l) M.1 k
 |some ⟨_+2,_⟩,h=>h.elim
theorem M9{G s:ByteArray}(L:¬aC s G):∀{t:Tr},kO G t->mq t s=jt (tB t) s
 |none,_=>rfl
 |some ⟨0,t⟩,h=>by
  obtain⟨p,l⟩:Nat×LP:=t;exact Po (l:=l) h.1 s
 |some ⟨1,t⟩,h=>by
  obtain⟨p,ls⟩:Nat×List KL:=t;obtain⟨D,M,r,e,O,_⟩:=h;have D:fF ls:=D;have e:ls=M::r:=e;obtain⟨a,x,b,H,Q,_,_,S,I,_,U,V,_⟩:=hQ D e (k:=s) (by rw[O];exact L);have hd:ls.drop (aL (ls.map ae) s)=x::b:=by
   rw[<-Q,H,fT]
  have J:∀y:KL,eC y.kv->iI s y.2=jt y.kv s:=fun y B=>by
   obtain⟨Z,q⟩:=y;obtain⟨q,l⟩:Nat×LP:=q;exact Po (l:=l) B s
  show((ls.drop (aL (ls.map ae) s)).flatMap fun y=>iI s y.2)=jt (eo ls) s;rw[hd,H,QI S I,aQ,J x U.1]
  congr 1
  unfold eo;rw[dg,dg]
  congr 1
  refine List.map_congr_left fun y B=>?_;rw[J y (V.leaf y B).1];exact filter_all fun z Y=>decide_eq_true (dO (I z (ya.2 ⟨y,B,Y⟩)))
 |some ⟨_+2,_⟩,h=>h.elim
theorem zp{a b m:List KL}{s:ByteArray}(ha:fF a)(I:fF b)(J:fF m)(H:∀y∈a,aC y.1 s/\∀e∈y.kv,aC e.1 s)(B:∀z∈m,¬aC z.1 s/\∀y∈b,aC z.1 y.1/\∀e∈z.kv,aC e.1 y.1)(G:∀x∈a,∀y∈b,aC x.1 y.1/\∀e∈x.kv,aC e.1 y.1):fF (a++(m++b)):=by
 refine iZ.2 ⟨ha,iZ.2 ⟨J,I,fun z L y q=>(B z L).2 y q⟩,fun x D y q=>?_⟩;rcases bc.1 q with q|q
 ·exact⟨gn (H x D).1 (B y q).1,fun e M=>gn ((H x D).2 e M) (B y q).1⟩
 exact G x D y q
def cH(n:Nat)(h:Head):Prop:=∃b:List Nat,b.Nodup/\n<=b.length/\∀k∈b,1<=k/\k<2000/\h.used k=false
theorem cH.mono{n m:Nat}{h:Head}(f:cH n h)(y:m<=n):cH m h:=by
 obtain⟨b,q,z,s⟩:=f;exact⟨b,q,by omega,s⟩
theorem cH.used{n:Nat}{h b:Head}(f:cH n h)(e:b.used=h.used):cH n b:=by
 obtain⟨q,s,y,z⟩:=f;exact⟨q,s,y,fun k B=>by rw[e];exact z k B⟩
theorem cH.alloc{n:Nat}{h:Head}(hf:h.aE)(f:cH (n+1) h):∃k,cS h=some k/\cH n (h.put k true):=by
 obtain⟨s,z,D,q⟩:=f;cases ha:cS h with
 |none=>
  cases s with
  |nil=>simp at D
  |cons k r=>
   obtain⟨I,G,H⟩:=q k aV;unfold cS at ha;have:=dQ.1 ha k (List.mem_range.2 G);rw[H]at this;exact absurd rfl this
 |some k=>
  refine⟨k,rfl,s.erase k,z.erase k,?_,fun j b=>?_⟩
  ·by_cases B:k∈s
   ·rw[dS B];omega
   rw[List.erase_of_not_mem B];omega
  obtain⟨y,b⟩:=(z.mem_erase_iff).1 b;refine⟨(q j b).1,(q j b).2.1,?_⟩;show(if j=k then true else h.used j)=false;rw[if_neg y];exact(q j b).2.2
theorem ja(c:Ch)(k:Int)(s:ByteArray):(c.write k s).h=c.h:=by
 unfold Ch.write
 split<;>rfl
theorem cH.write{n:Nat}{c:Ch}(f:cH n c.h)(k:Int)(s:ByteArray):cH n (c.write k s).h:=by rw[ja];exact f
theorem cH.oM{n:Nat}{c:Ch}(hc:c.aE)(f:cH (n+1) c.h):∃k,cS c.h=some k/\cH n c.alloc.h:=by
 obtain⟨k,b,q⟩:=f.alloc hc.head;refine⟨k,b,?_⟩;rw[alloc_eq b];exact q
def lb(l:LP):Nat:=aj true (l.map cy)
def iK(l:LP):Nat:=dq true (l.map cy)
theorem sj(l:LP):lb l=3+iK l:=rfl
theorem IV(a b:LP):iK (a++b)=iK a+iK b:=by
 unfold iK;rw[bu,ly]
theorem KM{R:LP}(b:∀e∈R.map cy,e.ok true)(G:1024<lb R)(H:lb R<=1400):R.take (dj true (R.map cy))≠[]/\R.drop (dj true (R.map cy))≠[]/\lb (R.take (dj true (R.map cy)))<=1024/\lb (R.drop (dj true (R.map cy)))<=1024/\350<=lb (R.take (dj true (R.map cy)))/\350<=lb (R.drop (dj true (R.map cy)))/\lb (R.take (dj true (R.map cy)))+lb (R.drop (dj true (R.map cy)))=lb R+3:=by
 obtain⟨L,q,z,B⟩:=rX b G H;rw[aJ]at q;rw[<-ez]at z;rw[<-dT]at B;have D:iK R=iK (R.take (dj true (R.map cy)))+iK (R.drop (dj true (R.map cy))):=by rw[<-IV,bv]
 obtain⟨s,I,M⟩:=rW true (aj true (R.map cy)/2) (R.map cy) 0 (fun e J=>En.oV (b e J)) (by
  have O:lb R=3+iK R:=rfl;show lb R/2<=0+iK R;omega)
 have y:=I (by show 0<lb R/2;omega);rw[<-ez]at s y;have s:lb R/2<=0+iK (R.take (dj true (R.map cy))):=s;have y:0+iK (R.take (dj true (R.map cy)))<lb R/2+162:=y;have Q:=sj R;have S:=sj (R.take (dj true (R.map cy)));have U:=sj (R.drop (dj true (R.map cy)));refine⟨fun e=>?_,fun e=>?_,z,B,by omega,by omega,by omega⟩
 ·rcases List.take_eq_nil_iff.1 e with e|e
  ·omega
  rw[e]at q;simp at q
 have:=List.drop_eq_nil_iff.1 e;omega
theorem sk{X:Type}{en:ByteArray×X->En}{leaf:Bool}{c:Ch}{p:Nat}{l old:List (ByteArray×X)}(h:aj leaf (l.map en)<=1024):cz en leaf c p l old=(c.write (p:Nat) (aw leaf (l.map en)),(p,l),some none):=by
 unfold cz;rw[if_pos h]
theorem KN{X:Type}{en:ByteArray×X->En}{leaf:Bool}{c:Ch}{p q:Nat}{l old:List (ByteArray×X)}(h:1024<aj leaf (l.map en))(ha:cS c.h=some q):cz en leaf c p l old=((c.alloc.write (p:Nat) (aw leaf ((l.map en).take (dj leaf (l.map en))))).write (q:Nat) (aw leaf ((l.map en).drop (dj leaf (l.map en)))),(p,l.take (dj leaf (l.map en))),some (some (keyOf (l.drop (dj leaf (l.map en))),(q,l.drop (dj leaf (l.map en)))))):=by
 unfold cz;rw[if_neg (by omega),ha]
theorem te{c:Ch}{p:Nat}{l:LP}{k v:ByteArray}(h:lb (eN l k v)<=1024):dt (d:=0) c ((p,l):Nat×LP) k v=(c.write (p:Nat) (aw true ((eN l k v).map cy)),((p,eN l k v):Nat×LP),some none):=by
 have e:dt (d:=0) c ((p,l):Nat×LP) k v=cz cy true c p (eN l k v) l:=by
  refine(dt.eq_1 c k v ((p,l):Nat×LP)).trans ?_
  rfl
 exact e.trans (sk h)
theorem rh{c:Ch}{p q:Nat}{l:LP}{k v:ByteArray}(h:1024<lb (eN l k v))(ha:cS c.h=some q):∃b,dt (d:=0) c ((p,l):Nat×LP) k v=(b,((p,(eN l k v).take (dj true ((eN l k v).map cy))):Nat×LP),some (some (keyOf ((eN l k v).drop (dj true ((eN l k v).map cy))),((q,(eN l k v).drop (dj true ((eN l k v).map cy))):Nat×LP))))/\b.h=c.alloc.h:=by
 have e:dt (d:=0) c ((p,l):Nat×LP) k v=cz cy true c p (eN l k v) l:=by
  refine(dt.eq_1 c k v ((p,l):Nat×LP)).trans ?_
  rfl
 refine⟨(c.alloc.write (p:Nat) (aw true (((eN l k v).map cy).take (dj true ((eN l k v).map cy))))).write (q:Nat) (aw true (((eN l k v).map cy).drop (dj true ((eN l k v).map cy)))),?_,by rw[ja,ja]⟩;exact e.trans (KN h ha)
theorem CQ{c:Ch}{p:Nat}{a b:List KL}{x:KL}{k v:ByteArray}(q:a.length=aL ((a++x::b).map ae) k){c1:Ch}{u:T 0}{r:Option (Option (ByteArray×T 0))}(s:dt c x.2 k v=(c1,u,r)):
  dt (d:=1) c ((p,a++x::b):Nat×List KL) k v=match r with
   |none=>(c1,((p,a++(x.1,u)::b):Nat×List KL),none)
   |some none=>cz (X:=T 0) (aM (d:=0)) false c1 p (a++(x.1,u)::b) (a++(x.1,u)::b)
   |some (some m)=>cz (X:=T 0) (aM (d:=0)) false c1 p (a++(x.1,u)::m::b) (a++(x.1,u)::b):=by
 have y:(a++x::b)[aL ((a++x::b).map ae) k]?=some x:=by
  rw[<-q,be (bT _),dF]
  rfl
 have hs:(a++x::b).set (aL ((a++x::b).map ae) k) (x.1,u)=a++(x.1,u)::b:=by
  rw[<-q];exact mW x (x.1,u) b a
 rcases r with _|_|m
 ·refine(dt.eq_2 c k v 0 ((p,a++x::b):Nat×List KL)).trans ?_;simp only[y,s];rw[hs]
 ·refine(dt.eq_2 c k v 0 ((p,a++x::b):Nat×List KL)).trans ?_;simp only[y,s];rw[hs]
 have hi:(a++(x.1,u)::b).insertIdx (aL ((a++x::b).map ae) k+1) m=a++(x.1,u)::m::b:=by
  rw[<-q];exact tU m (x.1,u) b a
 refine(dt.eq_2 c k v 0 ((p,a++x::b):Nat×List KL)).trans ?_;simp only[y,s];rw[hs,hi]
theorem KO{c:Ch}{p:Nat}{a b:List KL}{x:KL}{k v:ByteArray}(q:a.length=aL ((a++x::b).map ae) k){c1:Ch}{u:T 0}(s:dt c x.2 k v=(c1,u,some none)):
 dt (d:=1) c ((p,a++x::b):Nat×List KL) k v=cz (X:=T 0) (aM (d:=0)) false c1 p (a++(x.1,u)::b) (a++(x.1,u)::b):=CQ q s
theorem KP{c:Ch}{p:Nat}{a b:List KL}{x:KL}{k v:ByteArray}(q:a.length=aL ((a++x::b).map ae) k){c1:Ch}{u:T 0}{m:KL}(s:dt c x.2 k v=(c1,u,some (some m))):
 dt (d:=1) c ((p,a++x::b):Nat×List KL) k v=cz (X:=T 0) (aM (d:=0)) false c1 p (a++(x.1,u)::m::b) (a++(x.1,u)::b):=CQ q s
theorem ka{a b:List KL}{x:KL}{k:ByteArray}(h:fF (a++x::b)){x0:KL}{r0:List KL}(G:a++x::b=x0::r0)(H:¬aC k x0.1)(I:¬aC k x.1)(J:∀y∈b,aC k y.1):a.length=aL ((a++x::b).map ae) k:=by
 obtain⟨a',s,L,D,M,O,Q,_⟩:=hQ h G H;rw[<-M];rcases Nat.lt_trichotomy a.length a'.length with z|z|z
 ·exfalso;have q:(a++x::b)[a'.length]?=some s:=by
   rw[D,be (bT _),dF]
   rfl
  rw[be (by omega)]at q;obtain⟨j,B⟩:∃j,a'.length-a.length=j+1:=⟨a'.length-a.length-1,by omega⟩;rw[B,dZ]at q;exact O (J s (dr q))
 ·exact z
 exfalso;have q:(a'++s::L)[a.length]?=some x:=by
  rw[<-D,be (bT _),dF]
  rfl
 rw[be (by omega)]at q;obtain⟨j,B⟩:∃j,a.length-a'.length=j+1:=⟨a.length-a'.length-1,by omega⟩;rw[B,dZ]at q;exact I (Q x (dr q))
abbrev Wt:Type:=ByteArray->ByteArray->Nat
def pz(k v:ByteArray):Nat:=2+k.size+v.size
def aZ(ω:Wt)(l:LP):Nat:=(l.map fun x=>ω x.1 x.2).sum
theorem gg(ω:Wt)(a b:LP):aZ ω (a++b)=aZ ω a+aZ ω b:=by
 unfold aZ;rw[bu,fI]
theorem gC(ω:Wt)(x:ByteArray×ByteArray)(l:LP):aZ ω (x::l)=ω x.1 x.2+aZ ω l:=by
 unfold aZ;rw[bZ,gc]
theorem CR(x:ByteArray×ByteArray)(l:LP):iK (x::l)=pz x.1 x.2+iK l:=by
 unfold iK;rw[bZ,cE]
 rfl
theorem ua:∀l:LP,iK l=aZ pz l
 |[]=>rfl
 |x::l=>by rw[CR,gC,ua l]
theorem pn{ω:Wt}(b:∀k v,pz k v<=ω k v):∀l:LP,iK l<=aZ ω l
 |[]=>bT _
 |x::l=>by
  have:=pn b l;have:=b x.1 x.2;rw[CR,gC];omega
def oz(ω:Wt)(l:LP)(k:ByteArray):Nat:=match bV l k with
 |none=>0
 |some v=>ω k v
theorem ri{l:LP}(hs:eC l)(k:ByteArray):∃a r,(∀x∈a,aC x.1 k)/\(∀y∈r,aC k y.1)/\(∀v,au l k v=a++(k,v)::r)/\cZ l k=a++r/\((∃u,l=a++(k,u)::r/\bV l k=some u)\/(l=a++r/\bV l k=none)):=by
 obtain⟨a,b,e,I,J,s,B⟩:=nc hs k;have D:¬aC k k:=bL k;rcases B with⟨G,u,r,H,q⟩|⟨G,q⟩
 ·have z:l=a++[(k,u)]++r:=by rw[e,H];simp
  refine⟨a,r,s,q,fun v=>?_,?_,.inl ⟨u,by rw[z];simp,?_⟩⟩
  ·rw[z,mz a [(k,u)] r k v s q];unfold au;simp[D]
  ·rw[z,pl a [(k,u)] r k s q];unfold cZ;simp
  rw[z,oK a [(k,u)] r k s q];unfold bV;simp
 have z:l=a++[]++b:=by rw[e];simp
 refine⟨a,b,s,q,fun v=>?_,?_,.inr ⟨e,?_⟩⟩
 ·rw[z,mz a [] b k v s q];unfold au;simp
 ·rw[z,pl a [] b k s q];unfold cZ;simp
 rw[z,oK a [] b k s q]
 rfl
theorem vq(ω:Wt){l:LP}(hs:eC l)(k v:ByteArray):aZ ω (au l k v)+oz ω l k=aZ ω l+ω k v:=by
 obtain⟨a,r,_,_,q,_,s⟩:=ri hs k;rw[q v,gg,gC];rcases s with⟨u,e,b⟩|⟨e,b⟩
 ·unfold oz;rw[b,e,gg,gC];simp only;omega
 unfold oz;rw[b,e,gg];simp only;omega
theorem sl(ω:Wt){l:LP}(hs:eC l){k v0:ByteArray}(h:bV l k=some v0):aZ ω (cZ l k)+ω k v0=aZ ω l:=by
 obtain⟨a,r,_,_,_,q,s⟩:=ri hs k;rw[q,gg];rcases s with⟨u,e,b⟩|⟨e,b⟩
 ·rw[h]at b;obtain rfl:=el b;rw[e,gg,gC];show _=aZ ω a+(ω k v0+aZ ω r);omega
 rw[h]at b;cases b
section
variable{ω:Wt}
def wl(ω:Wt)(l:LP):Nat:=max (aZ ω l) 347
def VS(ω:Wt)(ls:List KL):Nat:=(ls.map fun x=>wl ω x.kv).sum
theorem pp(a b:List KL):VS ω (a++b)=VS ω a+VS ω b:=by
 unfold VS;rw[bu,fI]
theorem lC(x:KL)(b:List KL):VS ω (x::b)=wl ω x.kv+VS ω b:=by
 unfold VS;rw[bZ,gc]
theorem Pp:∀ls:List KL,347*ls.length<=VS ω ls
 |[]=>by simp
 |x::b=>by
  have:=Pp b;rw[lC,de];unfold wl;omega
def ki(ω:Wt):Tr->ByteArray->Nat->Nat
 |none,_,s=>max s 347
 |some ⟨0,t⟩,_,s=>max (aZ ω (T.kv t)+s) 347
 |some ⟨1,t⟩,k,s=>VS ω ((cf t:List KL).take (aL ((cf t:List KL).map ae) k))+((((cf t:List KL)[aL ((cf t:List KL).map ae) k]?).map fun x=>max (aZ ω (KL.kv x)+s) 347).getD 0)+VS ω ((cf t:List KL).drop (aL ((cf t:List KL).map ae) k+1))
 |some ⟨_+2,_⟩,_,_=>0
def VT(ω:Wt):Tr->Nat
 |none=>347
 |some ⟨0,t⟩=>wl ω (T.kv t)
 |some ⟨1,t⟩=>VS ω (cf t:List KL)
 |some ⟨_+2,_⟩=>0
theorem dW{p:Nat}{a b:List KL}{x:KL}{k:ByteArray}{s:Nat}(q:a.length=aL ((a++x::b).map ae) k):ki ω (some ⟨1,((p,a++x::b):Nat×List KL)⟩) k s=VS ω a+max (aZ ω x.kv+s) 347+VS ω b:=by
 show VS ω ((a++x::b).take (aL ((a++x::b).map ae) k))+((((a++x::b)[aL ((a++x::b).map ae) k]?).map fun x=>max (aZ ω (KL.kv x)+s) 347).getD 0)+VS ω ((a++x::b).drop (aL ((a++x::b).map ae) k+1))=_;rw[<-q];have y:(a++x::b).take a.length=a:=List.take_left;have z:(a++x::b)[a.length]?=some x:=by
  rw[be (bT _),dF]
  rfl
 have B:(a++x::b).drop (a.length+1)=b:=by
  rw[<-fM,fT]
  rfl
 rw[y,z,B]
 rfl
def zq:Tr->List ByteArray
 |some ⟨1,t⟩=>(cf t:List KL).map ae
 |_=>[]
theorem wQ{z k:ByteArray}(B:¬aC k z):∀{t:Tr},kO z t->ki ω t k 0=VT ω t
 |none,_=>rfl
 |some ⟨0,t⟩,_=>rfl
 |some ⟨1,t⟩,h=>by
  obtain⟨p,ls⟩:Nat×List KL:=t;obtain⟨q,D,G,s,y,_⟩:=h;have q:fF ls:=q;have s:ls=D::G:=s;obtain⟨a,x,b,H,I,_⟩:=hQ q s (k:=k) (by rw[y];exact B);subst H;rw[dW I];show _=VS ω (a++x::b);rw[pp,lC];unfold wl;omega
 |some ⟨_+2,_⟩,h=>h.elim
theorem QL{B k:ByteArray}(G:¬aC k B)(s e:Nat):∀{t:Tr},kO B t->ki ω t k (s+e)<=ki ω t k s+e
 |none,_=>by
  show max (s+e) 347<=max s 347+e;omega
 |some ⟨0,t⟩,_=>by
  show max (aZ ω (T.kv t)+(s+e)) 347<=max (aZ ω (T.kv t)+s) 347+e;omega
 |some ⟨1,t⟩,h=>by
  obtain⟨p,ls⟩:Nat×List KL:=t;obtain⟨q,H,I,y,z,_⟩:=h;have q:fF ls:=q;have y:ls=H::I:=y;obtain⟨a,x,b,J,D,_⟩:=hQ q y (k:=k) (by rw[z];exact G);subst J;rw[dW D,dW D];omega
 |some ⟨_+2,_⟩,h=>h.elim
theorem M_{L k k2:ByteArray}(M:¬aC k L)(J:¬aC k2 k)(s:Nat):∀{t:Tr},kO L t->(∀y∈zq t,aC k y->aC k2 y)->ki ω t k2 s=ki ω t k s
 |none,_,_=>rfl
 |some ⟨0,t⟩,_,_=>rfl
 |some ⟨1,t⟩,h,hs=>by
  obtain⟨p,ls⟩:Nat×List KL:=t;obtain⟨B,S,U,D,G,_⟩:=h;have B:fF ls:=B;have D:ls=S::U:=D;obtain⟨a,x,b,V,Y,Z,h4,_⟩:=hQ B D (k:=k) (by rw[G];exact M);subst V;have O:∀z,¬aC k z->¬aC k2 z:=fun z I H=>by
   rcases kN k k2 with q|q|q
   ·exact I (fi q H)
   ·rw[q]at I;exact I H
   exact J q
  have H:=ka B D (k:=k2) (O _ (by rw[G];exact M)) (O _ Z) (fun y Q=>hs y.1 (b_ (bz _ (aS _ Q))) (h4 y Q));rw[dW Y,dW H]
 |some ⟨_+2,_⟩,h,_=>h.elim
theorem Ay{p:Nat}{a b:List KL}{x y:KL}{k:ByteArray}{r:Nat}(s:fF (a++(x::y::b))){x0:KL}{r0:List KL}(B:a++(x::y::b)=x0::r0)(H:¬aC k x0.1)(J:¬aC k x.1)(I:∀z∈b,aC k z.1)(O:347<=aZ ω x.kv)(Q:347<=aZ ω y.kv):
  ki ω (some ⟨1,((p,a++(x::y::b)):Nat×List KL)⟩) k r=VS ω a+(aZ ω x.kv+aZ ω y.kv+r)+VS ω b:=by
 have L:wl ω x.kv=aZ ω x.kv:=by unfold wl;omega
 have M:wl ω y.kv=aZ ω y.kv:=by unfold wl;omega
 by_cases q:aC k y.1
 ·have D:=ka s B H J (fun z G=>by
   rcases aU.1 G with e|G
   ·rw[e];exact q
   exact I z G)
  rw[dW D,lC,M];omega
 have e:a++(x::y::b)=(a++[x])++y::b:=by simp
 rw[e]at s B⊢;have D:=ka s B H q I;rw[dW D,pp,lC,L];have S:VS ω []=0:=rfl;omega
def tC:Tr->Nat
 |none=>0
 |some ⟨0,_⟩=>1
 |some ⟨1,t⟩=>(cf t:List KL).length+1
 |some ⟨_+2,_⟩=>0
def qq(t:Tr):Prop:=(∀e∈tB t,e.1.size<=26)/\match t with
 |some ⟨1,t⟩=>∀x∈(cf t:List KL),x.1.size<=26
 |_=>True
end
theorem CS{ls:List KL}(h:∀x∈ls,x.1.size<=26)(B:ls.length<=35):aj false (ls.map (aM (d:=0)))<=1024:=by
 have q:∀m:List KL,(∀x∈m,x.1.size<=26)->dq false (m.map (aM (d:=0)))<=29*m.length:=by
  intro m
  induction m with
  |nil=>intro _;simp[dq]
  |cons x m s=>
   intro b;have D:=s fun y z=>b y (aS _ z);have G:=b x aV;rw[bZ,cE,de];have H:(aM (d:=0) x).sz false=3+x.1.size:=rfl;omega
 have:=q ls h;unfold aj;omega
