/-
  Part 9 of the proof.
-/
import Derived.Test.YtldmhjbdahjhdaaGreatDoorZb8
import Derived.Laws.EntriesVeiled
open List renaming mem_singleton->ai1,mem_cons->ai3,mem_cons_of_mem->ai4,flatMap_cons->ai5,flatMap_append->ai6,length_map->ai9,mem_append->ai_,mem_cons_self->aja,mem_flatMap->ajb,length_append->ajd,drop_eq_getElem_cons->aje,append_nil->ajf,nodup_cons->ajg,mem_append_left->ajh,getElem?_eq_getElem->aji,take_append_drop->ajj,mem_append_right->ajk,getD_eq_getElem?_getD->ajl,length_drop->ajm,pairwise_iff_getElem->ajn,getElem_of_mem->ajo,mem_filter->ajp,nodup_append->ajq,length_singleton->ajr,cons_append->ajs,map_append->ajt,filter_append->aju,getElem_drop->ajv,map_cons->ajw,mem_map->ajy,drop_eq_nil_of_le->ajz,mem_of_mem_drop->ajA,map_eq_nil_iff->ajC,map_drop->ajE,find?_eq_none->ajG,append_assoc->ajI,find?_append->ajM,length_cons->ajN,flatMap_def->ajO,getElem_mem->ajP,getElem_map->ajQ,length_take->ajS
open Prod renaming fst->ai2
open Go.Lib renaming compareBytes->ai7,hid->ai8
open Go.World renaming cell?_alloc_new->ajc
open UInt8 renaming not_lt->ajx,le_antisymm->ajK,lt_trans->ajV
open Go.Proofs.Tryz renaming prog->ajB
open List.Sublist renaming append->ajD,refl->ajJ
open Nat renaming eq_or_lt_of_le->ajF,le_trans->ajH,lt_or_ge->ajL,le_refl->ajT,not_lt_zero->ajU,zero_le->ajY
open Bool renaming and_eq_true->ajR
open Go.RowKit renaming intOf->ajW
open List.Pairwise renaming sublist->ajX
set_option maxRecDepth 100000
set_option maxHeartbeats 100000000
set_option linter.all false
namespace Go.Proofs.YtldmhjbdahjhdaaGreatDoor
section
open Go Go.RowKit
section
variable{w:World}{PB DB M:Nat}{c:Ch}{sv:Head}{t:Int}{d:Dk}
theorem LO(h:bF w PB DB M c sv t d){TP root:Nat}(ht:bc w TP PB root){p:Nat}{l:List En}(hp:gO c d.pg false p l)(g6:∀e∈l,e.ok false)(O:ah false l<=1024){FT FF FM q FW:Nat}{s:ByteArray}(hw:BC w FT FF FM q FW TP s)
  {n:Nat} {v:Value} {out:List cM} (ho:pw n w q v out) (hn:FT<n/\FF<n/\FM<n/\q<n/\FW<n) (l1:n<=w.heap.size) (a0:PB<n/\DB<n/\M<n/\TP<n) (a1:q≠PB/\q≠DB/\q≠M/\q≠TP) {outs:List (List cM)} {K:Nat} (hK:aG (aD l) s=K) (b3:K<l.length) (l2:outs.length=l.length)
  (b4:∀j (hj:K+j<l.length) W v,bF W PB DB M c sv t d->bc W TP PB root->BC W FT FF FM q FW TP s->pw n W q v (out++((outs.drop K).take j).flatten)->n<=W.heap.size->
   Calls ajB 168 #[.int .i64 (l[K+j].b_:Int),.pointer (some ⟨FT,0,none⟩),.pointer (some ⟨FF,0,none⟩),.pointer (some ⟨FM,0,none⟩),.pointer (some ⟨q,0,none⟩),.pointer (some ⟨FW,0,none⟩)] W fun e w'=>e=.returned .nilIface/\LM n W w' q v (out++((outs.drop K).take (j+1)).flatten)):
  Calls ajB 168 #[.int .i64 (p:Int),.pointer (some ⟨FT,0,none⟩),.pointer (some ⟨FF,0,none⟩),.pointer (some ⟨FM,0,none⟩),.pointer (some ⟨q,0,none⟩),.pointer (some ⟨FW,0,none⟩)] w fun e w'=>e=.returned .nilIface/\LM n w w' q v (out++(outs.drop K).flatten):=by
 have c5:=lQ h.s ht hp g6 O;have hl:l.length<=600:=by
  have:=dC false l;unfold ah at O;omega
 obtain⟨RR,b9⟩:∃RR,out++(outs.drop K).flatten=RR:=⟨_,rfl⟩;rw[b9];have g7:=ai8 b9;clear b9;have ft:=hw.ft;have ff:=hw.ff;have Q:=hw.fm;have fo:=ho.c;have g8:=ai8 c5;have e5:=ai8 b4;clear b4;have HW:=ai8 hw;have HO:=ai8 ho;clear c5;go_enter Tryz.func168,Tryz.ntmps168;go_wp2_with fail
 refine g8.out.mono ?_;rintro e H ⟨s',rfl,a2,I⟩;obtain⟨ao,Y,rfl⟩:=a2.form;have c0:=fun W (g:Gr H W)=>pj p false l (.slice ao l.length Y) s W (a2.qn.gr g) (by omega);simp only[Bool.false_eq_true,if_false,hK]at c0;unfold aU at*;have g9:=ai8 c0;clear c0;replace ft:=I.keeps ft;replace ff:=I.keeps ff;replace Q:=I.keeps Q;replace fo:=I.keeps fo;have z:Gr H (H.alloc (.cells #[.int .i64 (p:Int),.bool false,.slice ao l.length Y] 200)):=(Gr.refl H).alloc _;replace ft:=z.keeps ft;replace ff:=z.keeps ff;replace Q:=z.keeps Q;replace fo:=z.keeps fo;have k0:(H.alloc (.cells #[.int .i64 (p:Int),.bool false,.slice ao l.length Y] 200)).cell? ⟨H.heap.size,0,none⟩=some (.int .i64 (p:Int)):=by rw[ajc];rfl
 have k1:(H.alloc (.cells #[.int .i64 (p:Int),.bool false,.slice ao l.length Y] 200)).cell? ⟨H.heap.size,1,none⟩=some (.bool false):=by rw[ajc];rfl
 have k2:(H.alloc (.cells #[.int .i64 (p:Int),.bool false,.slice ao l.length Y] 200)).cell? ⟨H.heap.size,2,none⟩=some (.slice ao l.length Y):=by rw[ajc];rfl
 go_wp2_with fail
 obtain⟨NB,c1⟩:∃NB,H.heap.size=NB:=⟨_,rfl⟩;rw[c1]at k0 k1 k2⊢;refine(g9.out _ z).mono ?_;rintro e U ⟨rfl,y⟩;replace ft:=y.keeps ft;replace ff:=y.keeps ff;replace Q:=y.keeps Q;replace fo:=y.keeps fo;replace k0:=y.keeps k0;replace k1:=y.keeps k1;replace k2:=y.keeps k2;have l3:(K:Int)<=(l.length:Int):=by omega
 have c7:w.heap.size<=NB:=by
  rw[<-c1];exact I.size
 have a3:=(I.trans z).trans y;have h0:Hid (∃Z,pw n U q Z (out++((outs.drop K).take 0).flatten)/\ag (fun b=>b=q\/v.ownBlock=some b) U U/\oj v Z U):=ai8 ⟨v,by
  rw[List.take_zero,List.flatten_nil,ajf];exact HO.out.gr a3,ag.refl _ _,fun b O=>.inl O⟩
 have c2:=ai8 a3;have J:=a3;have c8:=a2.gr (z.trans y);have l4:=ai8 c8;have h1:=ai8 c7;clear a3 c8 c7 c1;have i0:=ai8 (h.gr J);have i1:=ai8 (ht.gr J);have c9:=ai8 (hw.gr J);clear J;rcases a2.at' with⟨_,e2⟩|⟨B,cap,e3,h2,h3,h4,h5,h6⟩
 ·rw[e2]at b3;exact absurd b3 (by simp)
 obtain⟨rfl,rfl⟩:ao=some ⟨B,0,none⟩/\Y=cap:=by
  injection e3 with e1 e2 e3
  exact⟨e1,e3⟩
 have l5:¬Y=K:=by omega
 have H5:=ai8 (h5.gr (z.trans y));have l6:n<=B:=by omega
 have d1:∀b,v.ownBlock=some b->b<w.heap.size:=fun b O=>Jb HO.out.o b O;have i2:=ai8 d1;clear h5 h6 d1 e3;go_wp2_with fail
 have j6:B<U.heap.size:=by
  have:=z.size;have:=y.size;omega
 go_loopw [35] (fun iv w'=>∃(i:Nat),i<=l.length-K/\iv=.int .i64 i/\∃Z,pw n w' q Z (out++((outs.drop K).take i).flatten)/\ag (fun b=>b=q\/v.ownBlock=some b) U w'/\oj v Z U) (fun iv _=>l.length-K-(ajW iv).toNat)
 case atStart=>exact⟨0,ajY _,rfl,h0.out⟩
 case round=>
  obtain⟨i,hi,rfl,Z,hO,G,hT⟩:=hrel;by_cases l7:i<l.length-K
  ·have e6:(i:Int)<((l.length-K:Nat):Int):=by omega
   have hS:∀j,(j<n/\j≠q)\/w.heap.size<=j->¬(j=q\/v.ownBlock=some j):=fun j hj e=>by
    rcases e with e|e
    ·omega
    ·have h8:=i2.out j e;have h9:=wO HO.out.o j e;omega
   have D:=HW.out.ne;replace Q:=G.keeps (hS FM (.inl ⟨hn.2.2.1,fun e=>D.2.2.1 e.symm⟩)) Q;have fw:=G.keeps (hS FW (.inl ⟨hn.2.2.2.2,fun e=>D.2.2.2 e.symm⟩)) c9.out.fw;replace k1:=G.keeps (hS NB (.inr h1.out)) k1;have b8:K+i<l.length:=by omega
   obtain⟨b0,b1,b2⟩:=(H5.out.aC G (hS B (.inr h3))) (K+i) b8;rw[show 0+(K+i)*3=K*3+i*3 by omega]at b0 b1 b2;have d3:=i0.out.aC G (hS PB (.inl ⟨a0.1,fun e=>a1.1 e.symm⟩)) (hS DB (.inl ⟨a0.2.1,fun e=>a1.2.1 e.symm⟩)) (hS M (.inl ⟨a0.2.2.1,fun e=>a1.2.2.1 e.symm⟩));have d4:=i1.out.aC G (hS TP (.inl ⟨a0.2.2.2,fun e=>a1.2.2.2 e.symm⟩));have d5:=c9.out.aC G (hS FT (.inl ⟨hn.1,fun e=>D.1 e.symm⟩)) (hS FF (.inl ⟨hn.2.1,fun e=>D.2.1 e.symm⟩)) (hS FM (.inl ⟨hn.2.2.1,fun e=>D.2.2.1 e.symm⟩)) (hS FW (.inl ⟨hn.2.2.2.2,fun e=>D.2.2.2 e.symm⟩));have i3:n<=wr.heap.size:=by
    have h7:=c2.out.size;have h8:=G.2.2.2.1;omega
   have d6:=fun W (g:Gr wr W)=>e5.out i b8 W Z (d3.gr g) (d4.gr g) (d5.gr g) (hO.gr g) (ajH i3 g.size);generalize l[K+i]=en at*;obtain⟨ky,it,V⟩:=en;have i4:=ai8 d6;have HG:=ai8 G;have HT:=ai8 hT;clear hO G hT hS D d3 d4 d5 d6;have L:Gr wr (wr.alloc (.cells #[.string ky,.string it,.int .i64 (V:Int)] 206)):=(Gr.refl wr).alloc _;replace Q:=L.keeps Q;replace fw:=L.keeps fw;replace k1:=L.keeps k1;have e0:(wr.alloc (.cells #[.string ky,.string it,.int .i64 (V:Int)] 206)).cell? ⟨wr.heap.size,0,none⟩=some (.string ky):=by rw[ajc];rfl
   have e1:(wr.alloc (.cells #[.string ky,.string it,.int .i64 (V:Int)] 206)).cell? ⟨wr.heap.size,1,none⟩=some (.string it):=by rw[ajc];rfl
   have e2:(wr.alloc (.cells #[.string ky,.string it,.int .i64 (V:Int)] 206)).cell? ⟨wr.heap.size,2,none⟩=some (.int .i64 (V:Int)):=by rw[ajc];rfl
   go_wp2_with fail
   refine(i4.out _ L).mono ?_;rintro e w3 ⟨rfl,v3,d7,d8,d9⟩;have e7:Hid (pw n w3 q v3 (out++((outs.drop K).take (i+1)).flatten)/\ag (fun b=>b=q\/v.ownBlock=some b) U w3/\oj v v3 U):=ai8 ⟨d7,ag.Nq (ag.Nq HG.out (ag.ak (S:=fun _=>False) L) (fun j e=>e.elim)) d8 (fun j e=>by
    rcases e with e|e
    ·exact .inl (.inl e)
    ·rcases HT.out j e with e|e
     ·exact .inl (.inr e)
     ·exact .inr e),fun b O=>by
    rcases d9 b O with e|e
    ·exact HT.out b e
    ·have h8:=HG.out.2.2.2.1;have h7:=L.size;exact .inr (by omega)⟩
   clear d7 d8 d9;go_wp2_with fail
   exact⟨⟨i+1,by omega,by go_num,_,e7.out⟩,by simp[ajW];omega⟩
  ·have e6:¬(i:Int)<((l.length-K:Nat):Int):=by omega
   have e4:(outs.drop K).take i=outs.drop K:=List.take_of_length_le (by rw[ajm];omega);rw[e4]at hO;have HR:Hid (LM n w wr q v RR):=ai8 ⟨Z,by rw[<-g7.out];exact hO,(ag.ak c2.out).trans G,fun b O=>by
    rcases hT b O with e|e
    ·exact .inl e
    ·exact .inr (ajH c2.out.size e)⟩
   clear hO G hT e4;go_wp2_with fail
   go_ret;exact⟨rfl,HR.out⟩
end
theorem tU:∀(N:Nat) (l:List Nat),l.Nodup->(∀k∈l,k<N)->l.length<=N
 |0,l,_,h=>by
  cases l with
  |nil=>exact ajT _
  |cons a r=>exact absurd (h a aja) (ajU _)
 |N+1,l,hn,h=>by
  by_cases s:N∈l
  ·have y:=tU N (l.erase N) (hn.erase N) fun k b=>by
    have q:=(hn.mem_erase_iff).1 b;have:=h k q.2;have:=q.1;omega
   rw[List.length_erase_of_mem s]at y;omega
  ·have y:=tU N l hn fun k b=>by
    have q:=h k b;have:k≠N:=fun e=>s (e▸b);omega
   omega
theorem BD(s:ByteArray):∀{d:Nat} {x:T d},x.eU->(hI s x).length<=600*x.af.length
 |0,x,h=>by
  obtain⟨p,l⟩:Nat×List (ByteArray×ByteArray):=x;have q:ah true (l.map bE)<=1024:=h.2.1;have b:=dC true (l.map bE);rw[ai9]at b;unfold ah at q;show(l.drop _).length<=600*([p]:List Nat).length;rw[ajm,ajr];omega
 |d+1,x,h=>by
  obtain⟨p,l⟩:Nat×List (ByteArray×T d):=x;have D:∀y∈l,y.2.eU:=h.2;have step:∀m:List (ByteArray×T d),(∀y∈m,y.2.eU)->(m.flatMap fun y=>hI s y.2).length<=600*(m.flatMap fun y=>y.2.af).length:=by
   intro m
   induction m with
   |nil=>intro _;simp
   |cons y m G=>
    intro B;rw[ai5,ai5,ajd,ajd];have q:=BD s (B y aja);have b:=G fun z H=>B z (ai4 _ H);omega
  show((l.drop (aG (l.map ai2) s)).flatMap fun y=>hI s y.2).length<=600*(p::l.flatMap fun y=>y.2.af).length;have q:=step (l.drop (aG (l.map ai2) s)) fun y I=>D y (ajA I);have b:(l.flatMap fun y=>y.2.af).length=((l.take (aG (l.map ai2) s)).flatMap fun y=>y.2.af).length+((l.drop (aG (l.map ai2) s)).flatMap fun y=>y.2.af).length:=by
   rw[<-ajd,<-ai6,ajj]
  rw[ajN,b];omega
theorem sY(s:ByteArray){d:Nat}:∀m:List (ByteArray×T d),(∀y∈m,y.2.eU)->(m.flatMap fun y=>hI s y.2).length<=600*(m.flatMap fun y=>y.2.af).length
 |[],_=>by simp
 |y::m,b=>by
  rw[ai5,ai5,ajd,ajd];have B:=BD s (b y aja);have D:=sY s m fun z q=>b z (ai4 _ q);omega
section
variable{PB DB M:Nat}{c:Ch}{sv:Head}{t:Int}{dk:Dk}
theorem Nr{TP root Z FF FM q FW n:Nat}{s:ByteArray}(hn:Z<n/\FF<n/\FM<n/\q<n/\FW<n)(Q:PB<n/\DB<n/\M<n/\TP<n)(S:q≠PB/\q≠DB/\q≠M/\q≠TP):∀{m:Nat} {x:T m} {w:World} {v:Value} {out:List cM},bF w PB DB M c sv t dk->bc w TP PB root->BC w Z FF FM q FW TP s->pw n w q v out->n<=w.heap.size->x.lays c dk.pg->x.eU->out.length+600*x.af.length<=100000000->
  Calls ajB 168 #[.int .i64 (x.pg:Int),.pointer (some ⟨Z,0,none⟩),.pointer (some ⟨FF,0,none⟩),.pointer (some ⟨FM,0,none⟩),.pointer (some ⟨q,0,none⟩),.pointer (some ⟨FW,0,none⟩)] w fun e w'=>e=.returned .nilIface/\LM n w w' q v (out++hI s x)
 |0,x,w,v,out,h,ht,hw,ho,H,U,b,hb=>by
  obtain⟨p,l⟩:Nat×List (ByteArray×ByteArray):=x;have I:out.length+600*([p]:List Nat).length<=100000000:=hb;rw[ajr]at I;have D:=LN h ht (p:=p) (l:=l.map bE) U b.2.2 b.2.1 hw ho hn H (by omega);rw[sX]at D;have e:((l.map bE).drop (ai (l.map ai2) s)).map rq=hI s (d:=0) (p,l):=by
   show _=l.drop (ai (l.map ai2) s);rw[<-ajE,List.map_map];have:(rq∘bE)=id:=by funext y;rfl
   rw[this,List.map_id]
  rw[e]at D;exact D
 |m+1,x,w,v,out,h,ht,hw,ho,H,U,b,hb=>by
  obtain⟨p,l⟩:Nat×List (ByteArray×T m):=x;have a7:l.map ai2≠[]:=fun e=>b.1.1 (by
   have:l=[]:=ajC.1 e;show l.map aH=[];rw[this]
   rfl)
  have J:=nw a7 s;rw[ai9]at J;obtain⟨K,hK⟩:∃K,aG (l.map ai2) s=K:=⟨_,rfl⟩;rw[hK]at J;have I:out.length+600*(p::l.flatMap fun y=>y.2.af).length<=100000000:=hb;have O:∀y∈l,y.2.lays c dk.pg:=U.2;have G:∀y∈l,y.2.eU:=b.2;have L:∀j,(((l.map fun y=>hI s y.2).drop K).take j).flatten=((l.drop K).take j).flatMap fun y=>hI s y.2:=fun j=>by
   rw[<-ajE,<-List.map_take,ajO]
  have Y:((l.map fun y=>hI s y.2).drop K).flatten=(l.drop K).flatMap fun y=>hI s y.2:=by
   rw[<-ajE,ajO]
  have D:=LO h ht (p:=p) (l:=l.map aH) U.1 b.1.2.2 b.1.2.1 hw ho hn H Q S (outs:=l.map fun y=>hI s y.2) (K:=K) (by rw[wR];exact hK) (by rw[ai9];exact J) (by rw[ai9,ai9]) (fun j hj W v1 q1 q2 q3 q4 q5=>by
   have V:K+j<l.length:=by rw[ai9]at hj;exact hj
   have hm:l[K+j]∈l:=ajP V;have a8:(l.map aH)[K+j]=aH l[K+j]:=ajQ _;have a9:(((l.map aH)[K+j]).b_:Int)=(l[K+j].2.pg:Int):=by rw[a8];rfl
   rw[a9];have B:l=l.take K++((l.drop K).take j++(l[K+j]::l.drop (K+j+1))):=by
    rw[<-aje V,<-List.drop_drop,ajj,ajj]
   have c2:(l.flatMap fun y=>y.2.af).length=((l.take K).flatMap fun y=>y.2.af).length+((((l.drop K).take j).flatMap fun y=>y.2.af).length+(l[K+j].2.af.length+((l.drop (K+j+1)).flatMap fun y=>y.2.af).length)):=by
    have h1:=congrArg (fun z:List (ByteArray×T m)=>(z.flatMap fun y=>y.2.af).length) B;simp only[ai6,ai5,ajd]at h1;exact h1
   have c3:=sY s ((l.drop K).take j) fun y hy=>G y (ajA (List.mem_of_mem_take hy));have ih:=Nr hn Q S (x:=l[K+j].2) q1 q2 q3 q4 q5 (O _ hm) (G _ hm) (by
    rw[ajd,L];rw[ajN]at I;omega)
   have e2:out++(((l.map fun y=>hI s y.2).drop K).take (j+1)).flatten=out++(((l.map fun y=>hI s y.2).drop K).take j).flatten++hI s l[K+j].2:=by
    rw[L,L,List.take_succ_eq_append_getElem (by rw[ajm];omega),ai6,ajI,ajv];simp
   rw[e2];exact ih)
  rw[Y]at D;have e3:hI s (d:=m+1) (p,l)=(l.drop K).flatMap fun y=>hI s y.2:=by rw[<-hK];rfl
  rw[e3];exact D
end
theorem jx(w:World)(v:Value)(t:TypeId):(w.alloc (.cells #[v] t)).cell? ⟨w.heap.size,0,none⟩=some v:=by rw[ajc];rfl
theorem O6(w:World)(a b e:Value)(q s y:TypeId):
  (((w.alloc (.cells #[a] q)).alloc (.cells #[b] s)).alloc (.cells #[e] y)).cell? ⟨w.heap.size,0,none⟩=some a/\(((w.alloc (.cells #[a] q)).alloc (.cells #[b] s)).alloc (.cells #[e] y)).cell? ⟨w.heap.size+1,0,none⟩=some b/\(((w.alloc (.cells #[a] q)).alloc (.cells #[b] s)).alloc (.cells #[e] y)).cell? ⟨w.heap.size+1+1,0,none⟩=some e/\Gr w (((w.alloc (.cells #[a] q)).alloc (.cells #[b] s)).alloc (.cells #[e] y))/\(((w.alloc (.cells #[a] q)).alloc (.cells #[b] s)).alloc (.cells #[e] y)).heap.size=w.heap.size+1+1+1:=by
 have g1:Gr w (w.alloc (.cells #[a] q)):=(Gr.refl w).alloc _;have g2:Gr (w.alloc (.cells #[a] q)) ((w.alloc (.cells #[a] q)).alloc (.cells #[b] s)):=(Gr.refl _).alloc _;have z:Gr ((w.alloc (.cells #[a] q)).alloc (.cells #[b] s)) (((w.alloc (.cells #[a] q)).alloc (.cells #[b] s)).alloc (.cells #[e] y)):=(Gr.refl _).alloc _;have G:(w.alloc (.cells #[a] q)).heap.size=w.heap.size+1:=by simp
 have H:((w.alloc (.cells #[a] q)).alloc (.cells #[b] s)).heap.size=w.heap.size+1+1:=by simp
 have I:=jx w a q;have B:=jx (w.alloc (.cells #[a] q)) b s;have D:=jx ((w.alloc (.cells #[a] q)).alloc (.cells #[b] s)) e y;rw[G]at B;rw[H]at D;exact⟨z.keeps (g2.keeps I),z.keeps B,D,(g1.trans g2).trans z,by simp⟩
theorem LQ(w:World)(a v:Value)(b q:TypeId):Gr w ((w.alloc (.cells #[a] b)).alloc (.cells #[v] q))/\((w.alloc (.cells #[a] b)).alloc (.cells #[v] q)).cell? ⟨w.heap.size,0,none⟩=some a/\((w.alloc (.cells #[a] b)).alloc (.cells #[v] q)).cell? ⟨w.heap.size+1,0,none⟩=some v/\((w.alloc (.cells #[a] b)).alloc (.cells #[v] q)).frozen? ⟨w.heap.size,0,none⟩=false/\((w.alloc (.cells #[a] b)).alloc (.cells #[v] q)).heap.size=w.heap.size+1+1:=by
 have g1:Gr w (w.alloc (.cells #[a] b)):=(Gr.refl w).alloc _;have g2:Gr (w.alloc (.cells #[a] b)) ((w.alloc (.cells #[a] b)).alloc (.cells #[v] q)):=(Gr.refl _).alloc _;have y:(w.alloc (.cells #[a] b)).heap.size=w.heap.size+1:=by simp
 have z:=jx w a b;have f1:(w.alloc (.cells #[a] b)).frozen? ⟨w.heap.size,0,none⟩=false:=by simp
 have s:=jx (w.alloc (.cells #[a] b)) v q;rw[y]at s;exact⟨g1.trans g2,g2.keeps z,s,(g2.frozen 0 (by simp)).trans f1,by simp⟩
theorem fS.back{n s:Nat}{w:World}{v:Value}{l:List cM}(h:fS n w v l)(g:s<=n):fS s w v l:=by
 refine⟨h.row.1,?_⟩;rcases h.row.2 with b|⟨g',cap,q,b,y,z⟩
 ·exact .inl b
 ·exact .inr ⟨g',cap,q,b,ajH g y,z⟩
theorem GO{w:World}{PB DB M:Nat}{c:Ch}{sv:Head}{t:Int}{d:Dk}(h:bF w PB DB M c sv t d):Calls ajB 142 #[.pointer (some ⟨PB,0,none⟩)] w (ar w (.bool false)):=by
 obtain⟨q,_,b⟩:=h.s.pg;have y:=b.down;go_enter Tryz.func142,Tryz.ntmps142;go_wp2_with fail
 go_ret;exact ar.mk rfl (Gr.refl _)
section
variable{w:World}{PB DB M:Nat}{c:Ch}{sv:Head}{t:Int}{d:Dk}
theorem Tp(h:bF w PB DB M c sv t d){TP root:Nat}(ht:bc w TP PB root)(hr:root<8)(s:ByteArray){tr:Tr}(hl:tr.lays c d.pg root):
  Calls ajB 116 #[.pointer (some ⟨TP,0,none⟩),.string s,.int .i64 (-1)] w fun e w'=>∃v,e=.returned (.tuple #[v,.nilIface])/\fS w.heap.size w' v (lA tr s)/\Gr w w':=by
 obtain⟨RR,Q⟩:∃RR,lA tr s=RR:=⟨_,rfl⟩;rw[Q];have b8:=ai8 Q;clear Q;have g8:=h.lt;have g9:=ad ht.p;obtain⟨D,G,H,I,b9⟩:=O6 w (.pointer (some ⟨TP,0,none⟩)) (.string s) (.int .i64 (-1)) 90 9 3;have tp:=ht.gr I;have c0:=GO (h.gr I);have c1:=ai8 c0;have J:=ai8 I;have S:=ai8 b9;have U:=tp.p;clear c0 b9 I tp;go_enter Tryz.func116,Tryz.ntmps116;go_wp2_with fail
 obtain⟨W3,c2⟩:∃W3,((w.alloc (.cells #[.pointer (some ⟨TP,0,none⟩)] 90)).alloc (.cells #[.string s] 9)).alloc (.cells #[.int .i64 (-1)] 3)=W3:=⟨_,rfl⟩;rw[c2]at D G H c1 J S U⊢;clear c2;obtain⟨y,V⟩:∃y,w.heap.size=y:=⟨_,rfl⟩;rw[V]at D G H S⊢;have d6:=ai8 V;clear V;refine c1.out.mono ?_;rintro e w1 ⟨rfl,b⟩;replace D:=b.keeps D;replace G:=b.keeps G;replace H:=b.keeps H;replace U:=b.keeps U;obtain⟨O,z0,z1,z2,z3⟩:=LQ w1 (.slice none 0 0) (.func (.func 168) #[] #[.pointer (some ⟨y,0,none⟩),.pointer (some ⟨y+1,0,none⟩),.pointer (some ⟨y+1+1,0,none⟩),.pointer (some ⟨w1.heap.size,0,none⟩),.pointer (some ⟨w1.heap.size+1,0,none⟩)]) 134 106;have Y:=ai8 O;have Z:=ai8 z3;have c3:=ai8 b;have c4:=me (h.gr ((J.out.trans b).trans O)) (ht.gr ((J.out.trans b).trans O)) hr;have a0:=ai8 c4;replace D:=O.keeps D;replace G:=O.keeps G;replace H:=O.keeps H;have HZ:=ai8 z2;clear O z3 b c4 z2;go_wp2_with fail
 obtain⟨z,a1⟩:∃z,w1.heap.size=z:=⟨_,rfl⟩;rw[a1]at z0 z1 HZ Y Z a0 D G H⊢;obtain⟨W5,c5⟩:∃W5,(w1.alloc (.cells #[.slice none 0 0] 134)).alloc (.cells #[.func (.func 168) #[] #[.pointer (some ⟨y,0,none⟩),.pointer (some ⟨y+1,0,none⟩),.pointer (some ⟨y+1+1,0,none⟩),.pointer (some ⟨z,0,none⟩),.pointer (some ⟨z+1,0,none⟩)]] 106)=W5:=⟨_,rfl⟩;rw[c5]at z0 z1 HZ Y Z a0 D G H⊢;clear c5;have g0:y+1+1<z:=by
  have h7:=S.out;have h8:=c3.out.size;omega
 have h0:=ai8 a1;clear a1;have c6:BC W5 y (y+1) (y+1+1) z (z+1) TP s:=⟨D,G,H,z1,by omega⟩;have c8:pw (z+1+1) W5 z (.slice none 0 0) []:=⟨z0,HZ.out,fS.nil _ _⟩;refine a0.out.mono ?_;rintro e w6 ⟨rfl,q⟩;have a2:Gr w W5:=(J.out.trans c3.out).trans Y.out;have B:=a2.trans q;have a3:=c6.gr q;have a4:=c8.gr q;have z0:=q.keeps z0;have z1:=q.keeps z1;have h3:=Z.out;have h7:=d6.out;clear c6 c8;cases tr with
 |none=>
  have h1:c.h.roots root=0:=hl;have HR:Hid (fS w.heap.size w6 (.slice none 0 0) RR/\Gr w w6):=ai8 ⟨by rw[<-b8.out];exact fS.nil _ _,B⟩;clear h3 h7 a2 B q a3 a4;go_wp2_with fail
  go_ret2;exact⟨_,rfl,HR.out⟩
 |some x=>
  obtain⟨q1,q2,q3,q4⟩:=hl;have a5:=T.cx q2;have h2:=tU 2000 x.2.af q4 (fun k hk=>(a5 k hk).2.1);have h4:=(a5 _ (T.ei x.2)).1;have h5:(0:Int)<c.h.roots root:=by omega
  have c9:=Nr (n:=z+1+1) (by omega) (by omega) (by omega) (h.gr B) (ht.gr B) a3 a4 (by have:=q.size;omega) q2 q3 (by simp;omega);have d7:=ai8 c9;have d8:=ai8 B;have g3:w.heap.size<=z:=by omega
  have b4:w.heap.size<=z+1+1:=by omega
  clear h3 h7 a2 B q a3 a4 c9 a5 q2 q3 q4;go_wp2_with fail
  refine d7.out.mono ?_;rintro e w7 ⟨rfl,v7,L,d0,d9⟩;have d1:Gr w w7:=d0.gr d8.out (fun j e=>by
   rcases e with e|e
   ·omega
   ·cases e)
  have z7:=L.c;have HR:Hid (fS w.heap.size w7 v7 RR/\Gr w w7):=ai8 ⟨by rw[<-b8.out];exact L.o.back b4,d1⟩;obtain⟨a7,c7,e7⟩:=L.o.form;clear L d0 d9 d1;subst e7;go_wp2_with fail
  go_ret2;exact⟨_,rfl,HR.out⟩
end
section
variable{pg:Nat->ByteArray}{d:Nat}
structure Kids(pg:Nat->ByteArray)(c:Ch)(p:Nat)(l:List (ByteArray×T d)):Prop where
 lays:∀x∈l,x.2.lays c pg
 fits:∀x∈l,x.2.eU
 aI:∀e∈l.map aH,e.ok false
 bytes:ah false (l.map aH)<=1024
 nd:(p::l.flatMap fun x=>x.2.af).Nodup
theorem EA{l m:List (ByteArray×T d)}(h:∀x∈l,∃y∈m,∀k∈x.2.af,k∈y.2.af):∀k∈l.flatMap (fun x=>x.2.af),k∈m.flatMap fun x=>x.2.af:=fun k b=>by
 obtain⟨x,q,b⟩:=ajb.1 b;obtain⟨y,s,hs⟩:=h x q;exact ajb.2 ⟨y,s,hs k b⟩
theorem GQ{l:List (ByteArray×T d)}{i:Nat}{a b:ByteArray×T d}(ha:l[i]?=some a)(q:l[i+1]?=some b):∃s z,l=s++a::b::z/\s.length=i:=by
 obtain⟨s,z,e,B⟩:=lC ha;refine⟨s,z.tail,?_,B⟩;rw[e]at q⊢;rw[List.getElem?_append_right (by omega),show i+1-s.length=1 by omega]at q;cases z with
 |nil=>simp at q
 |cons y r=>
  simp at q;rw[q]
  rfl
theorem Rr{c:Ch}{p:Nat}{l:List (ByteArray×T d)}(hc:c.aA)(h:Kids pg c p l)(k:Nat)(u:T d):
  Fr pg (l.flatMap fun x=>x.2.af) c (cL c l k u).1/\Kids pg (cL c l k u).1 p (cL c l k u).2/\(∀j∈(cL c l k u).2.flatMap (fun x=>x.2.af),j∈l.flatMap fun x=>x.2.af)/\(l≠[]->(cL c l k u).2≠[]):=by
 have G:Fr pg (l.flatMap fun x=>x.2.af) c c/\Kids pg c p l/\(∀j∈l.flatMap (fun x=>x.2.af),j∈l.flatMap fun x=>x.2.af)/\(l≠[]->l≠[]):=⟨Fr.refl hc _,h,fun _ h=>h,fun h=>h⟩;by_cases h1:341<ah (bA d) u.aI\/l.length<2
 ·have e:cL c l k u=(c,l):=by
   unfold cL;rw[if_pos h1]
  rw[e];exact G
 cases ha:l[k-1]? with
 |none=>
  have e:cL c l k u=(c,l):=by
   unfold cL;rw[if_neg h1,ha]
  rw[e];exact G
 |some a=>
  cases Z:l[k-1+1]? with
  |none=>
   have e:cL c l k u=(c,l):=by
    unfold cL;rw[if_neg h1,ha,Z]
   rw[e];exact G
  |some b=>
   by_cases h2:1024<ah (bA d) (a.2.meet b.1 b.2).aI
   ·have e:cL c l k u=(c,l):=by
     unfold cL;rw[if_neg h1,ha,Z];exact if_pos h2
    rw[e];exact G
   have a6:ah (bA d) (a.2.meet b.1 b.2).aI<=1024:=by omega
   obtain⟨l1,l2,z,S⟩:=GQ ha Z;have e:cL c l k u=((c.write (a.2.pg:Nat) (au (bA d) (a.2.meet b.1 b.2).aI)).free (b.2.pg:Nat),l1++(a.1,a.2.meet b.1 b.2)::l2):=by
    unfold cL;rw[if_neg h1,ha,Z];refine(if_neg h2).trans ?_;rw[<-S,z,mb];have:=ot b l2 (l1++[(a.1,a.2.meet b.1 b.2)]);rw[ajd,ajr]at this;simp only[ajI,List.singleton_append]at this;rw[this]
   rw[e];have a2:a∈l:=by rw[z];simp
   have U:b∈l:=by rw[z];simp
   have c2:=h.fits a a2;have c3:=h.fits b U;have a9:=T.nC.1 (h.lays a a2);have b0:=T.nC.1 (h.lays b U);have c4:b.1.size<=60:=(h.aI (aH b) (List.mem_map_of_mem U)).key;have b1:=Rk c2 c3 c4 a6;have V:=h.nd;rw[z,ai6,ai5,ai5,T.qs a.2,T.qs b.2]at V;obtain⟨P1,L⟩:∃P1,l1.flatMap (fun x=>x.2.af)=P1:=⟨_,rfl⟩;obtain⟨P2,M⟩:∃P2,l2.flatMap (fun x=>x.2.af)=P2:=⟨_,rfl⟩;obtain⟨A,hA⟩:∃A,a.2.af.tail=A:=⟨_,rfl⟩;obtain⟨B,hB⟩:∃B,b.2.af.tail=B:=⟨_,rfl⟩;rw[L,M,hA,hB]at V;simp only[ajs,ajg,ajq,ai_,ai3,not_or]at V;obtain⟨⟨c5,c6,c7,e4,c8,c9⟩,n1,⟨⟨b3,b4,b5,b6⟩,nA,⟨⟨d0,d1⟩,nB,n2,d2⟩,a3⟩,I⟩:=V;have d3:a.2.pg∈l.flatMap fun x=>x.2.af:=ajb.2 ⟨a,a2,T.ei _⟩;have d4:b.2.pg∈l.flatMap fun x=>x.2.af:=ajb.2 ⟨b,U,T.ei _⟩;have d5:(au (bA d) (a.2.meet b.1 b.2).aI).size=1024:=dA (T.kP.1 b1).1.2.2 a6;obtain⟨w1,w2,w3⟩:=gb (pg:=pg) hc a9.1.1 d5;have d6:=w1.GD b0.1.1 (by simpa using fun e=>b4 e.symm);have f1:=Bu (pg:=pg) w1.aA d6;have O:Fr pg [a.2.pg,b.2.pg] c ((c.write (a.2.pg:Nat) (au (bA d) (a.2.meet b.1 b.2).aI)).free (b.2.pg:Nat)):=
    (w1.wide (S':=[a.2.pg,b.2.pg]) fun k s=>.inl (by rw[ai1.1 s];exact aja)).trans f1 fun k s=>.inl (by rw[ai1.1 s];exact ai4 _ aja)
   have b7:(a.2.meet b.1 b.2).af=a.2.pg::(A++B):=by
    rw[Ja,T.qs a.2,hA,hB,ajs]
   have a0:∀x∈l1,x.2.lays ((c.write (a.2.pg:Nat) (au (bA d) (a.2.meet b.1 b.2).aI)).free (b.2.pg:Nat)) pg:=fun x q=>T.gj O (h.lays x (by rw[z];exact ajh _ q)) fun k s D=>by
    have S:k∈P1:=by rw[<-L];exact ajb.2 ⟨x,q,s⟩
    rcases ai3.1 D with e|D
    ·exact I k S k (.inl e) rfl
    ·exact I k S k (.inr (.inr (.inl (ai1.1 D)))) rfl
   have a1:∀x∈l2,x.2.lays ((c.write (a.2.pg:Nat) (au (bA d) (a.2.meet b.1 b.2).aI)).free (b.2.pg:Nat)) pg:=fun x q=>T.gj O (h.lays x (by rw[z];exact ajk _ (ai4 _ (ai4 _ q)))) fun k s D=>by
    have Y:k∈P2:=by rw[<-M];exact ajb.2 ⟨x,q,s⟩
    rcases ai3.1 D with e|D
    ·rw[e]at Y;exact b6 Y
    ·rw[ai1.1 D]at Y;exact d1 Y
   have a5:(a.2.meet b.1 b.2).lays ((c.write (a.2.pg:Nat) (au (bA d) (a.2.meet b.1 b.2).aI)).free (b.2.pg:Nat)) pg:=by
    refine T.nC.2 ⟨?_,LD (T.I_ O a9.2 fun k s D=>?_) (T.I_ O b0.2 fun k s D=>?_)⟩
    ·rw[Bv];exact f1.Er ⟨w2,w3⟩ (by simpa using b4)
    ·rw[hA]at s;rcases ai3.1 D with e|D
     ·rw[e]at s;exact b3 s
     ·exact a3 k s k (.inl (ai1.1 D)) rfl
    ·rw[hB]at s;rcases ai3.1 D with e|D
     ·rw[e]at s;exact b5 s
     ·rw[ai1.1 D]at s;exact d0 s
   have J:aH (a.1,a.2.meet b.1 b.2)=aH a:=by
    unfold aH;rw[Bv]
   refine⟨O.wide fun k s=>.inl ?_,⟨fun x q=>?_,fun x q=>?_,fun e Q=>h.aI e ?_,?_,?_⟩,fun j hj=>?_,fun _=>by simp⟩
   ·rcases ai3.1 s with e|s
    ·rw[e];exact d3
    ·rw[ai1.1 s];exact d4
   ·rcases ai_.1 q with q|q
    ·exact a0 x q
    rcases ai3.1 q with e|q
    ·rw[e];exact a5
    ·exact a1 x q
   ·rcases ai_.1 q with q|q
    ·exact h.fits x (by rw[z];exact ajh _ q)
    rcases ai3.1 q with e|q
    ·rw[e];exact b1
    ·exact h.fits x (by rw[z];exact ajk _ (ai4 _ (ai4 _ q)))
   ·rw[z];simp only[ajt,ajw,J,ai_,ai3]at Q⊢;rcases Q with Q|Q|Q
    ·exact .inl Q
    ·exact .inr (.inl Q)
    ·exact .inr (.inr (.inr Q))
   ·have Z:=h.bytes;rw[z]at Z;simp only[ajt,ajw,J,ah,kN,bK]at Z⊢;omega
   ·rw[ai6,ai5,b7,L,M];simp only[ajs,ajg,ajq,ai_,ai3,not_or];refine⟨⟨c5,c6,⟨c7,c8⟩,c9⟩,n1,⟨⟨⟨b3,b5⟩,b6⟩,⟨nA,nB,fun x q y H=>a3 x q y (.inr (.inl H))⟩,n2,fun x q y H=>?_⟩,fun x q y H=>?_⟩
    ·rcases q with q|q
     ·exact a3 x q y (.inr (.inr H))
     ·exact d2 x q y H
    ·rcases H with H|(H|H)|H
     ·exact I x q y (.inl H)
     ·exact I x q y (.inr (.inl H))
     ·exact I x q y (.inr (.inr (.inr (.inl H))))
     ·exact I x q y (.inr (.inr (.inr (.inr H))))
   ·rw[ai6,ai5,b7,L,M]at hj;rw[z,ai6,ai5,ai5,T.qs a.2,T.qs b.2,L,M,hA,hB];simp only[ajs,ai_,ai3]at hj⊢;rcases hj with h|h|(h|h)|h
    ·exact .inl h
    ·exact .inr (.inl h)
    ·exact .inr (.inr (.inl h))
    ·exact .inr (.inr (.inr (.inr (.inl h))))
    ·exact .inr (.inr (.inr (.inr (.inr h))))
end
theorem BE{leaf:Bool}{a b:List En}(h:a.Sublist b)(q:(∀e∈b,e.ok leaf)/\ah leaf b<=1024):(∀e∈a,e.ok leaf)/\ah leaf a<=1024:=by
 refine⟨fun e s=>q.1 e (h.subset s),?_⟩;have:=Eu (leaf:=leaf) h;have y:=q.2;unfold ah at*;omega
theorem qt{pg:Nat->ByteArray}{key:ByteArray}:∀{d:Nat} {c:Ch} {t:T d},c.aA->t.lays c pg->t.eU->t.af.Nodup->Nk pg c t (dh c t key)
 |0,c,t,hc,V,Q,hn=>by
  obtain⟨p,l⟩:Nat×List (ByteArray×ByteArray):=t;have V:gO c pg true p (l.map bE):=V;have Q:pM true (l.map bE):=Q;have e0:dh (d:=0) c (p,l) key=(c.write (p:Nat) (au true ((l.eraseIdx (ai (l.map ai2) key)).map bE)),(p,l.eraseIdx (ai (l.map ai2) key))):=rfl;obtain⟨m,Y⟩:∃m,l.eraseIdx (ai (l.map ai2) key)=m:=⟨_,rfl⟩;have I:(m.map bE).Sublist (l.map bE):=by
   rw[<-Y];exact(List.eraseIdx_sublist _ _).map _
  obtain⟨g1,g2⟩:=BE I ⟨Q.2.2,Q.2.1⟩;obtain⟨w1,w2,w3⟩:=gb (pg:=pg) hc V.1 (dA g1 g2);rw[e0,Y];exact⟨w1,rfl,⟨w2,w3⟩,fun h=>⟨h,g2,g1⟩,fun k b=>b,hn⟩
 |d+1,c,t,hc,V,Q,hn=>by
  obtain⟨p,l⟩:Nat×List (ByteArray×T d):=t;have c9:l.map ai2≠[]:=fun e=>Q.1.1 (by
   have:l=[]:=ajC.1 e;show l.map aH=[];rw[this]
   rfl)
  have b0:=nw c9 key;rw[ai9]at b0;obtain⟨x,hx⟩:∃x,l[aG (l.map ai2) key]?=some x:=⟨_,aji b0⟩;obtain⟨z,B,G,b1⟩:=lC hx;have M:x∈l:=by rw[G];simp
  have a0:(p::l.flatMap fun y=>y.2.af).Nodup:=hn;have a1:=a0;rw[G,ai6,ai5]at a1;obtain⟨n1,n2⟩:=ajg.1 a1;obtain⟨n3,n4,n5⟩:=ajq.1 n2;obtain⟨n6,n7,n8⟩:=ajq.1 n4;have b2:∀y∈l,y.2.lays c pg:=V.2;have b3:∀y∈l,y.2.eU:=Q.2;have a7:gO c pg false p (l.map aH):=V.1;have J:pM false (l.map aH):=Q.1;have S:=qt (pg:=pg) (key:=key) hc (b2 x M) (b3 x M) n6;have hS:∀k∈x.2.af,k∈p::l.flatMap (fun y=>y.2.af):=fun k h=>ai4 _ (ajb.2 ⟨x,M,h⟩);have D:∀y,y∈z\/y∈B->y∈l/\∀k∈y.2.af,k∉x.2.af:=fun y q=>by
   rcases q with q|q
   ·refine⟨by rw[G];exact ajh _ q,fun k h1 h2=>n5 k (ajb.2 ⟨y,q,h1⟩) k (ajh _ h2) rfl⟩
   ·refine⟨by rw[G];exact ajk _ (ai4 _ q),fun k h1 h2=>n8 k h2 k (ajb.2 ⟨y,q,h1⟩) rfl⟩
  have d0:p∉x.2.af:=fun h=>n1 (ajk _ (ajh _ h));rcases hr:dh c x.2 key with⟨H,u⟩
  rw[hr]at S;have O:Fr pg x.2.af c H:=S.fr;have d1:u.pg=x.2.pg:=S.b_;have b4:u.lays H pg:=S.lays;have a2:u.aI≠[]->u.eU:=S.fits;have a3:∀k∈u.af,k∈x.2.af:=S.sub;have d2:u.af.Nodup:=S.nd;have b8:l.set (aG (l.map ai2) key) (x.1,u)=z++(x.1,u)::B:=by rw[<-b1,G,mb]
  have b9:(z++(x.1,u)::B).eraseIdx (aG (l.map ai2) key)=z++B:=by rw[<-b1,ot]
  have Z:(z++(x.1,u)::B).map aH=l.map aH:=by
   rw[G];simp only[ajt,ajw];have:aH (x.1,u)=aH x:=by
    unfold aH;rw[d1]
   rw[this]
  have L:∀y,y∈z\/y∈B->y.2.lays H pg/\y.2.eU:=fun y q=>⟨T.gj O (b2 y (D y q).1) (D y q).2,b3 y (D y q).1⟩;have d3:gO H pg false p (l.map aH):=O.Er a7 d0;have d4:Fr pg (p::l.flatMap fun y=>y.2.af) c H:=O.wide fun k h=>.inl (hS k h);obtain⟨s,hs⟩:∃s:Ch×List (ByteArray×T d),(if u.aI.isEmpty then(H.free (u.pg:Nat),(z++(x.1,u)::B).eraseIdx (aG (l.map ai2) key))else cL H (z++(x.1,u)::B) (aG (l.map ai2) key) u)=s:=⟨_,rfl⟩;have e0:dh (d:=d+1) c (p,l) key=(s.1.write (p:Nat) (au false (s.2.map aH)),(p,s.2)):=by
   refine(dh.eq_2 c key d ((p,l):Nat×List (ByteArray×T d))).trans ?_;simp only[hx,hr,b8,hs]
   rfl
  have c0:Fr pg (l.flatMap fun y=>y.2.af) H s.1/\(∀y∈s.2,y.2.lays s.1 pg)/\(∀y∈s.2,y.2.eU)/\(∀e∈s.2.map aH,e.ok false)/\ah false (s.2.map aH)<=1024/\(p::s.2.flatMap fun y=>y.2.af).Nodup/\∀k∈s.2.flatMap (fun y=>y.2.af),k∈l.flatMap fun y=>y.2.af:=by
   by_cases a4:u.aI.isEmpty=true
   ·have a5:s=(H.free (u.pg:Nat),z++B):=by
     rw[<-hs,if_pos a4,b9]
    rw[a5];have b5:u.pg∈x.2.af:=a3 _ (T.ei u);have b6:=Bu (pg:=pg) O.aA (T.cx b4 _ (T.ei u));have b7:(z++B).Sublist l:=by
     rw[G];exact ajD (ajJ _) (List.sublist_cons_self _ _)
    have d5:((z++B).map aH).Sublist (l.map aH):=b7.map _;obtain⟨g1,g2⟩:=BE d5 ⟨J.2.2,J.2.1⟩;have a6:∀y∈z++B,y∈z\/y∈B:=fun y q=>ai_.1 q;refine⟨b6.wide fun k b=>.inl ?_,fun y q=>T.gj b6 (L y (a6 y q)).1 fun k b Y=>?_,fun y q=>(L y (a6 y q)).2,g1,g2,?_,?_⟩
    ·rw[ai1.1 b];exact ajb.2 ⟨x,M,b5⟩
    ·rw[ai1.1 Y]at b;exact(D y (a6 y q)).2 _ b b5
    ·have:((z++B).flatMap fun y=>y.2.af).Sublist (l.flatMap fun y=>y.2.af):=by
      rw[G,ai6,ai6,ai5];exact ajD (ajJ _) (List.sublist_append_right _ _)
     exact a0.sublist (this.cons_cons p)
    ·exact EA fun y q=>⟨y,b7.subset q,fun k b=>b⟩
   ·have a5:s=cL H (z++(x.1,u)::B) (aG (l.map ai2) key) u:=by
     rw[<-hs,if_neg a4]
    have a2:=a2 (fun e=>a4 (by rw[e];rfl));have I:∀k∈(z++(x.1,u)::B).flatMap (fun y=>y.2.af),k∈l.flatMap fun y=>y.2.af:=EA fun y q=>by
     rcases ai_.1 q with h|h
     ·exact⟨y,(D y (.inl h)).1,fun k b=>b⟩
     rcases ai3.1 h with e|h
     ·exact⟨x,M,fun k b=>by rw[e]at b;exact a3 k b⟩
     ·exact⟨y,(D y (.inr h)).1,fun k b=>b⟩
    have hK:Kids pg H p (z++(x.1,u)::B):=by
     refine⟨fun y q=>?_,fun y q=>?_,by rw[Z];exact J.2.2,by rw[Z];exact J.2.1,?_⟩
     ·rcases ai_.1 q with h|h
      ·exact(L y (.inl h)).1
      rcases ai3.1 h with e|h
      ·rw[e];exact b4
      ·exact(L y (.inr h)).1
     ·rcases ai_.1 q with h|h
      ·exact(L y (.inl h)).2
      rcases ai3.1 h with e|h
      ·rw[e];exact a2
      ·exact(L y (.inr h)).2
     ·rw[ai6,ai5];exact vx (U:=fun _=>True) a1 d2 (fun k b=>.inl (a3 k b)) (fun _ _=>trivial)
    obtain⟨j1,j2,j3,_⟩:=Rr O.aA hK (aG (l.map ai2) key) u;rw[a5];exact⟨j1.wide fun k b=>.inl (I k b),j2.lays,j2.fits,j2.aI,j2.bytes,j2.nd,fun k b=>I k (j3 k b)⟩
  obtain⟨k1,k2,k3,k4,k5,k6,k7⟩:=c0;have d6:p∉l.flatMap fun y=>y.2.af:=(ajg.1 a0).1;have d7:eW s.1 p:=k1.GD d3.1 d6;obtain⟨w1,w2,w3⟩:=gb (pg:=pg) k1.aA d7 (dA k4 k5);rw[e0];have c2:=(ajg.1 k6).1;refine⟨(d4.trans (k1.wide (S':=p::l.flatMap fun y=>y.2.af) fun k b=>.inl (ai4 _ b)) fun k b=>.inl b).trans w1 fun k b=>.inl (by rw[ai1.1 b];exact aja),rfl,⟨⟨w2,w3⟩,fun y q=>T.gj w1 (k2 y q) fun k b Y=>?_⟩,fun h=>⟨⟨h,k5,k4⟩,k3⟩,fun k b=>?_,k6⟩
  ·rw[ai1.1 Y]at b;exact c2 (ajb.2 ⟨y,q,b⟩)
  ·rcases ai3.1 b with e|b
   ·rw[e];exact aja
   ·exact ai4 _ (k7 k b)
structure kQ(pg:Nat->ByteArray)(S:List Nat)(i:Nat)(c c':Ch):Prop where
 aA:c'.aA
 keep:∀k,1<=k->k<2000->c.h.used k=true->k∉S->c'.h.used k=true/\eT pg c'.F k=eT pg c.F k
 roots:∀j,j≠i->c'.h.roots j=c.h.roots j
section
variable{pg:Nat->ByteArray}{i:Nat}
theorem Fr.sZ{S:List Nat}{c b:Ch}(h:Fr pg S c b)(i:Nat):kQ pg S i c b:=⟨h.aA,h.keep,fun j _=>by rw[h.roots]⟩
theorem kQ.refl{c:Ch}(h:c.aA)(S:List Nat):kQ pg S i c c:=⟨h,fun _ _ _ hu _=>⟨hu,rfl⟩,fun _ _=>rfl⟩
theorem kQ.trans{S S':List Nat}{c c1 q:Ch}(h:kQ pg S i c c1)(b:kQ pg S' i c1 q)(hs:∀k∈S',k∈S\/c.h.used k=false):kQ pg S i c q:=
 ⟨b.aA,fun k s y hu hn=>by
  obtain⟨B,D⟩:=h.keep k s y hu hn;obtain⟨G,H⟩:=b.keep k s y B (fun I=>by
   rcases hs k I with e|e
   ·exact hn e
   ·rw[e]at hu;cases hu)
  exact⟨G,H.trans D⟩,fun j z=>(b.roots j z).trans (h.roots j z)⟩
theorem kQ.set{c:Ch}{p n:Int}(h:(⟨c.h.dE i p n,c.F⟩:Ch).aA):kQ pg [] i c ⟨c.h.dE i p n,c.F⟩:=
 ⟨h,fun _ _ _ hu _=>⟨hu,rfl⟩,fun j b=>by
  show(if j=i then p else c.h.roots j)=_;rw[if_neg b]⟩
theorem nD{c:Ch}(p n:Int):(⟨c.h.dE i p n,c.F⟩:Ch).h.roots i=p:=by
 show(if i=i then p else c.h.roots i)=p;rw[if_pos rfl]
theorem Ch.aA.set{c:Ch}(h:c.aA)(i:Nat){p n:Int}(b:0<=p/\p<2000)(hn:0<=n/\n<65536):(⟨c.h.dE i p n,c.F⟩:Ch).aA:=⟨Ed h.head i b hn,h.g_⟩
theorem T.tV{c:Ch}{p n:Int}:{d:Nat}->{t:T d}->t.lays c pg->t.lays ⟨c.h.dE i p n,c.F⟩ pg
 |0,t,h=>h
 |d+1,t,h=>⟨h.1,fun x b=>T.tV (h.2 x b)⟩
structure lh(pg:Nat->ByteArray)(i:Nat)(c:Ch)(X:Tr)(c':Ch)(X':Tr):Prop where
 k:kQ pg X.af i c c'
 lays:X'.lays c' pg i
 sub:∀k∈X'.af,k∈X.af\/c.h.used k=false
theorem lh.refl{c:Ch}{X:Tr}(hc:c.aA)(h:X.lays c pg i):lh pg i c X c X:=⟨kQ.refl hc _,h,fun _ h=>.inl h⟩
theorem lh.more{c q:Ch}{X b:Tr}(h:lh pg i c X q b)(hi:i<8)(m:Int):lh pg i c X (dJ q i m).1 b:=by
 unfold dJ
 split
 ·rename_i s
  have hf:=h.k.aA.set i (h.k.aA.head.root i hi) s;refine⟨h.k.trans (kQ.set hf) (fun k y=>by cases y),?_,h.sub⟩;cases b with
  |none=>
   have:=h.lays;exact(nD _ _).trans this
  |some t=>exact⟨(nD _ _).trans h.lays.1,T.tV h.lays.2.1,h.lays.2.2⟩
 ·exact h
theorem ED{d:Nat}{u:T d}(b:u.eU):((u.aI.head?.map En.key).getD eZ).size<=60:=by
 have b:=(T.kP.1 b).1.2.2;cases q:u.aI with
 |nil=>show(0:Nat)<=60;omega
 |cons e r=>
  rw[q]at b;exact(b e aja).key
def zm(b:ByteArray)(p1:Nat)(k2:ByteArray)(p2:Nat):List En:=[⟨b,eZ,p1⟩,⟨k2,eZ,p2⟩]
theorem Jk{q k2:ByteArray}{p1 p2:Nat}(s:q.size<=60)(y:k2.size<=60)(g1:p1<2000)(g2:p2<2000):pM false (zm q p1 k2 p2):=by
 refine⟨(fun h=>by cases h),?_,fun e b=>?_⟩
 ·unfold zm ah;rw[bK,bK];unfold En.sz cH;simp;omega
 ·unfold zm at b;simp at b;rcases b with rfl|rfl
  ·exact⟨s,by show(0:Nat)<=100;omega,g1,(fun h=>by cases h),fun _=>rfl⟩
  ·exact⟨y,by show(0:Nat)<=100;omega,g2,(fun h=>by cases h),fun _=>rfl⟩
theorem Jl{key item:ByteArray}(q:key.size<=60)(s:item.size<=100):pM true [⟨key,item,0⟩]:=by
 refine⟨(fun h=>by cases h),?_,fun e b=>?_⟩
 ·unfold ah;rw[bK];unfold En.sz cH;simp;omega
 ·simp at b;rw[b];exact⟨q,s,by show(0:Nat)<2000;omega,fun _=>rfl,(fun h=>by cases h)⟩
theorem yg{c:Ch}{X:Tr}(hc:c.aA)(h:X.lays c pg i)(hi:i<8){key item:ByteArray}(G:key.size<=60)(hit:item.size<=100):lh pg i c X (bj c i X key item).1 (bj c i X key item).2.1:=by
 cases X with
 |none=>
  unfold bj;cases ha:bZ c.h with
  |none=>exact lh.refl hc h
  |some k=>
   obtain⟨f1,u1,J,k1,k2⟩:=ny (pg:=pg) hc ha;have L:=Jl G hit;obtain⟨f2,u2,M⟩:=gb (pg:=pg) f1.aA u1 (dA L.2.2 L.2.1);have hf:=f2.aA.set i (p:=(k:Nat)) (n:=((c.alloc.write (k:Nat) (au true [⟨key,item,0⟩])).h.notes i)) (by omega) (f2.aA.head.note i hi);have V:kQ pg [] i c (c.alloc.write (k:Nat) (au true [⟨key,item,0⟩])):=(f1.sZ i).trans (f2.sZ i) fun j b=>.inr (by rw[ai1.1 b];exact J);refine⟨V.trans (kQ.set hf) (fun k G=>by cases G),⟨nD _ _,⟨u2,M⟩,L,?_⟩,fun j b=>.inr ?_⟩
   ·show([k]:List Nat).Nodup;simp
   ·have:j∈([k]:List Nat):=b;rw[ai1.1 this];exact J
 |some x=>
  obtain⟨d,t⟩:=x;obtain⟨hr,hl,L,hn⟩:=h;have q:=wN (pg:=pg) G hit hc hl L hn;rcases O:cK c t key item with⟨s,u,r⟩
  rw[O]at q;have z:lh pg i c (some ⟨d,t⟩) s (some ⟨d,u⟩):=by
   refine⟨q.fr.sZ i,⟨?_,q.lays,q.fits,q.nd⟩,q.sub⟩;show s.h.roots i=(u.pg:Nat);have e1:s.h.roots=c.h.roots:=q.fr.roots;have M:u.pg=t.pg:=q.b_;rw[e1,M];exact hr
  rcases r with _|_|m
  ·unfold bj;simp only[O];exact z
  ·unfold bj;simp only[O];exact z
  ·cases ha:bZ s.h with
   |none=>
    unfold bj;simp only[O,ha];exact z
   |some k=>
    unfold bj;simp only[O,ha];obtain⟨Q,Y,mk,Z,mn⟩:=q.more m rfl;have Q:m.2.lays s pg:=Q;have Y:m.2.eU:=Y;have Z:∀k∈m.2.af,k∈t.af\/c.h.used k=false:=Z;have mn:(u.af++m.2.af).Nodup:=mn;have ul:u.lays s pg:=q.lays;have uo:u.eU:=q.fits;obtain⟨f1,u1,J,k1,k2⟩:=ny (pg:=pg) q.fr.aA ha;have uu:=T.cx ul;have mu:=T.cx Q;have H:=Jk (p1:=u.pg) (p2:=m.2.pg) (ED uo) mk (uu _ (T.ei u)).2.1 (mu _ (T.ei m.2)).2.1;obtain⟨f2,u2,M⟩:=gb (pg:=pg) f1.aA u1 (dA H.2.2 H.2.1);have hf:=f2.aA.set i (p:=(k:Nat)) (n:=((s.alloc.write (k:Nat) (au false (zm ((u.aI.head?.map En.key).getD eZ) u.pg m.1 m.2.pg))).h.notes i)) (by omega) (f2.aA.head.note i hi);have I:Fr pg [k] s (s.alloc.write (k:Nat) (au false (zm ((u.aI.head?.map En.key).getD eZ) u.pg m.1 m.2.pg))):=(f1.wide (S':=[k]) fun j b=>by cases b).trans f2 fun j b=>.inl b;have S:∀j,eW s j->j∉([k]:List Nat):=fun j b D=>by
     have:=ai1.1 D;rw[this]at b;have:=b.2.2;rw[J]at this;cases this
    have U:k∈t.af\/c.h.used k=false:=by
     by_cases hu:c.h.used k=true
     ·by_cases D:k∈t.af
      ·exact .inl D
      ·have:=(q.fr.keep k k1 k2 hu D).1;rw[J]at this;cases this
     ·exact .inr (by simpa using hu)
    have V:kQ pg t.af i c (s.alloc.write (k:Nat) (au false (zm ((u.aI.head?.map En.key).getD eZ) u.pg m.1 m.2.pg))):=(q.fr.sZ i).trans (I.sZ i) fun j b=>by rw[ai1.1 b];exact U
    refine⟨V.trans (kQ.set hf) (fun k G=>by cases G),⟨nD _ _,⟨⟨u2,M⟩,fun y B=>?_⟩,⟨H,fun y B=>?_⟩,?_⟩,fun j b=>?_⟩
    ·refine T.tV ?_;have B:y∈[((u.aI.head?.map En.key).getD eZ,u),m]:=B;rcases ai3.1 B with e|B
     ·rw[e];exact T.gj I ul fun j b=>S j (uu j b)
     ·rw[ai1.1 B];exact T.gj I Q fun j b=>S j (mu j b)
    ·have B:y∈[((u.aI.head?.map En.key).getD eZ,u),m]:=B;rcases ai3.1 B with e|B
     ·rw[e];exact uo
     ·rw[ai1.1 B];exact Y
    ·show(k::(u.af++(m.2.af++[]))).Nodup;rw[ajf];refine ajg.2 ⟨fun D=>?_,mn⟩;rcases ai_.1 D with D|D
     ·exact S k (uu k D) (ai1.2 rfl)
     ·exact S k (mu k D) (ai1.2 rfl)
    ·have b:j∈k::(u.af++(m.2.af++[])):=b;rw[ajf]at b;rcases ai3.1 b with e|b
     ·rw[e];exact U
     rcases ai_.1 b with b|b
     ·exact q.sub j b
     ·exact Z j b
theorem Rs{c:Ch}{X:Tr}(hc:c.aA)(h:X.lays c pg i)(hi:i<8)(key item:ByteArray):lh pg i c X (jC c i X key item).1 (jC c i X key item).2.1:=by
 unfold jC
 split
 ·exact lh.refl hc h
 rename_i hs
 split
 ·exact lh.refl hc h
 have b:=yg hc h hi (key:=key) (item:=item) (by omega) (by omega);rcases q:bj c i X key item with⟨s,u,n⟩
 rw[q]at b;cases n with
 |zero=>exact b.more hi _
 |succ n=>exact b
theorem BF{c:Ch}{X:Tr}(hc:c.aA)(h:X.lays c pg i)(hi:i<8)(key:ByteArray):lh pg i c X (bP c i X key).1 (bP c i X key).2:=by
 cases X with
 |none=>exact lh.refl hc h
 |some x=>
  obtain⟨d,t⟩:=x;obtain⟨hr,hl,ho,hn⟩:=h;have s:=qt (pg:=pg) (key:=key) hc hl ho hn;rcases S:dh c t key with⟨q,u⟩
  rw[S]at s;have D:Fr pg t.af c q:=s.fr;have H:u.pg=t.pg:=s.b_;have I:u.lays q pg:=s.lays;have J:∀k∈u.af,k∈t.af:=s.sub;have L:u.af.Nodup:=s.nd;have U:q.h.roots i=(u.pg:Nat):=by
   rw[D.roots,H];exact hr
  have V:eW q t.pg:=by
   rw[<-H];exact T.cx I _ (T.ei u)
  have f2:=Bu (pg:=pg) D.aA V;have kf:kQ pg t.af i c (q.free (t.pg:Nat)):=(D.sZ i).trans (f2.sZ i) fun k b=>.inl (by rw[ai1.1 b];exact T.ei t);have z:u.aI≠[]->lh pg i c (some ⟨d,t⟩) q (some ⟨d,u⟩):=fun G=>⟨D.sZ i,⟨U,I,s.fits G,L⟩,fun k b=>.inl (J k b)⟩;have B:lh pg i c (some ⟨d,t⟩) ((q.free (t.pg:Nat)).root i 0) none:=by
   have hf:=f2.aA.set i (p:=0) (n:=(q.free (t.pg:Nat)).h.notes i) (by omega) (f2.aA.head.note i hi);exact⟨kf.trans (kQ.set hf) (fun k b=>by cases b),nD _ _,fun k b=>by cases b⟩
  cases d with
  |zero=>
   unfold bP;simp only[S]
   split
   ·exact B
   ·rename_i M
    exact z fun e=>M (by rw[e];rfl)
  |succ d=>
   obtain⟨p,l⟩:Nat×List (ByteArray×T d):=u;unfold bP;simp only[S]
   split
   ·exact B
   rename_i M
   have G:T.aI (d:=d+1) (p,l)≠[]:=fun e=>M (by rw[e];rfl);have hs:=z G;have Y:∀x,l=[x]->lh pg i c (some ⟨d+1,t⟩) ((q.free (t.pg:Nat)).root i (T.pg (d:=d) x.2:Nat)) (some ⟨d,x.2⟩):=by
    intro x hx;subst hx;have O:x.2.lays q pg:=I.2 x aja;have Z:x.2.eU:=(s.fits G).2 x aja;have Q:T.af (d:=d+1) (p,[x])=p::(x.2.af++[]):=rfl;rw[ajf]at Q;rw[Q]at L J;obtain⟨n1,n2⟩:=ajg.1 L;have a0:p=t.pg:=H;have a1:x.2.lays (q.free (t.pg:Nat)) pg:=T.gj f2 O fun k b hm=>by
     rw[ai1.1 hm,<-a0]at b;exact n1 b
    have a2:=T.cx O _ (T.ei x.2);have hf:=f2.aA.set i (p:=(x.2.pg:Nat)) (n:=(q.free (t.pg:Nat)).h.notes i) (by have:=a2.2.1;omega) (f2.aA.head.note i hi);exact⟨kf.trans (kQ.set hf) (fun k b=>by cases b),⟨nD _ _,T.tV a1,Z,n2⟩,fun k b=>.inl (J k (ai4 _ b))⟩
   rcases l with _|⟨x,_|⟨y,r⟩⟩
   ·exact hs
   ·exact Y x rfl
   ·exact hs
theorem O7{c:Ch}{X:Tr}(hc:c.aA)(h:X.lays c pg i)(hi:i<8)(key:ByteArray):lh pg i c X (lz c i X key).1 (lz c i X key).2.1:=by
 unfold lz;cases X.get key with
 |none=>exact lh.refl hc h
 |some b=>exact(BF hc h hi key).more hi _
end
theorem LR(a b:List UInt8):ai7 b a=-ai7 a b:=by
 induction a generalizing b with
 |nil=>cases b<;>simp[ai7]
 |cons x B z=>
  cases b with
  |nil=>simp[ai7]
  |cons y D=>
   simp only[ai7];by_cases q:x<y
   ·have s:¬y<x:=fun h=>UInt8.lt_irrefl _ (ajV q h);simp[q,s]
   ·by_cases s:y<x
    ·simp[q,s]
    ·simp[q,s,z]
theorem Jm(a b c:List UInt8)(B:ai7 a b=-1)(q:ai7 b c=-1):ai7 a c=-1:=by
 induction a generalizing b c with
 |nil=>
  cases c with
  |nil=>cases b<;>simp[ai7]at B q
  |cons z I=>simp[ai7]
 |cons x L J=>
  cases b with
  |nil=>simp[ai7]at B
  |cons y M=>
   cases c with
   |nil=>simp[ai7]at q
   |cons z I=>
    simp only[ai7]at B q⊢;by_cases D:x<y
    ·by_cases s:y<z
     ·simp[ajV D s]
     ·by_cases G:z<y
      ·simp[s,G]at q
      ·have e:y=z:=ajK (ajx.1 G) (ajx.1 s);subst e;simp[D]
    ·by_cases H:y<x
     ·simp[D,H]at B
     ·have e:x=y:=ajK (ajx.1 H) (ajx.1 D);subst e;simp only[D,if_false]at B;by_cases s:x<z
      ·simp[s]
      ·by_cases G:z<x
       ·simp[s,G]at q
       ·simp only[s,G,if_false]at q⊢;exact J _ _ B q
def ay(a b:ByteArray):Prop:=gh a b<0
instance (a b:ByteArray):Decidable (ay a b):=inferInstanceAs (Decidable (gh a b<0))
theorem BG(a b:ByteArray):gh a b=-1\/gh a b=0\/gh a b=1:=yI _ _
theorem tW{a b:ByteArray}:gh a b=0↔a=b:=⟨fun h=>bz ((nM _ _).1 h),fun h=>(nM _ _).2 (by rw[h])⟩
theorem vC(a b:ByteArray):gh b a=-gh a b:=LR _ _
theorem jO{a b:ByteArray}:ay a b↔gh a b=-1:=by
 unfold ay;rcases BG a b with h|h|h<;>omega
theorem bg(a:ByteArray):¬ay a a:=by
 unfold ay;rw[tW.2 rfl];omega
theorem eL{a b c:ByteArray}(q:ay a b)(s:ay b c):ay a c:=jO.2 (Jm _ _ _ (jO.1 q) (jO.1 s))
theorem di{a b:ByteArray}(q:ay a b):¬ay b a:=fun s=>bg a (eL q s)
theorem ka(a b:ByteArray):ay a b\/a=b\/ay b a:=by
 rcases BG a b with h|h|h
 ·exact .inl (jO.2 h)
 ·exact .inr (.inl (tW.1 h))
 ·refine .inr (.inr (jO.2 ?_));rw[vC,h]
theorem Jo{a b:ByteArray}(q:¬ay a b)(s:a≠b):ay b a:=by
 rcases ka a b with h|h|h
 ·exact absurd h q
 ·exact absurd h s
 ·exact h
theorem uL{a b c:ByteArray}(s:¬ay b a)(q:ay b c):ay a c:=by
 rcases ka a b with h|h|h
 ·exact eL h q
 ·rw[h];exact q
 ·exact absurd h s
theorem fD{a b c:ByteArray}(q:ay a b)(s:¬ay c b):ay a c:=by
 rcases ka b c with h|h|h
 ·exact eL q h
 ·rw[<-h];exact q
 ·exact absurd h s
abbrev Jp (b:List ByteArray):Prop:=b.Pairwise ay
theorem yh(lt:Nat->Bool)(n:Nat)(q:∀a b,a<=b->b<n->lt b=true->lt a=true):∀f i j,i<=j->j<=n->j-i<=f->(∀h,h<i->lt h=true)->(∀h,j<=h->h<n->lt h=false)->(∀h,h<xT lt f i j->lt h=true)/\∀h,xT lt f i j<=h->h<n->lt h=false
 |0,i,j,H,B,I,s,y=>by
  have e:i=j:=by omega
  subst e;exact⟨s,y⟩
 |f+1,i,j,H,B,I,s,y=>by
  unfold xT;by_cases D:i<j
  ·rw[if_pos D];by_cases z:lt ((i+j)/2)=true
   ·rw[if_pos z];exact yh lt n q f _ _ (by omega) B (by omega) (fun h G=>q h ((i+j)/2) (by omega) (by omega) z) y
   ·rw[if_neg z];refine yh lt n q f _ _ (by omega) (by omega) (by omega) s (fun h G hn=>?_);cases hv:lt h with
    |false=>rfl
    |true=>exact absurd (q ((i+j)/2) h G hn hv) z
  ·rw[if_neg D];have e:i=j:=by omega
   subst e;exact⟨s,y⟩
theorem wU{b:List ByteArray}{k:ByteArray}{h:Nat}(q:h<b.length):Gx b k h=true↔ay b[h] k:=by
 unfold Gx ay;rw[decide_eq_true_eq,ajl,aji q]
 rfl
theorem wV{q:List ByteArray}(hs:Jp q)(k:ByteArray):(∀h (s:h<q.length),h<ai q k->ay q[h] k)/\∀h (s:h<q.length),ai q k<=h->¬ay q[h] k:=by
 have L:=ajn.1 hs;have y:∀a b,a<=b->b<q.length->Gx q k b=true->Gx q k a=true:=fun a b B G h=>by
  rw[wU G]at h;rw[wU (by omega)];rcases ajF B with e|e
  ·subst e;exact h
  ·exact eL (L a b (by omega) G e) h
 obtain⟨H,I⟩:=yh (Gx q k) q.length y q.length 0 q.length (ajY _) (ajT _) (by omega) (fun h s=>absurd s (ajU _)) (fun h H I=>by omega);refine⟨fun h s z=>(wU s).1 (H h z),fun h s z D=>?_⟩;have J:=I h z s;rw[(wU s).2 D]at J;cases J
theorem Rt{b:List ByteArray}{k:ByteArray}(h:dm b k=true):∃q:ai b k<b.length,b[ai b k]=k:=by
 have q:=oh h;refine⟨q,?_⟩;unfold dm at h;rw[ajR,decide_eq_true_eq,decide_eq_true_eq,ajl,aji q]at h;exact tW.1 h.2
theorem GR{b:List ByteArray}(hs:Jp b){k:ByteArray}(h:k∈b):dm b k=true:=by
 obtain⟨i,hi,q⟩:=ajo h;obtain⟨D,G⟩:=wV hs k;have H:=ajn.1 hs;have y:ai b k<=i:=by
  rcases ajL i (ai b k)with s|s
  ·have:=D i hi s;rw[q]at this;exact absurd this (bg k)
  ·exact s
 have z:ai b k=i:=by
  rcases ajF y with e|e
  ·exact e
  ·have B:=H (ai b k) i (by omega) hi e;rw[q]at B;exact absurd B (G (ai b k) (by omega) (ajT _))
 unfold dm;rw[ajR,decide_eq_true_eq,decide_eq_true_eq,ajl,aji (by omega)];refine⟨by omega,tW.2 ?_⟩;show b[ai b k]=k;simp only[z];exact q
theorem BH{X:Type}{l:List (ByteArray×X)}(hs:Jp (l.map ai2))(k:ByteArray):
  (∀x∈l.take (ai (l.map ai2) k),ay x.1 k)/\
  (dm (l.map ai2) k=true->∃x,l.drop (ai (l.map ai2) k)=x::l.drop (ai (l.map ai2) k+1)/\x.1=k/\∀y∈l.drop (ai (l.map ai2) k+1),ay k y.1)/\
  (dm (l.map ai2) k=false->∀y∈l.drop (ai (l.map ai2) k),ay k y.1):=by
 obtain⟨I,J⟩:=wV hs k;have L:=ajn.1 hs;have s:∀i (hi:i<l.length),(l.map ai2)[i]'(by rw[ai9];exact hi)=l[i].1:=fun i hi=>ajQ _;refine⟨fun x M=>?_,fun z=>?_,fun z y B=>?_⟩
 ·obtain⟨i,hi,rfl⟩:=ajo M;have b:i<l.length:=by rw[ajS]at hi;omega
  rw[List.getElem_take,<-s i b];exact I i (by rw[ai9];exact b) (by rw[ajS]at hi;omega)
 ·obtain⟨D,G⟩:=Rt z;have q:ai (l.map ai2) k<l.length:=by rw[ai9]at D;exact D
  rw[s _ q]at G;refine⟨l[ai (l.map ai2) k],aje q,G,fun y B=>?_⟩;obtain⟨i,hi,rfl⟩:=ajo B;have b:ai (l.map ai2) k+1+i<l.length:=by rw[ajm]at hi;omega
  have:=L (ai (l.map ai2) k) (ai (l.map ai2) k+1+i) D (by rw[ai9];exact b) (by omega);rw[s _ q,s _ b,G]at this;rw[ajv];exact this
 ·obtain⟨i,hi,rfl⟩:=ajo B;have b:ai (l.map ai2) k+i<l.length:=by rw[ajm]at hi;omega
  have H:=J (ai (l.map ai2) k+i) (by rw[ai9];exact b) (by omega);rw[s _ b]at H;rw[ajv];refine Jo H (fun e=>?_);have O:k∈l.map ai2:=ajy.2 ⟨_,ajP b,e⟩;rw[GR hs O]at z;cases z
def bq(l:List (ByteArray×ByteArray))(k:ByteArray):Option ByteArray:=(l.find? fun x=>decide (x.1=k)).map Prod.snd
abbrev LP:Type:=List (ByteArray×ByteArray)
def aq(l:LP)(k v:ByteArray):LP:=l.filter (fun x=>decide (ay x.1 k))++(k,v)::l.filter fun x=>decide (ay k x.1)
def cy(l:LP)(k:ByteArray):LP:=l.filter fun x=>decide (x.1≠k)
def iT(l:LP)(s:ByteArray):LP:=l.filter fun x=>decide (¬ay x.1 s)
abbrev dM (l:LP):Prop:=Jp (l.map ai2)
theorem filter_all{b:Type}{p:b->Bool}{l:List b}(h:∀x∈l,p x=true):l.filter p=l:=List.filter_eq_self.2 h
theorem lE{b:Type}{p:b->Bool}{l:List b}(h:∀x∈l,p x=false):l.filter p=[]:=List.filter_eq_nil_iff.2 fun x q=>by rw[h x q];simp
theorem lF(a m b:LP)(k v:ByteArray)(ha:∀x∈a,ay x.1 k)(s:∀x∈b,ay k x.1):aq (a++m++b) k v=a++aq m k v++b:=by
 unfold aq;simp only[aju];rw[filter_all (l:=a) (p:=fun x=>decide (ay x.1 k)) (fun x q=>decide_eq_true (ha x q)),lE (l:=b) (p:=fun x=>decide (ay x.1 k)) (fun x q=>decide_eq_false (di (s x q))),lE (l:=a) (p:=fun x=>decide (ay k x.1)) (fun x q=>decide_eq_false (di (ha x q))),filter_all (l:=b) (p:=fun x=>decide (ay k x.1)) (fun x q=>decide_eq_true (s x q))];simp
theorem ow(a m b:LP)(k:ByteArray)(ha:∀x∈a,ay x.1 k)(s:∀x∈b,ay k x.1):cy (a++m++b) k=a++cy m k++b:=by
 unfold cy;simp only[aju];rw[filter_all (l:=a) (p:=fun x=>decide (x.1≠k)) (fun x q=>decide_eq_true (fun e=>bg k (by have:=ha x q;rw[e]at this;exact this))),filter_all (l:=b) (p:=fun x=>decide (x.1≠k)) (fun x q=>decide_eq_true (fun e=>bg k (by have:=s x q;rw[e]at this;exact this)))]
theorem nE(a m b:LP)(k:ByteArray)(ha:∀x∈a,ay x.1 k)(s:∀x∈b,ay k x.1):bq (a++m++b) k=bq m k:=by
 unfold bq;have y:a.find? (fun x=>decide (x.1=k))=none:=ajG.2 fun x q=>by
  simp only[decide_eq_true_eq];exact fun e=>bg k (by have:=ha x q;rw[e]at this;exact this)
 have z:b.find? (fun x=>decide (x.1=k))=none:=ajG.2 fun x q=>by
  simp only[decide_eq_true_eq];exact fun e=>bg k (by have:=s x q;rw[e]at this;exact this)
 rw[ajM,ajM,y,z];simp
theorem vD(a m b:LP)(k:ByteArray)(ha:∀x∈a,ay x.1 k)(s:∀x∈b,ay k x.1):iT (a++m++b) k=iT m k++b:=by
 unfold iT;simp only[aju];rw[lE (l:=a) (p:=fun x=>decide (¬ay x.1 k)) (fun x q=>decide_eq_false (fun h=>h (ha x q))),filter_all (l:=b) (p:=fun x=>decide (¬ay x.1 k)) (fun x q=>decide_eq_true (di (s x q)))];simp
theorem BI{b:Type}(l:List b){i:Nat}{x:b}{r:List b}(h:l.drop i=x::r)(y:b):l.set i y=l.take i++y::r:=by
 have s:i<l.length:=by
  rcases ajL i l.length with q|q
  ·exact q
  ·rw[ajz q]at h;cases h
 rw[List.set_eq_take_append_cons_drop,if_pos s];rw[aje s]at h;injection h with _ h
 rw[h]
theorem yi{b:Type}(l:List b){i:Nat}{x:b}{r:List b}(h:l.drop i=x::r):l.eraseIdx i=l.take i++r:=by
 have s:i<l.length:=by
  rcases ajL i l.length with q|q
  ·exact q
  ·rw[ajz q]at h;cases h
 rw[List.eraseIdx_eq_take_drop_succ];rw[aje s]at h;injection h with _ h
 rw[h]
theorem zn{b:Type}(x:b):∀(l:List b) (i:Nat),i<=l.length->l.insertIdx i x=l.take i++x::l.drop i
 |l,0,_=>by simp
 |[],i+1,h=>by simp at h
 |a::l,i+1,h=>by
  have:=zn x l i (by simpa using h);simp[List.insertIdx_succ_cons,this]
section
variable{l:LP}(hs:dM l)(k:ByteArray)
include hs
theorem mh:∃a b,l=a++b/\a=l.take (ai (l.map ai2) k)/\b=l.drop (ai (l.map ai2) k)/\(∀x∈a,ay x.1 k)/\((dm (l.map ai2) k=true/\∃v r,b=(k,v)::r/\∀y∈r,ay k y.1)\/(dm (l.map ai2) k=false/\∀y∈b,ay k y.1)):=by
 obtain⟨s,z,B⟩:=BH hs k;refine⟨_,_,(ajj _ _).symm,rfl,rfl,s,?_⟩;cases q:dm (l.map ai2) k with
 |true=>
  obtain⟨x,e,D,G⟩:=z q;refine .inl ⟨rfl,x.2,_,?_,G⟩;rw[e,<-D]
 |false=>exact .inr ⟨rfl,B q⟩
theorem Ns(v:ByteArray):ee l k v=aq l k v:=by
 obtain⟨a,b,e,D,G,H,J⟩:=mh hs k;unfold ee;have M:∀r:LP,(∀y∈r,ay k y.1)->(r.filter fun x=>decide (ay x.1 k))=[]/\(r.filter fun x=>decide (ay k x.1))=r:=fun r q=>⟨lE fun x z=>decide_eq_false (di (q x z)),filter_all fun x z=>decide_eq_true (q x z)⟩;rcases J with⟨B,u,r,I,q⟩|⟨B,q⟩
 ·rw[B,if_pos rfl,BI l (G.symm.trans I) (k,v),<-D];rw[e,I];have s:=lF a [(k,u)] r k v H q;rw[show a++(k,u)::r=a++[(k,u)]++r by simp,s];unfold aq;have L:¬ay k k:=bg k;simp[L]
 ·rw[B,if_neg (by simp),zn _ _ _ (by have:=jg (l.map ai2) k;rw[ai9]at this;exact this),<-D,<-G];rw[e];have s:=lF a [] b k v H q;rw[ajf]at s;rw[s];unfold aq;simp
theorem Jq(y:dm (l.map ai2) k=true):l.eraseIdx (ai (l.map ai2) k)=cy l k:=by
 obtain⟨a,b,e,z,B,D,G⟩:=mh hs k;rcases G with⟨_,u,r,q,H⟩|⟨s,_⟩
 ·rw[yi l (B.symm.trans q),<-z];rw[e,q,show a++(k,u)::r=a++[(k,u)]++r by simp,ow a [(k,u)] r k D H];unfold cy;simp
 ·rw[y]at s;cases s
theorem Nt:l.drop (ai (l.map ai2) k)=iT l k:=by
 obtain⟨a,b,e,H,z,s,B⟩:=mh hs k;rw[<-z];rcases B with⟨_,u,r,D,q⟩|⟨_,q⟩
 ·rw[e,D,show a++(k,u)::r=a++[(k,u)]++r by simp,vD a [(k,u)] r k s q];unfold iT;have G:¬ay k k:=bg k;simp[G]
 ·have y:=vD a [] b k s q;rw[ajf]at y;rw[e,y];unfold iT;simp
theorem LS:(if dm (l.map ai2) k then(l[ai (l.map ai2) k]?).map Prod.snd else none)=bq l k:=by
 obtain⟨a,b,e,I,D,y,G⟩:=mh hs k;rcases G with⟨q,u,r,z,s⟩|⟨q,s⟩
 ·have H:l[ai (l.map ai2) k]?=some (k,u):=by
   have:(l.drop (ai (l.map ai2) k))[0]?=some (k,u):=by rw[<-D,z];rfl
   rw[List.getElem?_drop,Nat.add_zero]at this;exact this
  rw[q,if_pos rfl,H];rw[e,z,show a++(k,u)::r=a++[(k,u)]++r by simp,nE a [(k,u)] r k y s];unfold bq;simp
 ·rw[q,if_neg (by simp)];have B:=nE a [] b k y s;rw[ajf]at B;rw[e,B]
  rfl
end
theorem ko{a b:List ByteArray}:Jp (a++b)↔Jp a/\Jp b/\∀x∈a,∀y∈b,ay x y:=List.pairwise_append
theorem px{l:LP}(hs:dM l)(p:ByteArray×ByteArray->Bool):dM (l.filter p):=ajX ((List.filter_sublist (p:=p) (l:=l)).map _) hs
theorem EE{l:LP}(hs:dM l)(k v:ByteArray):dM (aq l k v):=by
 unfold dM aq;rw[ajt,ajw];refine ko.2 ⟨px hs _,List.pairwise_cons.2 ⟨fun y b=>?_,px hs _⟩,fun x B y b=>?_⟩
 ·obtain⟨z,q,rfl⟩:=ajy.1 b;simpa using(ajp.1 q).2
 ·obtain⟨z,q,rfl⟩:=ajy.1 B;have s:ay z.1 k:=by simpa using(ajp.1 q).2
  rcases ai3.1 b with e|b
  ·rw[e];exact s
  ·obtain⟨u,hu,rfl⟩:=ajy.1 b;have D:ay k u.1:=by simpa using(ajp.1 hu).2
   exact eL s D
theorem BJ{l:LP}(hs:dM l)(k:ByteArray):dM (cy l k):=px hs _
theorem nF{l:LP}{k v:ByteArray}{x:ByteArray×ByteArray}(h:x∈aq l k v):x∈l\/x=(k,v):=by
 unfold aq at h;rcases ai_.1 h with h|h
 ·exact .inl (ajp.1 h).1
 ·rcases ai3.1 h with h|h
  ·exact .inr h
  ·exact .inl (ajp.1 h).1
