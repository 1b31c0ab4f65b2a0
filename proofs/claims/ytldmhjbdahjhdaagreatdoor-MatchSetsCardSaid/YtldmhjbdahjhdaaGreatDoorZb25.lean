/-
  Part 25 of the proof.
-/
import Derived.Test.YtldmhjbdahjhdaaGreatDoorZb24
open Go.Lib renaming hid->avj
open Nat renaming lt_of_lt_of_le->avk,le_trans->avr,zero_add->avs,zero_le->avw,le_refl->avE,min_eq_left->avG
open Go.Proofs.Tryz renaming prog->avl,func43->avI
open List renaming length_cons->avm,length_drop->avn,length_take->avo,take_succ_eq_append_getElem->avq,drop_eq_getElem_cons->avt,not_mem_nil->avu,mem_cons_of_mem->avy,mem_cons->avA,mem_cons_self->avB,getElem_mem->avC,take_length->avD,mem_append->avH
open Option.some renaming inj->avp
open Go.World renaming cell?_alloc_new->avv,cell?_of_block->avx,cell?->avF
open Go.ByteArray renaming toList_eq->avz
set_option maxRecDepth 100000
set_option maxHeartbeats 100000000
set_option linter.all false
namespace Go.Proofs.YtldmhjbdahjhdaaGreatDoor
section
open Go Go.RowKit
theorem cS.block{a0 w w':World}{v:Value}{xs:List aa}(h:cS a0 w v xs)(z:∀b,v.ownBlock=some b->w'.heap[b]?=w.heap[b]?):cS a0 w' v xs:=by
 obtain⟨B,q⟩:=h.row;refine⟨B,?_⟩;rcases q with q|⟨b,cap,s,hv,y,D,r⟩
 ·exact .inl q
 ·exact .inr ⟨b,cap,s,hv,y,by rw[z b (by rw[hv];rfl)];exact D,r⟩
theorem cS.Sr{a0 w:World}{v:Value}{xs:List aa}(h:cS a0 w v xs)(B:xs≠[]):∃b cap,v=.slice (some ⟨b,0,none⟩) xs.length cap/\a0.heap.size<=b/\b<w.heap.size/\v.ownBlock=some b/\∀y q,w.heap[b]?≠some (.map y q):=by
 obtain⟨I,D⟩:=h.row;rcases D with⟨_,G⟩|⟨b,cap,H,hv,s,z,r⟩
 ·exact absurd (List.eq_nil_of_length_eq_zero G) B
 ·exact⟨b,cap,hv,s,(Array.getElem?_eq_some_iff.1 z).1,by rw[hv];rfl,fun y q e=>by rw[z]at e;cases e⟩
def Hp(v b:Value)(w w':World):Prop:=w.heap.size<=w'.heap.size/\∀k,k<w.heap.size->v.ownBlock≠some k->b.ownBlock≠some k/\w'.heap[k]?=w.heap[k]?
theorem CG{a0 w:World}{D:Array Oper}{rest:List Oper}{o:Oper}{a:Act}{Q:Exit->Act->World->Prop}(L:o.guard=none)(s x:Operand)
  (Y:o.op=.call {callee:=.builtin .append,args:=#[s,x],argTypes:=#[57,57]}) (v:Value) (us:List aa) (hs:a.eval s=v) (y:cS a0 w v us) (p:aa)
  (Z:a.eval x=.slice (some ⟨w.heap.size,0,none⟩) 1 1) (hl:us.length+1<=1000000) (U:Gr a0 w)
  (h:∀z w',cS a0 w' z (us++[p])->Gr a0 w'->Hp v z w w'->wpList avl D Q rest (a.put o.dst z) w'):wpList avl D Q (o::rest) a (w.alloc (.cells #[.int .i64 p.1,.int .i64 p.2] 104)):=by
 obtain⟨b,I,V⟩:∃b,avl.info? 104=some b/\(b.zero,b.size,b.bytes)=(some (.agg #[.int .i64 0,.int .i64 0]),2,16):=by
  have h:=lV;cases G:avl.info? 104 with
  |none=>rw[G]at h;cases h
  |some b=>rw[G]at h;exact⟨b,rfl,avp h⟩
 simp only[Prod.mk.injEq]at V;obtain⟨M,O,S⟩:=V;refine wpList_append_own_at _ L s x 57 Y a0.heap.size 104 b (.agg #[.int .i64 0,.int .i64 0]) 2 16 Tryz.underlying57 I M O S rfl (by decide) v us.length (cO us) hs (y.row.alloc _) ⟨w.heap.size,0,none⟩ 1 1 [.int .i64 p.1,.int .i64 p.2] Z rfl ?_ (by intro u hu;simp only[avA,avu,or_false]at hu;rcases hu with rfl|rfl<;>rfl) (by unfold maxLen;omega) (by omega) (by have:=U.size;simp;omega)
  (fun z w' h1 J _ B=>h z w' (vg h1) (iM (U.alloc _) J (aP y.row)) ⟨by have:=J.size;simp at this;omega,fun k hk H=>⟨fun e=>by
   rcases B with B|B
   ·exact H (B.symm.trans e)
   ·rw[B]at e;have:=avp e;simp at this;omega,(J.block k (by simp;omega) (fun e=>H e.symm)).trans (Below.heap_alloc _ _ _ hk)⟩⟩)
 intro j u q;have he:(⟨w.heap.size,0,none⟩:Addr).add j=⟨w.heap.size,j,none⟩:=by
  unfold Addr.add
  split
  ·rename_i G;rw[G]
  ·simp
 rw[he,avv]
 match j,q with
 |0,q=>cases q;rfl
 |1,q=>cases q;rfl
 |j+2,q=>simp at q
structure tF(a0 w:World)(F:ByteArray->Option Value)(G:ByteArray->List aa):Prop where
 P7:∀k,F k=none↔G k=[]
 own:∀k v,F k=some v->cS a0 w v (G k)
 apart:∀k k' v v',k≠k'->F k=some v->F k'=some v'->v.ownBlock≠v'.ownBlock
structure MP(a0 w:World)(M n:Nat)(G:ByteArray->List aa):Prop where
 ex:∃F:ByteArray->Option Value,db lf w M n F/\tF a0 w F G
 lo:a0.heap.size<=M
theorem tF.gr{a0 w w':World}{F:ByteArray->Option Value}{G:ByteArray->List aa}(h:tF a0 w F G)(g:Gr w w'):tF a0 w' F G:=⟨h.P7,fun k v hv=>(h.own k v hv).gr g,h.apart⟩
theorem Hq(w:World):(zeroValue 57).run avl w=.ok (.slice none 0 0) w:=by kernel_rfl
theorem lJ:avl.underlying 100=some (.map 9 57):=by kernel_rfl
theorem lK{w:World}{M n:Nat}{F:ByteArray->Option Value}(h:db lf w M n F):∃q b,w.heap[M]?=some (.map q b):=by
 obtain⟨D,⟨q,b,s,_⟩,_⟩:=h;exact⟨q,b,s⟩
theorem tF.slot{a0 w:World}{M n:Nat}{F:ByteArray->Option Value}{G:ByteArray->List aa}(h:tF a0 w F G)(B:db lf w M n F)(k:ByteArray):cS a0 w ((F k).getD (.slice none 0 0)) (G k)/\((F k).getD (.slice none 0 0)).ownBlock≠some M:=by
 cases s:F k with
 |none=>
  refine⟨?_,fun e=>by cases e⟩;rw[(h.P7 k).1 s];exact World.ownsRow_nil _ _ _ _
 |some v=>
  have hv:=h.own k v s;refine⟨hv,fun e=>?_⟩;obtain⟨D,q,H⟩:=lK B;obtain⟨b,cap,_,_,_,y,z⟩:=hv.Sr (fun I=>by rw[(h.P7 k).2 I]at s;cases s);have e:v.ownBlock=some M:=e;rw[y]at e;cases e;exact z D q H
theorem tF.step{a0 w V Y:World}{M n:Nat}{F:ByteArray->Option Value}{G:ByteArray->List aa}(h:tF a0 w F G)(J:db lf w M n F)(k:ByteArray){L:Value}{p:aa}(y:Hp ((F k).getD (.slice none 0 0)) L w V)(ho:cS a0 V L (G k++[p]))(hg:V.grownBy Y (some M)):
  tF a0 Y (uC F k (some L)) (fun i=>if i=k then G k++[p]else G i):=by
 obtain⟨b3,O⟩:=h.slot J k;have a1:=(y.2 M J.lt O).1;have b4:=(y.2 M J.lt O).2;have z:∀j v,j≠k->F j=some v->∃b,v.ownBlock=some b/\b<w.heap.size/\L.ownBlock≠some b/\Y.heap[b]?=w.heap[b]?:=fun j v hj Q=>by
  have hv:=h.own j v Q;obtain⟨b,cap,_,_,B,q,S⟩:=hv.Sr (fun e0=>by rw[(h.P7 j).2 e0]at Q;cases Q);have s:((F k).getD (.slice none 0 0)).ownBlock≠some b:=by
   cases hk:F k with
   |none=>intro e;cases e
   |some u=>
    have:=h.apart j k v u hj Q hk;rw[q]at this;exact fun e=>this e.symm
  obtain⟨m1,m2⟩:=y.2 b B s;have a2:b≠M:=fun e=>by
   obtain⟨es,H,I⟩:=lK J;rw[e]at S;exact S es H I
  exact⟨b,q,B,m1,(hg.block b (avk B y.1) (fun e=>a2 (avp e))).trans m2⟩
 refine⟨fun j=>?_,fun j v hv=>?_,fun j Z v u D hv hu=>?_⟩
 ·by_cases e:j=k
  ·subst e;rw[jT,if_pos rfl];simp
  ·rw[ic _ _ e,if_neg e];exact h.P7 j
 ·by_cases e:j=k
  ·subst e;rw[jT]at hv;cases hv;rw[if_pos rfl];refine ho.block fun b I=>hg.block b (ba ho.row b I) fun e=>?_;have:=avp e;rw[this]at I;exact a1 I
  ·rw[ic _ _ e]at hv;rw[if_neg e];obtain⟨b,q,_,_,a3⟩:=z j v e hv;refine(h.own j v hv).block fun b2 U=>?_;rw[q]at U;cases U;exact a3
 ·by_cases e:j=k
  ·subst e;rw[jT]at hv;cases hv;rw[ic _ _ (fun e=>D e.symm)]at hu;obtain⟨b,q,_,s,_⟩:=z Z u (fun e=>D e.symm) hu;rw[q];exact s
  ·rw[ic _ _ e]at hv;obtain⟨b,q,_,s,_⟩:=z j v e hv;by_cases e':Z=k
   ·subst e';rw[jT]at hu;cases hu;rw[q];exact fun h=>s h.symm
   ·rw[ic _ _ e']at hu;exact h.apart j Z v u D hv hu
structure zN(a0 w:World)(M n:Nat)(G:ByteArray->List aa)(lo:Nat):Prop where
 Ys:a0.heap.size<=M
 ex:∃F:ByteArray->Option Value,db lf w M n F/\tF a0 w F G/\∀k v,F k=some v->∀b,v.ownBlock=some b->lo<=b
theorem zN.gr{a0 w w':World}{M n:Nat}{G:ByteArray->List aa}{b:Nat}(h:zN a0 w M n G b)(g:Gr w w'):zN a0 w' M n G b:=by
 obtain⟨q,F,s,y,z⟩:=h;exact⟨q,F,s.gr g,y.gr g,z⟩
theorem zN.step{z w I Q B:World}{M n:Nat}{F:ByteArray->Option Value}{G:ByteArray->List aa}{q:Nat}(h0:z.heap.size<=M)(Y:tF z w F G)(hm:db lf w M n F)(hl:∀k v,F k=some v->∀b,v.ownBlock=some b->q<=b)(a9:q<=w.heap.size)(k:ByteArray){J:Value}{p:aa}
  (s:Hp ((F k).getD (.slice none 0 0)) J w I) (ho:cS z I J (G k++[p])) (Z:db lf B M (n+1) (uC F k (some J))) (S:I.grownBy B (some M)) (U:Gr z w) (g1:Gr z I) (hx:ag (fun x=>x=M\/q<=x) Q w) (h2:q=Q.heap.size):
  zN z B M (n+1) (fun i=>if i=k then G k++[p]else G i) q/\Gr z B/\ag (fun x=>x=M\/q<=x) Q B:=by
 have D:∀b,((F k).getD (.slice none 0 0)).ownBlock=some b->q<=b:=fun b H=>by
  cases V:F k with
  |none=>rw[V]at H;cases H
  |some v=>rw[V]at H;exact hl k v V b H
 have a0:∀b,J.ownBlock=some b->q<=b:=fun b H=>by
  rcases Nat.lt_or_ge b q with h|h
  ·have:=(s.2 b (by omega) (fun e=>by have:=D b e;omega)).1;exact absurd H this
  ·exact h
 have y:ag (fun x=>x=M) I B:=ag.fY S rfl;refine⟨⟨h0,_,Z,Y.step hm k s ho S,fun j v hv=>?_⟩,y.gr g1 (fun j e=>by have e:j=M:=e;omega),?_⟩
 ·by_cases e:j=k
  ·subst e;rw[jT]at hv;cases hv;exact a0
  ·rw[ic _ _ e]at hv;exact hl j v hv
 ·refine ag.trans hx ⟨y.1.trans (g1.os.trans U.os.symm),y.2.1.trans (g1.tape.trans U.tape.symm),y.2.2.1.trans (g1.output.trans U.output.symm),avr s.1 S.size,fun x a1 L=>?_⟩;have h3:¬x=M:=fun e=>L (.inl e);have h4:¬q<=x:=fun e=>L (.inr e);have O:x<w.heap.size:=a1;exact(y.block (avk O s.1) h3).trans (s.2 x O (fun e=>h4 (D x e))).2
theorem Ss(row:Int)(s:ByteArray)(hs:s.size<=1000)(w:World)(he:dO w)(b9:(aB s).length<=1000)(hw:∀x∈aB s,x.size<=1000):
  Calls avl 41 #[.int .i64 row,.string s] w fun e w'=>∃M,e=.returned (.map (some M))/\MP w w' M 1000 (fun I=>eP row I (aB s) 0)/\Gr w w':=by
 have q:=ss s (by omega);obtain⟨ws,a1⟩:∃ws,aB s=ws:=⟨_,rfl⟩;simp only[a1]at q b9 hw⊢;have c6:=avj q;have HE:=avj he;have h0:=@run_makeMap avl;clear q he a1 hs;go_enter Tryz.func41,Tryz.ntmps41;go_wp2_with fail
 have gA:Gr w (w.alloc (.map #[] 0)):=(Gr.refl w).alloc _;have L:∀n,zN w (w.alloc (.map #[] 0)) w.heap.size 0 (fun I=>eP row I (ws.take 0) 0) n:=fun n=>⟨avE _,_,db.made w,⟨fun k=>by simp[eP],(fun k v h=>by cases h),(fun k k' v v' _ h=>by cases h)⟩,fun k v h=>by cases h⟩;have q:=c6.out (w.alloc (.map #[] 0)) (HE.out.gr gA);have HG:=avj (And.intro gA L);clear gA L;refine q.mono ?_;rintro e w2 ⟨v2,rfl,a4,S⟩;obtain⟨ao,c,b,rfl,a5,a6⟩:=iP a4;have y:=(HG.out.2 w2.heap.size).gr S;have O:=HG.out.1.trans S;obtain⟨J,a7⟩:∃J,w.heap.size=J:=⟨_,rfl⟩;rw[a7]at y⊢;have a8:=avj y;have c7:=avj O;have c8:=avj a6;have c9:=avj a5;clear a4 S q y O a5 a6 a7;go_wp2_with fail
 go_loopw [12] (fun iv w'=>∃i:Nat,i<=ws.length/\iv=.int .i64 i/\zN w w' J i (fun I=>eP row I (ws.take i) 0) w2.heap.size/\Gr w w'/\ag (fun x=>x=J\/w2.heap.size<=x) w2 w') (fun iv _=>ws.length-(intOf iv).toNat)
 case atStart=>exact⟨0,avw _,rfl,a8.out,c7.out,ag.refl _ _⟩
 case round=>
  obtain⟨i,hi,rfl,B,hg,hx⟩:=hrel;by_cases G:i<ws.length
  ·have d0:(i:Int)<(ws.length:Int):=by omega
   have d1:=c9.out (by omega);subst d1;obtain⟨d2,F,hm,U,d3⟩:=B;have Q:=c8.out i G;rw[avs]at Q;have h6:b≠J:=fun e=>by
    obtain⟨_,F0,d4,_⟩:=a8.out;obtain⟨es,e5,hb⟩:=lK d4;rw[e]at Q;simp[avF,hb]at Q
   have d5:=ad Q;have ck:=hx.keeps (fun e=>by omega) Q;obtain⟨k,hk⟩:∃k,ws[i]=k:=⟨_,rfl⟩;rw[hk]at ck;have b2:k.size<=maxLen:=by
    have:=hw ws[i] (avC G);rw[hk]at this;unfold maxLen;omega
   have V:=U.slot hm k;obtain⟨vk,Y⟩:∃vk,(F k).getD (.slice none 0 0)=vk:=⟨_,rfl⟩;rw[Y]at V;have b3:=avj V;have H:=avj hm;have d6:=avj U;have b4:=avj Y;have b5:=avj hg;have b6:=avj hx;have HK:=avj hk;have b7:(eP row k (ws.take i) 0).length+1<=1000000:=by
    have h3:∀(Z:List ByteArray) (j:Nat),(eP row k Z j).length<=Z.length:=fun Z=>by
      induction Z with
      |nil=>intro j;exact avE _
      |cons x Z ih=>
        intro j;have:=ih (j+1);unfold eP
        split
        ·rw[avm,avm];omega
        ·rw[avm];omega
    have h4:=h3 (ws.take i) 0;rw[avo]at h4;omega
   have d7:=avj b7;clear hm U hg hx Q hk V Y b7 d5;go_wp2_with(first
    |( at_lookup;refine C8 (kk:=lf) lJ Hq rfl _ _ rfl H.out rfl (k:=k) rfl b2 b4.out ?_)
    |( at_builtin;refine CG (a0:=w) rfl _ _ rfl _ (eP row k (ws.take i) 0) rfl b3.out.1 (row,(i:Int)) rfl d7.out b5.out ?_;intro v3 w3 d8 d9 z)
    |( at_mapUpdate;refine AW (kk:=lf) lJ rfl _ _ _ rfl (H.out.block (z.2 J H.out.lt b3.out.2).2) (by omega) rfl (k:=k) rfl b2 rfl ?_;intro w4 e0 e1))
   rw[<-b4.out]at z;obtain⟨s1,s2,s3⟩:=zN.step d2 d6.out H.out d3 b6.out.2.2.2.1 k z d8 e0 e1 b5.out d9 b6.out rfl;refine⟨⟨i+1,G,by go_num,?_,s2,s3⟩,by simp[intOf];omega⟩;have e:(fun j=>if j=k then eP row k (ws.take i) 0++[(row,(i:Int))]else eP row j (ws.take i) 0)=fun I=>eP row I (ws.take (i+1)) 0:=by
    funext j
    rw[avq G,zD,HK.out];have e2:(ws.take i).length=i:=by rw[avo];omega
    rw[e2,avs];by_cases ej:j=k
    · subst ej
      rw[if_pos rfl];unfold eP;rw[if_pos rfl]
      rfl
    · rw[if_neg ej]
      have:eP row j [k] i=[]:=tu.2 (by simpa using ej);rw[this,List.append_nil]
   rw[e]at s1;exact s1
  ·have d0:¬(i:Int)<(ws.length:Int):=by omega
   have b8:ws.take i=ws:=List.take_of_length_le (by omega);rw[b8]at B;have HE:=avj (And.intro B hg);clear B hg hx b8;go_wp2_with fail
   go_ret;obtain⟨h3,F,h1,h2,_⟩:=HE.out.1;obtain⟨D,h4,h5⟩:=h1;exact⟨J,rfl,⟨⟨F,⟨D,h4.mono (by omega),h5⟩,h2⟩,h3⟩,HE.out.2⟩
end
section
open Go Go.RowKit Go.Shelf Go.Lib Go.Sort
section
variable{w:World}{FP TP PB DB M:Nat}{c:Ch}{sv:Head}{t:Int}{d:Dk}
structure Hs(Q:Ch->Tr->Prop)(w0 w:World)(FP TP PB DB M:Nat)(sv:Head)(t:Int)(d:Dk)(n wd:ByteArray)(v:Value)(rem:List aa):Prop where
 ex:∃c X,fR w FP TP PB DB M c sv t d/\kW d.pg n wd Q (jP rem) c X
 fr:aM PB DB M M w0 w
 ok:fj rem
 inr:∀p∈rem,jL p=true
 len:rem.length<=100000
 rem:mr PB DB M w v rem
theorem row_in{l:List aa}(h:∀p∈l,jL p=true)(b:l≠[]):1<=rowOf l/\rowOf l<=1073741824:=by
 obtain⟨p,q,e⟩:=gK b;have:=iD.1 (h p q);omega
theorem Kg{l:List aa}{k:Nat}(b:0<k):rowOf (l.take k)=rowOf l:=by
 cases l with
 |nil=>simp
 |cons p r=>
  cases k with
  |zero=>omega
  |succ k=>rfl
theorem MV{l:List aa}(h:0<l.length):rowOf l=l[0].1:=by
 cases l with
 |nil=>simp at h
 |cons p r=>rfl
theorem MW(n:Nat)(h:n<=100000):wrap64 ((n:Int)/2)=((n/2:Nat):Int):=by
 unfold wrap64;omega
theorem TH{Q:Ch->Tr->Prop}{n wd:ByteArray}(hn:bQ n)(i1:bQ wd)(hF:fR w FP TP PB DB M c sv t d){X:Tr}(hl:X.lays c d.pg 3){old:ByteArray}{l:List aa}
   (a2:t_ d.pg n wd old l Q c X) {v:Value} (hv:mr PB DB M w v l):
   Calls avl 47 #[.pointer (some ⟨FP,0,none⟩),.string n,.string wd,.string old,v] w fun e w'=>e=.returned .nilIface/\∃c' X',fR w' FP TP PB DB M c' sv t d/\Q c' X'/\aM PB DB M M w w':=by
 have HO:=avj (And.intro hn i1);have hp:=hF.p;have i3:old≠⟨#[]⟩->∃Y X1,kW d.pg n wd Q (jP l) Y X1/\Calls avl 93 #[.pointer (some ⟨TP,0,none⟩),.string old] w fun e w'=>e=.returned .nilIface/\bF w' PB DB M Y sv t d/\aM PB DB M M w w':=fun G=>by
   rcases a2.op with⟨e,_⟩|⟨_,Y,X1,e,hq⟩
   · exact absurd e G
   · refine⟨Y,X1,hq,?_⟩
     have:=TD hF.pg hF.t hF.tn (by omega) old hl;rw[e]at this;exact this
 have i4:old=⟨#[]⟩->kW d.pg n wd Q (jP l) c X:=fun G=>by
   rcases a2.op with⟨_,h⟩|⟨e,_⟩
   · exact h
   · exact absurd G e
 have n2:=avj i3;have n3:=avj i4;have HX:=avj (And.intro hF (And.intro a2.cut (And.intro a2.inr (And.intro a2.len hv))));clear hn i1 hF hl a2 hv i3 i4;go_enter Tryz.func47,Tryz.ntmps47;go_upto_if 19 with(fail)
 obtain⟨cb,B⟩:∃cb,(!old.toList.isEmpty)=cb:=⟨_,rfl⟩;rw[B];have i6:=avj B;clear B;go_cut [11] (fun _ wx=>∃Y X1,fR wx FP TP PB DB M Y sv t d/\kW d.pg n wd Q (jP l) Y X1/\aM PB DB M M w wx)
 case first=>
  as_aux_lemma=>
   by_cases G:old=⟨#[]⟩
   · have HE:=avj (n3.out G)
     have B:=i6.out;rw[G]at B;have n4:(⟨#[]⟩:ByteArray).toList.isEmpty=true:=by rw[avz];rfl
     rw[n4]at B;have a9:cb=false:=B.symm;subst a9;clear B G;go_wp2_with fail
     go_meet
     exact⟨c,_,HX.out.1,HE.out,aM.refl _ _ _ _⟩
   · obtain⟨Y,X1,hq,hd⟩:=n2.out G
     have HQ:=avj hq;have HD:=avj hd;have i7:old.toList.isEmpty=false:=by
      cases h:old.toList.isEmpty with
      |false=>rfl
      |true=>
        rw[List.isEmpty_iff,avz]at h;exact absurd (bz (b:=⟨#[]⟩) h) G
     have B:=i6.out;rw[i7]at B;have a9:cb=true:=B.symm;subst a9;clear hq hd G i7 B;go_wp2_with fail
     refine HD.out.mono ?_;rintro e w1 ⟨rfl,i9,U⟩;have HR:=avj (And.intro (HX.out.1.act i9 U) U);clear i9 U;go_wp2_with fail
     go_meet
     exact⟨Y,X1,HR.out.1,HQ.out,HR.out.2⟩
 case rest=>
  as_aux_lemma=>
   obtain⟨Y,X1,j0,j1,U⟩:=hcut;have a5:Hs Q w wc FP TP PB DB M sv t d n wd v l:=⟨⟨Y,X1,j0,j1⟩,U,HX.out.2.1,HX.out.2.2.1,HX.out.2.2.2.1,HX.out.2.2.2.2.pg U⟩;have n5:=avj a5;clear j0 j1 U a5;go_wp2_with fail
   go_loopw [4,12,13,14,15,16,17] (fun lv _ _ _ _ _ _ w'=>∃q,Hs Q w w' FP TP PB DB M sv t d n wd lv q) (fun lv _ _ _ _ _ _ _=>Sp lv)
   case atStart=>exact⟨l,n5.out⟩
   case round=>
    as_aux_lemma=>
     obtain⟨q,hs⟩:=hrel;have J:=avj hs;obtain⟨ao,H,n6⟩:=hs.rem.lp.form;clear hs;subst n6;by_cases G:q=[]
     ·subst G;have HE:Hid (∃c' X',fR wr FP TP PB DB M c' sv t d/\Q c' X'/\aM PB DB M M w wr):=avj (by
        obtain⟨c2,X2,b5,b6⟩:=J.out.ex;exact⟨c2,X2,b5,b6,J.out.fr⟩)
      go_wp2_with fail
      go_ret;exact⟨rfl,HE.out⟩
     ·have d0:0<q.length:=List.length_pos_iff.2 G;have s1:(0:Int)<(q.length:Int):=by omega
      obtain⟨b,s,e1,d1,hb,j2,D⟩:∃b s,ao=some ⟨b,s,none⟩/\q.length<=H/\b<wr.heap.size/\(b≠PB/\b≠DB/\b≠M)/\bC wr b s q:=by
        rcases J.out.rem with⟨_,e⟩|⟨b,s,c2,h1,h2,h3,h4,h5⟩
        ·exact absurd e G
        ·cases h1;exact⟨b,s,rfl,h2,h3,h4,h5⟩
      subst e1;have e6:=Ba q b s H (some ⟨b,s,none⟩) (fun _=>rfl) (by have:=J.out.len;omega) wr D;have e7:∀k,wS (q.take k)=bV (q.take k)/\yN (q.take k)=.nilIface:=fun k=>by
        have h5:eR (q.take k)=true:=rZ (fun p hp=>J.out.inr p (List.mem_of_mem_take hp)) (J.out.ok.up.sublist (List.take_sublist k q));unfold wS yN;rw[h5];exact⟨rfl,rfl⟩
      have b7:=e7 q.length;rw[avD]at b7;rw[b7.1,b7.2]at e6;have z:=avj (And.intro d1 (And.intro hb (And.intro j2 D)));have j3:=avj e7;clear d1 hb j2 D e7 b7;go_wp2_with fail
      refine e6.mono ?_;rintro e w1 ⟨rfl,j4⟩;have n7:=avj j4;clear j4 e6;go_wp2_with fail
      obtain⟨wo,n8⟩:∃wo,wo=wr:=⟨_,rfl⟩;subst n8;go_loopw [12,13,14,15,16] (fun nv n9 ev _ _ w'=>∃k:Nat,nv=.int .i64 k/\n9=.string (sq (bV (q.take k)))/\ev=.nilIface/\CE q k/\Gr wo w') (fun nv _ _ _ _ _=>(intOf nv).toNat)
      case atStart=>exact⟨q.length,rfl,by rw[avD];rfl,rfl,Ho G,n7.out⟩
      case round=>
       as_aux_lemma=>
        obtain⟨k,rfl,rfl,rfl,O,V⟩:=hrel;have HK:=avj O;have j5:=avj V;obtain⟨sz,a3⟩:∃sz,sq (bV (q.take k))=sz:=⟨_,rfl⟩;have d3:sz.size=(bV (q.take k)).length:=by rw[<-a3,qA]
        rw[a3];have s2:=avj a3;by_cases hs:(bV (q.take k)).length<=100
        ·as_aux_lemma=>
         have o0:¬(100:Int)<(sz.size:Int):=by omega
         have b8:=MM O hs;have b9:=O.1;have a7:=O.2.1;have b4:k<=H:=avr O.2.1 z.out.1;obtain⟨c2,X2,b5,b6⟩:=J.out.ex;rw[Pt J.out.ok G]at b6;obtain⟨j6,c3,X3,d4,j7⟩:=b6;have d5:=row_in J.out.inr G;have I:=b5.gr V;have D:=z.out.2.2.2.gr V;have d6:=fun W=>RH HO.out.1 HO.out.2 d5 W;have e8:=fun(W:World) (g:Gr wr W)=>RD (I.pg.gr g) (I.t.gr g) I.tn (by omega) (aV n wd (q.take (mm q))).1 (aV n wd (q.take (mm q))).2 j6;rw[d4]at e8;have j8:∀(W:World),Gr wr W->Calls avl 89 #[.pointer (some ⟨TP,0,none⟩),.string (bS n wd (rowOf q)),.string sz] W fun e w'=>e=.returned .nilIface/\bF w' PB DB M c3 sv t d/\aM PB DB M M W w':=fun W g=>by
          have h3:=e8 W g;unfold aV at h3;rw[<-b8,Kg b9,a3]at h3;exact h3
         have pF:=I.p;have p0:=(D 0 d0).1;rw[<-MV d0]at p0;rw[Nat.zero_mul,Nat.add_zero]at p0;have j9:=avj j8;have d7:=avj d6;have o1:=avj I;have o2:=avj j7;obtain⟨R0,k1⟩:∃R0,rowOf q=R0:=⟨_,rfl⟩;simp only[k1]at p0 j9 d7;have o3:=avj b8;have k3:∀(w1 w2:World),aM PB DB M M w1 w2->w1.cell? ⟨FP,0,none⟩=some (.pointer (some ⟨TP,0,none⟩))->w1.cell? ⟨b,s,none⟩=some (.int .i64 R0)->w2.cell? ⟨FP,0,none⟩=some (.pointer (some ⟨TP,0,none⟩))/\w2.cell? ⟨b,s,none⟩=some (.int .i64 R0):=fun w1 w2 hf h1 h2=>⟨hf.keeps I.fn.1 I.fn.2.1 I.fn.2.2 h1,hf.keeps z.out.2.2.1.1 z.out.2.2.1.2.1 z.out.2.2.1.2.2 h2⟩;have KF:=avj k3;have KS:=avj (And.intro b9 (And.intro a7 b4));clear k3 O V d3 a3 hs b8 b5 d4 j6 d5 D d6 e8 j8 I j7 k1 b9 a7 b4;go_wp2_with fail
         have Y1:wr.drew.cell? ⟨FP,0,none⟩=some (.pointer (some ⟨TP,0,none⟩)):=pF;have Y2:wr.drew.cell? ⟨b,s,none⟩=some (.int .i64 R0):=p0;have Gc:Gr wr wr.drew:=(Gr.refl wr).drew;go_region_held3(fun w'=>w'.cell? ⟨FP,0,none⟩=some (.pointer (some ⟨TP,0,none⟩))/\w'.cell? ⟨b,s,none⟩=some (.int .i64 R0)) (first|exact⟨Y1,Y2⟩|exact⟨pF,p0⟩|(refine⟨?_,?_⟩<;>assumption)) (first
          |( go_at_call 90;refine(d7.out _).mono ?_;rintro e w4 ⟨rfl,L⟩;have Gc:=Gc.trans L;have Y1:=L.keeps Y1;have Y2:=L.keeps Y2)
          |( go_at_call 89;refine(j9.out _ Gc).mono ?_;rintro e w5 ⟨rfl,k6,c0⟩;obtain⟨Y1,Y2⟩:=KF.out _ _ c0 Y1 Y2))
         all_goals
          have k7:Hs Q w w5 FP TP PB DB M sv t d n wd (.slice (if H=k then some ⟨b,s,none⟩else some ⟨b,s+k*2,none⟩) (q.length-k) (H-k)) (q.drop k):=by
            obtain⟨k0,kl,kc⟩:=KS.out;have F5:=(o1.out.gr Gc).act k6 c0;have a8:=(aM.ak PB DB M (j5.out.trans Gc)).trans c0;refine⟨⟨c3,X3,F5,by rw[o3.out];exact o2.out⟩,J.out.fr.trans a8,J.out.ok.drop k,fun p hp=>J.out.inr p (List.mem_of_mem_drop hp),by rw[avn];have:=J.out.len;omega,?_⟩;by_cases ec:H=k
            · rw[if_pos ec]
              exact .inr ⟨b,s,H-k,by rw[avn],by rw[avn];have:=z.out.1;omega,avk z.out.2.1 a8.size,z.out.2.2.1,fun i hi=>by rw[avn]at hi;have:=z.out.1;omega⟩
            rw[if_neg ec];refine .inr ⟨b,s+k*2,H-k,by rw[avn],by rw[avn];have:=z.out.1;omega,avk z.out.2.1 a8.size,z.out.2.2.1,?_⟩;refine Hn (fun i hi=>?_) k;have h7:=z.out.2.2.2 i hi;exact⟨a8.keeps z.out.2.2.1.1 z.out.2.2.1.2.1 z.out.2.2.1.2.2 h7.1,a8.keeps z.out.2.2.1.1 z.out.2.2.1.2.1 z.out.2.2.1.2.2 h7.2⟩
          have o4:=avj k7;clear k7 k6 c0 Gc Y1 Y2;have b9:(0:Int)<=(k:Int):=by omega
          have a7:(k:Int)<=(q.length:Int):=by have:=KS.out.2.1;omega
          have q1:k<=q.length:=KS.out.2.1;go_wp2_with fail
          exact⟨⟨_,o4.out⟩,by simp only[Sp];have:=KS.out.1;omega⟩
        ·as_aux_lemma=>
         have o0:(100:Int)<(sz.size:Int):=by omega
         have b8:k<=H:=avr O.2.1 z.out.1;have e4:=J.out.len;obtain⟨c4,c5⟩:=Ka J.out.ok O hs;obtain⟨e9,a4,g0⟩:=TE O.1 O.2.1;have a7:=O.2.1;have D:=z.out.2.2.2.gr V;have g3:b<wr.heap.size:=avk z.out.2.1 V.size;have b1:(q.take k).length=k:=by rw[avo];exact avG O.2.1
         have g4:=Na (q.take k) (.slice (some ⟨b,s,none⟩) k H) wr (.inr ⟨b,s,H,by rw[b1],g3,xo D k⟩) (by rw[b1];omega);obtain⟨R,hR⟩:∃R,setOf bU ((q.take k).map (·.1))=R:=⟨_,rfl⟩;obtain⟨Z,k9⟩:∃Z,eO (q.take k)=Z:=⟨_,rfl⟩;obtain⟨S,g5⟩:∃S,fx q Z=S:=⟨_,rfl⟩;simp only[hR,k9]at a4 e9 g0 g4 c4 c5;rw[g5]at c4 c5;have e5:Lib.idxBy (fun _ (y:aa)=>y.1==Z) q default=(S:Int):=by
          have:=CD Z q 0 g0;rw[g5,avs]at this;exact this
         have HI:=avj (And.intro D (And.intro g3 (And.intro c4 (And.intro c5 (And.intro e5 e4)))));have HM:=avj (And.intro a4 e9);clear O V d3 a3 D g3 c4 c5 e5 g0 a4 e9 b1 k9 g5 a7;go_wp2_with fail
         refine g4.mono ?_;rintro e w3 ⟨v3,rfl,o5,l0⟩;rcases o5 with⟨_,e3⟩|⟨B3,q2,rfl,l5,l6,l7,l1⟩
         ·exact absurd HM.out.1 (by rw[e3];simp)
         have a4:=HM.out.1;have cm:w3.cell? ⟨B3,R.length/2,none⟩=some (.int .i64 Z):=by
          have h7:=(l1 (R.length/2) (by simpa using a4)).1;have h8:=HM.out.2;simpa[h8]using h7
         have hq:wrap64 ((R.length:Int)/2)=((R.length/2:Nat):Int):=by
          have h9:R.length<=100000:=by
            have h5:=iy bU ((q.take k).map (·.1));rw[hR,List.length_map,avo]at h5;omega
          exact MW _ h9
         have q3:((R.length/2:Nat):Int)<(R.length:Int):=Int.ofNat_lt.2 a4;have o6:=avj l0;clear hR e4 g4 l0 l1 l5 l6 l7;go_wp2_with fail
         have gB:Gr w3 (w3.alloc (.cells #[.int .i64 Z] 3)):=(Gr.refl w3).alloc _;have b0:=jx w3 (.int .i64 Z) 3;obtain⟨W4,l2⟩:∃W4,w3.alloc (.cells #[.int .i64 Z] 3)=W4:=⟨_,rfl⟩;rw[l2]at gB b0⊢;have L:=o6.out.trans gB;have g6:=IG q (.slice (some ⟨b,s,none⟩) q.length H) 95 #[.pointer (some ⟨w3.heap.size,0,none⟩)] (fun y=>y.1==Z) W4 (.inr ⟨b,s,H,rfl,avk HI.out.2.1 L.size,HI.out.1.gr L⟩) (by have:=HI.out.2.2.2.2.2;omega) (enters_of Tryz.func95 (by kernel_rfl) rfl) (fun W x g=>Sq W _ Z x (g.keeps b0));rw[HI.out.2.2.2.2.1]at g6;have o7:=avj L;have o8:=avj g6;clear gB b0 l2 L g6 cm;refine o8.out.mono ?_;rintro e w5 ⟨rfl,l3⟩;have b2:=o7.out.trans l3;have q4:S<=H:=avr HI.out.2.2.1.2.1 z.out.1;have q5:(0:Int)<=(S:Int):=by omega
         have q6:(S:Int)<=(H:Int):=by omega
         have a1:(q.take S).length=S:=by rw[avo];exact avG HI.out.2.2.1.2.1
         have b3:=Ba (q.take S) b s H (some ⟨b,s,none⟩) (fun _=>rfl) (by rw[a1];have:=HI.out.2.2.2.2.2;have:=HI.out.2.2.1.2.1;omega) w5 (xo (HI.out.1.gr b2) S);rw[a1,(j3.out S).1,(j3.out S).2]at b3;have o9:=avj b3;have p1:=avj (j5.out.trans b2);clear l3 b2 b3 a1;go_wp2_with fail
         refine o9.out.mono ?_;rintro e w6 ⟨rfl,l4⟩;have p2:=avj (p1.out.trans l4);clear l4;go_wp2_with fail
         exact⟨⟨S,rfl,rfl,rfl,HI.out.2.2.1,p2.out⟩,by have:=HI.out.2.2.2.1;simp only[intOf];omega⟩
end
end
section
open Go Go.RowKit
theorem TJ(W:World)(B:Nat)(k:Int)(x:aa)(h:W.cell? ⟨B,0,none⟩=some (.int .i64 k)):
  Calls avl 43 #[x.val,.pointer (some ⟨B,0,none⟩)] W (ar W (.bool (x.1==k))):=by
 obtain⟨b,q⟩:=x;unfold aa.val;have g1:Gr W (W.alloc (.cells #[.int .i64 b,.int .i64 q] 104)):=(Gr.refl W).alloc _;have s:(W.alloc (.cells #[.int .i64 b,.int .i64 q] 104)).cell? ⟨W.heap.size,0,none⟩=some (.int .i64 b):=by rw[avv];rfl
 have y:=g1.keeps h;go_enter avI,Tryz.ntmps43;go_wp2_with fail
 go_ret;exact ar.mk rfl g1
structure Av(w0:World)(PB DB M:Nat):Prop where
 ends:dO w0
 err:eG w0
 max:jj w0
 lo:w0.heap.size<=PB/\w0.heap.size<=DB/\w0.heap.size<=M
theorem Av.pg{w0 w w':World}{PB DB M:Nat}(h:Av w0 PB DB M)(g:Gr w0 w)(k:aM PB DB M M w w'):Gr w0 w':=k.2.gr g fun b q=>by
 rcases q with rfl|rfl|rfl
 ·exact h.lo.1
 ·exact h.lo.2.1
 ·exact h.lo.2.2
theorem dj.rem{a0 w:World}{v:Value}{xs:List aa}(h:dj a0 w v xs){PB DB M:Nat}(z:PB<a0.heap.size/\DB<a0.heap.size/\M<a0.heap.size):mr PB DB M w v xs:=by
 rcases h with h|⟨B,cap,b,q,D,s,y⟩
 ·exact .inl h
 ·refine .inr ⟨B,0,cap,b,q,s,⟨by omega,by omega,by omega⟩,fun i hi=>?_⟩;have:=y i hi;rw[avs];exact⟨this.1.1,this.2.1⟩
structure se(PB DB M:Nat)(w:World)(MB n:Nat)(G:ByteArray->List aa):Prop where
 ex:∃F:ByteArray->Option Value,db lf w MB n F/\(∀k,F k=none↔G k=[])/\∀k v,F k=some v->mr PB DB M w v (G k)
 off:MB≠PB/\MB≠DB/\MB≠M
theorem MP.rem{a0 w:World}{b n:Nat}{G:ByteArray->List aa}(h:MP a0 w b n G){PB DB M:Nat}(s:PB<a0.heap.size/\DB<a0.heap.size/\M<a0.heap.size):se PB DB M w b n G:=by
 obtain⟨⟨F,y,q⟩,z⟩:=h;exact⟨⟨F,y,q.P7,fun k v hv=>(q.own k v hv).own.rem s⟩,by omega⟩
theorem se.gr{PB DB M:Nat}{w w':World}{b n:Nat}{G:ByteArray->List aa}(h:se PB DB M w b n G)(g:Gr w w'):se PB DB M w' b n G:=by
 obtain⟨⟨F,q,s,y⟩,z⟩:=h;exact⟨⟨F,q.gr g,s,fun k v hv=>(y k v hv).gr g⟩,z⟩
theorem se.pg{PB DB M:Nat}{w w':World}{b n:Nat}{G:ByteArray->List aa}(h:se PB DB M w b n G)(g:aM PB DB M M w w'):se PB DB M w' b n G:=by
 obtain⟨⟨F,q,s,y⟩,z⟩:=h;exact⟨⟨F,q.block (g.2.block q.lt (by omega)),s,fun k v hv=>(y k v hv).pg g⟩,z⟩
theorem mr.grown{PB DB M:Nat}{w w':World}{y:Nat}{v:Value}{xs:List aa}(h:mr PB DB M w v xs)(J:∃G q,w.heap[y]?=some (.map G q))(g:w.grownBy w' (some y)):mr PB DB M w' v xs:=by
 rcases h with h|⟨b,B,c,L,O,H,Q,z⟩
 ·exact .inl h
 ·refine .inr ⟨b,B,c,L,O,avk H g.size,Q,fun i hi=>?_⟩;have D:b≠y:=fun e=>by
   obtain⟨G,q,s⟩:=J;have I:=(z i hi).1;rw[e]at I;simp[avF,s]at I
  have s:=g.block b H (fun e=>D (avp e));exact⟨(avx s).trans (z i hi).1,(avx s).trans (z i hi).2⟩
theorem se.del{PB DB M:Nat}{w w':World}{b n:Nat}{F:ByteArray->Option Value}{G:ByteArray->List aa}(s:db lf w b n F)(y:∀k,F k=none↔G k=[])(z:∀k v,F k=some v->mr PB DB M w v (G k))(B:b≠PB/\b≠DB/\b≠M)(k:ByteArray)(q:db lf w' b n (uC F k none))(g:w.grownBy w' (some b)):
  se PB DB M w' b n (fun i=>if i=k then[]else G i):=by
 refine⟨⟨_,q,fun j=>?_,fun j v hv=>?_⟩,B⟩
 ·by_cases e:j=k
  ·subst e;rw[jT,if_pos rfl];simp
  ·rw[ic _ _ e,if_neg e];exact y j
 ·by_cases e:j=k
  ·subst e;rw[jT]at hv;cases hv
  ·rw[ic _ _ e]at hv;rw[if_neg e];exact(z j v hv).grown (lK s) g
theorem Kh(n wd:ByteArray)(PS:List (List aa))(row:Int):(cZ n wd PS row).2.length<=PS.flatten.length:=by
 unfold cZ;cases mQ PS row with
 |zero=>exact avw _
 |succ k=>
  simp only;cases h:PS[k]? with
  |none=>exact avw _
  |some l=>
   obtain⟨b,e⟩:=List.getElem?_eq_some_iff.1 h;have q:PS=PS.take k++PS[k]::PS.drop (k+1):=by
    rw[<-avt b,List.take_append_drop]
   have s:=congrArg (fun z=>(List.flatten z).length) q;simp only[List.flatten_append,List.flatten_cons,List.length_append]at s;rw[<-e];simp only;omega
theorem NW(r:Int)(wd:ByteArray):∀(xs:List ByteArray) (j:Nat),(eP r wd xs j).length<=xs.length
 |[],_=>avE _
 |x::xs,j=>by
  have:=NW r wd xs (j+1);unfold eP
  split
  ·rw[avm,avm];omega
  ·rw[avm];omega
theorem aM.after{PB DB M q:Nat}{w s y:World}(h:aM PB DB M M w s)(g:ag (fun b=>b=q) s y)(B:w.heap.size<=q):aM PB DB M M w y:=
 ⟨.inl rfl,g.1.trans h.2.1,g.2.1.trans h.2.2.1,g.2.2.1.trans h.2.2.2.1,avr h.2.2.2.2.1 g.2.2.2.1,fun k z hs=>(g.2.2.2.2 k (avk z h.2.2.2.2.1) (fun e=>by have e:k=q:=e;omega)).trans (h.2.2.2.2.2 k z hs)⟩
theorem fR.aC{S:Nat->Prop}{w w':World}{FP TP PB DB M:Nat}{c:Ch}{sv:Head}{t:Int}{d:Dk}(h:fR w FP TP PB DB M c sv t d)(g:ag S w w')(hS:¬S FP/\¬S TP/\¬S PB/\¬S DB/\¬S M):fR w' FP TP PB DB M c sv t d:=
 ⟨h.pg.aC g hS.2.2.1 hS.2.2.2.1 hS.2.2.2.2,g.keeps hS.1 h.p,⟨g.keeps hS.2.1 h.t.p,g.keeps hS.2.1 h.t.r⟩,h.fn,h.tn⟩
section
variable{w0 w:World}{FP TP PB DB M:Nat}{c:Ch}{sv:Head}{t:Int}{d:Dk}
structure Ht(Q:Ch->Tr->Prop)(w0 w1 w:World)(FP TP PB DB M:Nat)(sv:Head)(t:Int)(d:Dk)(n:ByteArray)(row:Int)(ws:List ByteArray)(MB:Nat)(dn rest:List ByteArray):Prop where
 ex:∃c X,fR w FP TP PB DB M c sv t d/\ni d.pg n row ws Q dn rest c X
 Xd:se PB DB M w MB 1000 (fun wd=>if wd∈dn then[]else eP row wd ws 0)
 fr:aM PB DB M M w1 w
 Yy:Gr w0 w
theorem U8{Q:Ch->Tr->Prop}(hB:Av w0 PB DB M)(a7:Gr w0 w)(hF:fR w FP TP PB DB M c sv t d){X:Tr}(hl:X.lays c d.pg 3){n text:ByteArray}(hn:bQ n)(n1:1<=n.size/\n.size<=16){row:Int}(L:1<=row/\row<=1073741824)(E9:text.size<=40)
  (c4:∀wd∈aB text,bQ wd/\∃PS,xe X n wd PS/\∀p∈PS.flatten,p.1≠row) {N:Nat} (i2:(X.get aW=none/\N=0)\/X.get aW=some (gQ N)) (hN:N+(aB text).length<=500)
  (O:∃c1 X1,jC c 3 X aW (gQ (N+(aB text).length))=(c1,X1,0)/\ni d.pg n row (aB text) Q [] (aB text) c1 X1):
  Calls avl 10 #[.pointer (some ⟨FP,0,none⟩),.string n,.int .i64 row,.string text] w fun e w'=>e=.returned .nilIface/\∃c' X',fR w' FP TP PB DB M c' sv t d/\Q c' X'/\aM PB DB M M w w':=by
 have d5:=fun W=>RI (n:=n) (r:=row) hn n1 L W;have a3:=fun(W:World) (g:Gr w0 W)=>Ss row text (by omega) W (hB.ends.gr g) (by omega) (fun x hx=>by have:=(c4 x hx).1.len;rw[size_data];omega);have a4:=fun(W:World) (g:Gr w0 W)=>ss text (by omega) W (hB.ends.gr g);obtain⟨ws,n5⟩:∃ws,aB text=ws:=⟨_,rfl⟩;simp only[n5]at a3 a4 c4 hN O;have x0:=avj d5;have x1:=avj a3;have x2:=avj a4;have c7:=avj c4;have q:=avj (And.intro hB (And.intro a7 (And.intro hF (And.intro hl (And.intro hn (And.intro L (And.intro i2 O)))))));have D5:¬(40:Int)<(text.size:Int):=by omega
 clear d5 a3 a4 c4 hB a7 hF hl hn n1 L i2 O n5;go_enter Tryz.func10,Tryz.ntmps10;go_wp2_with fail
 have gA:Gr w (w.alloc (.cells #[.int .i64 row] 3)):=(Gr.refl w).alloc _;have b0:=jx w (.int .i64 row) 3;obtain⟨RB,n7⟩:∃RB,w.heap.size=RB:=⟨_,rfl⟩;rw[n7]at b0⊢;have n8:RB≠PB/\RB≠DB/\RB≠M:=by
  have:=q.out.2.2.1.lt;omega
 obtain⟨W1,n9⟩:∃W1,w.alloc (.cells #[.int .i64 row] 3)=W1:=⟨_,rfl⟩;rw[n9]at gA b0⊢;have o0:=x0.out W1;have x3:=avj gA;have c8:=avj n8;have x4:=avj b0;clear gA n9 n7 n8 b0;refine o0.mono ?_;rintro e w2 ⟨rfl,j9⟩;have b2:=j9.keeps x4.out;have e3:=x3.out.trans j9;have d0:=x1.out w2 (q.out.2.1.trans e3);have s0:=avj d0;have o1:=avj e3;clear o0 j9 e3 d0;go_wp2_with fail
 refine s0.out.mono ?_;rintro e w3 ⟨MB,rfl,d1,k0⟩;have Z:=q.out.2.2.1.lt;have i4:=o1.out.size;have x5:=avj (And.intro d1.lo i4);have i5:=ad b2;have x6:=avj (show RB<MB from avk i5 d1.lo);clear i5;obtain⟨⟨F,o3,o4,o5⟩,i6⟩:=d1.rem (PB:=PB) (DB:=DB) (M:=M) (by omega);have g4:=avj (o1.out.trans k0);have k1:=avj (k0.keeps b2);have x7:=avj o3;have o6:=avj o4;have x8:=avj o5;have e4:=avj i6;have k2:=avj (q.out.2.2.1.gr g4.out);have g5:=avj (And.intro k2.out.lt (ad k1.out));obtain⟨y,o7⟩:∃y,w3.heap.size=y:=⟨_,rfl⟩;have a0:=avj o7;clear d1 k0 Z i4 o3 o4 o5 i6 o7 b2;go_wp2_with(at_range;refine AX (kk:=lf) lJ rfl _ rfl x7.out rfl ?_;intro w4 D6 k3 d2 x9)
 rw[a0.out]at k3⊢;go_frame;have e5:ag (fun b=>b=y) w3 w4:=ag.ak ⟨d2.os,d2.tape,d2.output,d2.size,fun k hk=>d2.block k hk (by simp)⟩;have D7:=avj e5;go_loopw [11] (fun _ w'=>∃left o8,dG lf w' MB y 1000 F left o8/\ag (fun b=>b=y) w3 w') (fun _ w'=>w'.rangeLeft MB y)
 case atStart=>exact⟨_,_,k3,e5⟩
 case round=>
  obtain⟨left,o8,g6,hx⟩:=hrel;have k4:=avj g6;have s:=avj hx;clear k3 d2 x9 e5 hx;go_wp2_with(at_next;refine uD (kk:=lf) rfl _ rfl rfl g6 ?_ ?_)
  ·intro _ _;clear g6;have k5:Gr w0 wr:=s.out.gr (q.out.2.1.trans g4.out) (fun j e=>by
    have e:j=y:=e;have h1:=(q.out.2.1.trans g4.out).size;have h2:=a0.out;omega)
   have d7:¬FP=y/\¬TP=y/\¬PB=y/\¬DB=y/\¬M=y:=by
    have h1:=g5.out.1;have h2:=a0.out;omega
   have o9:=x2.out wr k5;have Fr:=k2.out.aC s.out d7;have GP:se PB DB M wr MB 1000 (fun wd=>if wd∈([]:List ByteArray)then[]else eP row wd ws 0):=by
    obtain⟨_,_,F0⟩:=k4.out;refine⟨⟨F,k4.out.map,fun k=>by simpa using o6.out k,fun k v hv=>?_⟩,e4.out⟩;have h9:mr PB DB M wr v (eP row k ws 0):=by
     rcases x8.out k v hv with h3|⟨b,y0,c3,h3,h4,h5,h6,h7⟩
     ·exact .inl h3
     ·refine .inr ⟨b,y0,c3,h3,h4,avk h5 s.out.2.2.2.1,h6,fun i hi=>?_⟩;have hb:¬b=y:=by have:=a0.out;omega
      exact⟨s.out.keeps hb (h7 i hi).1,s.out.keeps hb (h7 i hi).2⟩
    simpa using h9
   have BR:=s.out.keeps (fun e=>by have h1:=g5.out.2;have h2:=a0.out;omega) k1.out;have g7:=avj k5;have FR:=avj Fr;have y1:=avj GP;have y2:=avj BR;have y3:=avj (show aM PB DB M M w wr from⟨.inl rfl,ag.trans (ag.ak g4.out) ⟨s.out.1,s.out.2.1,s.out.2.2.1,s.out.2.2.2.1,fun j hj _=>s.out.2.2.2.2 j hj (fun e=>by
    have e:j=y:=e;have:=a0.out;omega)⟩⟩)
   clear k5 d7 Fr GP BR;go_wp2_with fail
   refine o9.mono ?_;rintro e w5 ⟨v5,rfl,k6,z⟩;obtain⟨ao,co,Y,rfl,k7,B⟩:=iP k6;have i7:0<ws.length->wr.heap.size<=Y:=fun h0=>aP k6 Y (by rw[k7 h0];rfl);have s1:=avj i7;clear i7;have y4:=avj k7;have y5:=avj B;have y6:=avj z;have k8:=avj (z.keeps y2.out);have p3:=NI (FR.out.gr z) (q.out.1.err.gr (g7.out.trans z)) (q.out.1.max.gr (g7.out.trans z)) q.out.2.2.2.1 (n:=N) (by omega) q.out.2.2.2.2.2.2.1;clear k6 z o9 k7 B;go_wp2_with fail
   refine p3.mono ?_;rintro e w6 ⟨rfl,a1⟩;have a8:=avj (y6.out.trans a1);have y7:=avj (a1.keeps k8.out);have i9:=avj (y5.out.gr a1);obtain⟨c1,X1,O,g0⟩:=q.out.2.2.2.2.2.2.2;have p4:=Ts (FR.out.gr a8.out) (q.out.1.err.gr (g7.out.trans a8.out)) (q.out.1.max.gr (g7.out.trans a8.out)) q.out.2.2.2.1 (n:=N) (by omega) q.out.2.2.2.2.2.2.1 (m:=(ws.length:Int)) (n2:=N+ws.length) (by omega) (by omega) O;have F1:IntKind.i64.wrap ((N:Int)+(ws.length:Int))=((N+ws.length:Nat):Int):=by
    rw[IntKind.wrap_i64];omega
   have D8:¬(500:Int)<((N+ws.length:Nat):Int):=by omega
   have y8:=avj p4;have m6:=avj g0;clear a1 p3 p4 O g0;go_wp2_with fail
   refine y8.out.mono ?_;rintro e w7 ⟨rfl,p5,d8⟩;have e6:=y3.out.trans ((aM.ak PB DB M a8.out).trans d8);have D:0<ws.length->Y<w6.heap.size/\(Y≠PB/\Y≠DB/\Y≠M):=fun h0=>by
    have h1:=s1.out h0;have h2:=FR.out.lt;have h3:=ad (i9.out 0 h0);omega
   have j0:gV w7 Y 0 ws:=fun i hi=>d8.keeps (D (by omega)).2.1 (D (by omega)).2.2.1 (D (by omega)).2.2.2 (i9.out i hi);have p6:=d8.keeps c8.out.1 c8.out.2.1 c8.out.2.2 y7.out;have y9:=avj (show Ht Q w0 w w7 FP TP PB DB M sv t d n row ws MB [] ws from⟨⟨c1,X1,p5,m6.out⟩,(y1.out.gr a8.out).pg d8,e6,q.out.1.pg q.out.2.1 e6⟩);have s2:=avj j0;have z0:=avj p6;have z1:=avj D;clear p5 d8 e6 j0 p6 D;go_wp2_with fail
   go_loopw [86] (fun iv w'=>∃(i:Nat) (dn:List ByteArray),i<=ws.length/\iv=.int .i64 i/\(∀x,x∈dn↔x∈ws.take i)/\Ht Q w0 w w' FP TP PB DB M sv t d n row ws MB dn (ws.drop i)/\gV w' Y 0 ws/\w'.cell? ⟨RB,0,none⟩=some (.int .i64 row)) (fun iv _=>ws.length-(intOf iv).toNat)
   case atStart=>exact⟨0,[],avw _,rfl,by simp,y9.out,s2.out,z0.out⟩
   case round=>
    obtain⟨i,dn,hi,rfl,d9,hs,B,hb⟩:=hrel;by_cases Z:i<ws.length
    ·have z2:(i:Int)<(ws.length:Int):=by omega
     have z3:=y4.out (by omega);subst z3;have c5:=B i Z;rw[avs]at c5;have g8:ws.drop i=ws[i]::ws.drop (i+1):=avt Z;have e0:ws.take (i+1)=ws.take i++[ws[i]]:=avq Z;have U:ws[i]∈ws:=avC Z;obtain⟨wd,d0⟩:∃wd,ws[i]=wd:=⟨_,rfl⟩;rw[d0]at c5 g8 e0 U;rw[g8]at hs;have k9:wd.size<=maxLen:=by
      have:=(c7.out wd U).1.len;rw[size_data];unfold maxLen;omega
     obtain⟨⟨F2,z4,e1,g9⟩,_⟩:=hs.Xd;have d3:=avj z4;by_cases hd:wd∈dn
     ·have G:F2 wd=none:=(e1 wd).2 (if_pos hd);have HE:Hid (∃H:List ByteArray,(∀x,x∈H↔x∈ws.take (i+1))/\Ht Q w0 w wr FP TP PB DB M sv t d n row ws MB H (ws.drop (i+1))/\gV wr Y 0 ws/\wr.cell? ⟨RB,0,none⟩=some (.int .i64 row)):=avj (by
       obtain⟨⟨c2,X2,G,d4⟩,l0,I,a7⟩:=hs;refine⟨wd::dn,fun x=>?_,⟨⟨c2,X2,G,d4.1 hd⟩,?_,I,a7⟩,B,hb⟩
       · rw[e0,avH,<-d9 x]
         simp only[avA,avu,or_false]
         constructor
         · rintro(h|h)
           ·exact .inr h
           ·exact .inl h
         · rintro(h|h)
           ·exact .inr h
           ·exact .inl h
       · have e:(fun k=>if k∈wd::dn then([]:List aa)else eP row k ws 0)=fun k=>if k∈dn then[]else eP row k ws 0:=by
           funext k
           by_cases ek:k=wd
           ·subst ek;rw[if_pos avB,if_pos hd]
           ·by_cases J:k∈dn
            ·rw[if_pos J,if_pos (avy _ J)]
            ·rw[if_neg J,if_neg (by simp[ek,J])]
         rw[e];exact l0)
      clear hs B hb e1 g9 g8 e0 d0 U d9;go_wp2_with(at_lookup;refine qc (kk:=lf) lJ Hq rfl _ _ rfl d3.out rfl (k:=wd) rfl k9 (v:=.slice none 0 0) (b:=false) (by rw[G];rfl) (by rw[G];rfl) ?_)
      obtain⟨H,h1,h2,h3,h4⟩:=HE.out;exact⟨⟨i+1,H,Z,by go_num,h1,h2,h3,h4⟩,by simp[intOf];omega⟩
     ·obtain⟨v,l1⟩:∃v,F2 wd=some v:=by
       cases h:F2 wd with
       |some v=>exact⟨v,rfl⟩
       |none=>
         have:=(e1 wd).1 h;rw[if_neg hd]at this;exact absurd U (tu.1 this)
      have l2:=g9 wd v l1;rw[if_neg hd]at l2;obtain⟨⟨c2,X2,G,d4⟩,l0,I,a7⟩:=hs;obtain⟨p8,PS,V,b1⟩:=d4.2 hd;have z5:=avj G;have p9:=avj p8;have q0:=avj V;have z6:=avj b1;have s3:=avj I;have D9:=avj a7;have z7:=avj l2;have z8:=avj e1;have z9:=avj g9;have s4:=avj B;have A0:=avj hb;have j3:=avj U;have A1:=avj e0;have A2:=avj d9;clear B hb e1 g9 g8 e0 d0 U d9 G d4 l0 I a7 p8 V b1 l2;have C5:=avj c5;go_wp2_with(first
       |( at_lookup;refine qc (kk:=lf) lJ Hq rfl _ _ rfl d3.out rfl (k:=wd) rfl k9 (v:=v) (b:=true) (by rw[l1];rfl) (by rw[l1];rfl) ?_)
       |( at_delete;refine FJ (kk:=lf) lJ rfl _ _ rfl d3.out rfl (k:=wd) rfl k9 ?_;intro w8 q1 e2;have B8:=(ag.fY (S:=fun b=>b=MB) e2 rfl).keeps (by have:=x6.out;omega) A0.out))
      have h8:ag (fun b=>b=MB) wr w8:=ag.fY e2 rfl;have s5:=q.out.2.2.1.lt;have s6:=e4.out;have s7:=x5.out;have F8:=z5.out.aC h8 (by omega);have j4:Y≠MB:=fun e=>by
       obtain⟨es,D1,A3⟩:=lK d3.out;have h6:=C5.out;rw[e]at h6;simp[avF,A3]at h6
      have S8:gV w8 Y 0 ws:=fun j hj=>h8.keeps j4 (s4.out j hj);have R8:=z7.out.grown (lK d3.out) e2;have G8:=se.del d3.out z8.out z9.out e4.out wd q1 e2;have q2:=s3.out.after h8 (by omega);have l3:=RP F8 p9.out q.out.2.2.2.2.1 (c7.out wd j3.out).1 q0.out q.out.2.2.2.2.2.1;have b9:=Kh n wd PS row;have g3:=NW row wd ws 0;have b1:=z6.out;have A4:=q0.out.Dr;obtain⟨pk,q3⟩:∃pk,cZ n wd PS row=pk:=⟨_,rfl⟩;obtain⟨F3,P⟩:=pk;obtain⟨oc,q5⟩:∃oc,eP row wd ws 0=oc:=⟨_,rfl⟩;rw[q3]at l3 b9 b1;rw[q5]at b1 R8 g3;have q6:=avj F8;have A5:=avj S8;have A6:=avj B8;have A7:=avj R8;have A8:=avj G8;have s8:=avj q2;have A9:=avj l3;have s9:=avj b1;have t0:Hid (P.length+oc.length<=1000000):=avj (by
       simp only at b9;omega)
      clear F8 S8 B8 R8 G8 q2 l3 b1 q3 b9 g3 A4 h8 e2 q1 s6 s7 s5 j4 q5 c5;refine A9.out.mono ?_;rintro e w9 ⟨v9,rfl,l4,l5⟩;have q7:=wz P oc v9 v w9 l4.own.lp (A7.out.lp.gr l5) t0.out;have B0:=avj q7;have q8:=avj l5;obtain⟨a9,c9,q9⟩:=l4.own.form;clear q7 l5 l4;simp only at q9;subst q9;go_wp2_with fail
      refine B0.out.mono ?_;rintro e F4 ⟨F6,rfl,e7,j5⟩;have c0:=q8.out.trans j5;have t1:=(q6.out.gr q8.out).lt;have r0:=TH q.out.2.2.2.2.1 (c7.out wd j3.out).1 (q6.out.gr c0) p9.out s9.out (e7.rem (PB:=PB) (DB:=DB) (M:=M) (by omega));have B1:=avj r0;have a2:=avj c0;obtain⟨F7,F9,t2⟩:=e7.form;clear r0 c0 t1 e7 j5;subst t2;go_wp2_with fail
      refine B1.out.mono ?_;rintro e l6 ⟨rfl,B2,B3,r3,j6,a5⟩;have HE:Hid (∃H:List ByteArray,(∀x,x∈H↔x∈ws.take (i+1))/\Ht Q w0 w l6 FP TP PB DB M sv t d n row ws MB H (ws.drop (i+1))/\gV l6 Y 0 ws/\l6.cell? ⟨RB,0,none⟩=some (.int .i64 row)):=avj (by
       have D:=z1.out (by omega);have I:=s8.out.trans ((aM.ak PB DB M a2.out).trans a5);refine⟨wd::dn,fun x=>?_,⟨⟨B2,B3,r3,j6⟩,?_,I,q.out.1.pg q.out.2.1 I⟩,fun j hj=>a5.keeps D.2.1 D.2.2.1 D.2.2.2 (a2.out.keeps (A5.out j hj)),a5.keeps c8.out.1 c8.out.2.1 c8.out.2.2 (a2.out.keeps A6.out)⟩
       · rw[A1.out,avH,<-A2.out x]
         simp only[avA,avu,or_false]
         constructor
         · rintro(h|h)
           ·exact .inr h
           ·exact .inl h
         · rintro(h|h)
           ·exact .inr h
           ·exact .inl h
       · have e:(fun k=>if k=wd then([]:List aa)else if k∈dn then[]else eP row k ws 0)=fun k=>if k∈wd::dn then[]else eP row k ws 0:=by
           funext k
           by_cases ek:k=wd
           ·subst ek;rw[if_pos avB,if_pos rfl]
           ·by_cases J:k∈dn
            ·rw[if_neg ek,if_pos J,if_pos (avy _ J)]
            ·rw[if_neg ek,if_neg J,if_neg (by simp[ek,J])]
         have h9:=(A8.out.gr a2.out).pg a5;rw[e]at h9;exact h9)
      clear r3 j6 a5;go_wp2_with fail
      obtain⟨H,h1,h2,h3,h4⟩:=HE.out;exact⟨⟨i+1,H,Z,by go_num,h1,h2,h3,h4⟩,by simp[intOf];omega⟩
    ·have z2:¬(i:Int)<(ws.length:Int):=by omega
     have r4:ws.drop i=[]:=List.drop_eq_nil_of_le (by omega);rw[r4]at hs;have HE:Hid (∃c' X',fR wr FP TP PB DB M c' sv t d/\Q c' X'/\aM PB DB M M w wr):=avj (by
      obtain⟨⟨c2,X2,G,d4⟩,_,I,_⟩:=hs;exact⟨c2,X2,G,d4,I⟩)
     clear hs B hb d9 r4;go_wp2_with fail
     go_ret;obtain⟨c2,X2,h1,h2,h3⟩:=HE.out;exact⟨rfl,c2,h1,⟨X2,h2⟩,h3⟩
  ·intro k v w5 t3 hk B4 l7 j7 j8 z B5 B6;have i0:ag (fun b=>b=y) w3 w5:=s.out.trans (ag.fY z rfl);have d7:¬FP=y/\¬TP=y/\¬PB=y/\¬DB=y/\¬M=y:=by
    have h1:=g5.out.1;have h2:=a0.out;omega
   have F5:=k2.out.aC i0 d7;have r5:k∈ws:=by
    rcases Decidable.em (k∈ws)with h|h
    ·exact h
    ·have:=(o6.out k).2 (tu.2 h);rw[this]at l7;cases l7
   obtain⟨r6,PS,V,L⟩:=c7.out k r5;have l8:=ET F5 q.out.2.2.2.1 q.out.2.2.2.2.1 r6 V;have Y:=i0.keeps (fun e=>by have h1:=g5.out.2;have h2:=a0.out;omega) k1.out;have e8:PS.flatten.any (fun x=>x.1==row)=false:=by
    rw[List.any_eq_false];intro x hx;simpa using L x hx
   have m8:=V.Dr;obtain⟨PL,r7⟩:∃PL,PS.flatten=PL:=⟨_,rfl⟩;rw[r7]at l8 e8 m8;have B7:=avj l8;have B9:=avj i0;have l9:=avj (And.intro j7 j8);have k8:=avj Y;have t4:=avj e8;clear g6 hk B4 l7 j7 j8 z B5 i0 d7 F5 r5 r6 V L l8 Y e8 r7;go_wp2_with fail
   refine B7.out.mono ?_;rintro e w6 ⟨v6,rfl,r8,a1⟩;have m0:=r8.own.lp;have m1:=wA PL v6 43 #[.pointer (some ⟨RB,0,none⟩)] (fun x=>x.1==row) w6 m0 (by omega) (enters_of avI (by kernel_rfl) rfl) (fun W x g=>TJ W RB row x (g.keeps (a1.keeps k8.out)));rw[t4.out]at m1;obtain⟨a6,c6,C0⟩:=m0.form;subst C0;have C1:=avj m1;have a8:=avj a1;clear r8 a1 m0 m1 B6;go_wp2_with fail
   refine C1.out.mono ?_;rintro e w7 ⟨rfl,r9⟩;have m2:=avj (a8.out.trans r9);clear r9;go_wp2_with fail
   refine⟨⟨_,t3,l9.out.1.gr m2.out,B9.out.trans (ag.ak m2.out)⟩,?_⟩;rw[(l9.out.1.gr m2.out).left_eq,k4.out.left_eq];exact l9.out.2
end
