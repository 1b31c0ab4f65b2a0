/-
  Part 21 of the proof.
-/
import Derived.Test.YtldmhjbdahjhdaaGreatDoorZb20
open List renaming pairwise_append->asu,mem_append_right->asv,mem_cons_self->asw,mem_append_left->asx,mem_append->asy,mem_map->asz,mem_flatten->asB,filter_filter->asC,pairwise_cons->asE,map_append->asF,mem_cons_of_mem->asG,getD_eq_getElem?_getD->asH,filter_congr->asI,mem_cons->asJ,getElem?_eq_getElem->asK,pairwise_flatten->asL,mem_map_of_mem->asM,map_cons->asO,find?_eq_none->asP,find?_filter->asQ,pairwise_map->asR,mem_filter->asS
open Prod renaming fst->asA
open Nat renaming le_refl->asD
open Bool renaming and_comm->asN
open List.Sublist renaming refl->asT
set_option maxRecDepth 100000
set_option maxHeartbeats 100000000
set_option linter.all false
namespace Go.Proofs.YtldmhjbdahjhdaaGreatDoor
section
open Go Go.RowKit
theorem ng(a b:LP)(s:ByteArray):eF (a++b) s=eF a s++eF b s:=List.filter_append ..
theorem RL{k v s:ByteArray}(h:preB s k=true)(r:LP):eF ((k,v)::r) s=(k,v)::eF r s:=List.filter_cons_of_pos (by simpa using h)
theorem EP{k v s:ByteArray}(h:preB s k=false)(r:LP):eF ((k,v)::r) s=eF r s:=List.filter_cons_of_neg (by simp[h])
theorem G5(K:LP){k s:ByteArray}(v:ByteArray)(h:preB s k=true):eF (aq K k v) s=aq (eF K s) k v:=by
 unfold aq;rw[ng,RL h];unfold eF;rw[asC,asC,asC,asC]
 congr 1
 ·exact asI fun x _=>asN _ _
 ·congr 1
  exact asI fun x _=>asN _ _
theorem uN{K:LP}(hs:dM K){k s:ByteArray}(v:ByteArray)(h:preB s k=false):eF (aq K k v) s=eF K s:=by
 obtain⟨a,r,_,_,b,_,q⟩:=qw hs k;rw[b v,ng,EP h];rcases q with⟨u,e,_⟩|⟨e,_⟩
 ·rw[e,ng,EP h]
 ·rw[e,ng]
theorem Cf(K:LP)(k s:ByteArray):eF (cy K k) s=cy (eF K s) k:=by
 unfold eF cy;rw[asC,asC];exact asI fun x _=>asN _ _
theorem Cg(K:LP){k s:ByteArray}(h:preB s k=false):eF (cy K k) s=eF K s:=by
 rw[Cf];refine filter_all fun x q=>?_;have b:preB s x.1=true:=by
  have:=(asS.1 q).2;simpa using this
 refine decide_eq_true fun e=>?_;rw[e,h]at b;cases b
theorem kU(a b:LP)(k:ByteArray):bq (a++b) k=(bq a k).or (bq b k):=by
 unfold bq;rw[List.find?_append];cases a.find? fun x=>decide (x.1=k)<;>rfl
theorem uO{k k2 v:ByteArray}(h:k2≠k)(r:LP):bq ((k2,v)::r) k=bq r k:=by
 unfold bq;rw[List.find?_cons_of_neg (by simpa using h)]
theorem uP(k v:ByteArray)(r:LP):bq ((k,v)::r) k=some v:=by
 unfold bq;rw[List.find?_cons_of_pos (by simp)]
 rfl
theorem G6{K:LP}(hs:dM K){k k2:ByteArray}(v:ByteArray)(h:k2≠k):bq (aq K k2 v) k=bq K k:=by
 obtain⟨a,r,_,_,b,_,q⟩:=qw hs k2;rw[b v,kU,uO h];rcases q with⟨u,e,_⟩|⟨e,_⟩
 ·rw[e,kU,uO h]
 ·rw[e,kU]
theorem zy{a:LP}{k:ByteArray}(h:∀x∈a,ay x.1 k):bq a k=none:=by
 unfold bq;rw[asP.2 fun x b=>?_]
 ·rfl
 ·simp only[decide_eq_true_eq];intro e;have:=h x b;rw[e]at this;exact bg _ this
theorem xc{K:LP}(hs:dM K)(k v:ByteArray):bq (aq K k v) k=some v:=by
 obtain⟨a,r,b,_,q,_,_⟩:=qw hs k;rw[q v,kU,uP,zy b]
 rfl
theorem Dq{K:LP}{k k2:ByteArray}(h:k2≠k):bq (cy K k2) k=bq K k:=by
 unfold bq cy;rw[asQ]
 congr 2
 funext x
 by_cases e:x.1=k
 ·have b:¬k=k2:=fun q=>h q.symm;simp[e,b]
 ·simp[e]
def aV(n w:ByteArray)(l:List aa):ByteArray×ByteArray:=(bS n w (rowOf l),sq (bV l))
theorem gK{l:List aa}(h:l≠[]):∃p∈l,p.1=rowOf l:=by
 cases l with
 |nil=>exact absurd rfl h
 |cons a r=>exact⟨a,asw,rfl⟩
structure gv(PS:List (List aa)):Prop where
 pc:RJ PS
 aA:∀l∈PS,∀p∈l,jL p=true
 up:∀l∈PS,bH ae l
theorem gv.sub{PS q:List (List aa)}(h:gv PS)(hs:q.Sublist PS):gv q:=⟨⟨fun l b=>h.pc.ne l (hs.subset b),h.pc.apart.sublist hs⟩,fun l b=>h.aA l (hs.subset b),fun l b=>h.up l (hs.subset b)⟩
theorem gv.flat{PS:List (List aa)}(h:gv PS):bH ae PS.flatten:=
 asL.2 ⟨h.up,h.pc.apart.imp fun{a b} s p y q z=>dL.2 (.inl (s p y q z))⟩
theorem gv.row{PS:List (List aa)}(h:gv PS){l:List aa}(b:l∈PS):1<=rowOf l/\rowOf l<=1073741824:=by
 obtain⟨p,q,e⟩:=gK (h.pc.ne l b).1;have:=iD.1 (h.aA l b p q);omega
theorem xd{a b:List aa}(ha:a≠[])(s:b≠[])(h:∀p∈a,∀q∈b,p.1<q.1):rowOf a<rowOf b:=by
 obtain⟨p,y,e⟩:=gK ha;obtain⟨q,z,B⟩:=gK s;rw[<-e,<-B];exact h p y q z
section
variable{n w:ByteArray}(hn:bQ n)(hw:bQ w)
include hn hw
theorem Tt{a b:List aa}(ha:a≠[])(s:b≠[])(h:∀p∈a,∀q∈b,p.1<q.1)(y:1<=rowOf a/\rowOf a<=1073741824)(z:1<=rowOf b/\rowOf b<=1073741824):ay (aV n w a).1 (aV n w b).1:=(wZ hn hw y z).2 (xd ha s h)
theorem pC:∀{PS:List (List aa)},gv PS->PS.Pairwise fun a b=>ay (aV n w a).1 (aV n w b).1:=fun{PS} h=>by
 refine h.pc.apart.imp_of_mem fun{a b} ha s q=>?_;exact Tt hn hw (h.pc.ne a ha).1 (h.pc.ne b s).1 q (h.row ha) (h.row s)
theorem JO{A B:List (List aa)}{c:List aa}(h:gv (A++c::B)):aq ((A++B).map (aV n w)) (aV n w c).1 (aV n w c).2=(A++c::B).map (aV n w):=by
 have hs:=pC hn hw h;obtain⟨_,y,z⟩:=asu.1 hs;obtain⟨D,_⟩:=asE.1 y;have s:=lF (A.map (aV n w)) [] (B.map (aV n w)) (aV n w c).1 (aV n w c).2 (fun x q=>by
  obtain⟨a,ha,rfl⟩:=asz.1 q;exact z a ha c asw) (fun x q=>by
  obtain⟨b,G,rfl⟩:=asz.1 q;exact D b G)
 rw[List.append_nil]at s;rw[asF,s];unfold aq;simp
theorem G7{A B:List (List aa)}{c:List aa}(h:gv (A++c::B)):cy ((A++c::B).map (aV n w)) (aV n w c).1=(A++B).map (aV n w)/\bq ((A++c::B).map (aV n w)) (aV n w c).1=some (aV n w c).2:=by
 have hs:=pC hn hw h;obtain⟨_,y,z⟩:=asu.1 hs;obtain⟨D,_⟩:=asE.1 y;have ha:∀x∈A.map (aV n w),ay x.1 (aV n w c).1:=fun x s=>by
  obtain⟨a,ha,rfl⟩:=asz.1 s;exact z a ha c asw
 have q:∀x∈B.map (aV n w),ay (aV n w c).1 x.1:=fun x s=>by
  obtain⟨b,q,rfl⟩:=asz.1 s;exact D b q
 have e:(A++c::B).map (aV n w)=A.map (aV n w)++[aV n w c]++B.map (aV n w):=by simp
 constructor
 ·rw[e,ow _ _ _ _ ha q];unfold cy;simp
 ·rw[e,nE _ _ _ _ ha q];exact uP _ _ _
end
structure Rest(n w:ByteArray)(K0 K:LP):Prop where
 Tu:∀w2,bQ w2->w2≠w->eF K (cN n w2)=eF K0 (cN n w2)
 xg:bq K aW=bq K0 aW
 keys:∀e∈K,e∈K0\/∃r,(1<=r/\r<=1073741824)/\e.1=bS n w r
theorem Rest.refl(n w:ByteArray)(K:LP):Rest n w K K:=⟨fun _ _ _=>rfl,rfl,fun _ h=>.inl h⟩
theorem tm{n w b:ByteArray}(hw:bQ w)(q:bQ b)(h:b≠w)(r:Int):preB (cN n b) (bS n w r)=false:=by
 rw[Dm q hw r];exact decide_eq_false h
theorem vO(n w:ByteArray)(r:Int):bS n w r≠aW:=fun e=>by
 have h:=vI n w r;rw[e]at h;exact bg _ h
theorem Rest.put{n w:ByteArray}(hw:bQ w){K0 K:LP}(h:Rest n w K0 K)(hs:dM K){r:Int}(y:1<=r/\r<=1073741824)(v:ByteArray):Rest n w K0 (aq K (bS n w r) v):=by
 refine⟨fun z s b=>?_,?_,fun e B=>?_⟩
 ·rw[uN hs v (tm hw s b r),h.Tu z s b]
 ·rw[G6 hs v (vO n w r),h.xg]
 ·rcases nF B with q|q
  ·exact h.keys e q
  ·rw[q];exact .inr ⟨r,y,rfl⟩
theorem Rest.drop{n w:ByteArray}(hw:bQ w){K0 K:LP}(h:Rest n w K0 K)(r:Int):Rest n w K0 (cy K (bS n w r)):=by
 refine⟨fun s q b=>?_,?_,fun e y=>h.keys e (oC y)⟩
 ·rw[Cg K (tm hw q b r),h.Tu s q b]
 ·rw[Dq (vO n w r),h.xg]
def mq(ω:Wt)(n w:ByteArray)(ls:List (List aa)):Nat:=aN ω (ls.map (aV n w))
theorem rH(ω:Wt)(n w:ByteArray)(l:List aa)(ls:List (List aa)):mq ω n w (l::ls)=ω (aV n w l).1 (aV n w l).2+mq ω n w ls:=by
 unfold mq;rw[asO,fL]
structure Ds(ω:Wt)(pg:Nat->ByteArray)(i:Nat)(n w:ByteArray)(c:Ch)(X:Tr)(K K0:LP)(A todo B:List (List aa))(V S:Nat):Prop where
 tg:∃k r,TG ω pg aW i c X K k r V (fun y=>y∈K0.map asA\/y∈K.map asA)/\mq ω n w todo<=r/\(∀l∈todo,¬ay (aV n w l).1 k)/\∀y,(y∈K0.map asA\/y∈K.map asA)->ay k y->∀l∈todo,ay (aV n w l).1 y
 is:eF K (cN n w)=(A++B).map (aV n w)
 ok:gv (A++(todo++B))
 rest:Rest n w K0 K
 sum:aN ω K+mq ω n w todo=S
 some:bq K0 aW≠none
theorem EU{K:LP}{k s:ByteArray}(h:preB s k=true):bq (eF K s) k=bq K k:=by
 unfold bq eF;rw[asQ]
 congr 2
 funext x
 by_cases e:x.1=k
 ·rw[e,h];simp
 ·simp[e]
section
variable{ω:Wt}{pg:Nat->ByteArray}{i:Nat}{n w:ByteArray}{c:Ch}{X:Tr}{K K0:LP}{A B todo:List (List aa)}{V S:Nat}{l:List aa}
theorem Ds.put(a6:∀k v,pz k v<=ω k v)(hi:i<8)(hn:bQ n)(hw:bQ w)(c5:n.size+w.size<=13)(hV:V<12145)(h:Ds ω pg i n w c X K K0 A (l::todo) B V S):
  ∃Z X',jC c i X (aV n w l).1 (aV n w l).2=(Z,X',0)/\Ds ω pg i n w Z X' (aq K (aV n w l).1 (aV n w l).2) K0 (A++[l]) todo B V S:=by
 obtain⟨k,r,tg,hr,a7,L⟩:=h.tg;have H:gv (A++(l::(todo++B))):=h.ok;have hl:l∈A++(l::(todo++B)):=by simp
 have a2:=H.row hl;have a8:=H.pc.ne l hl;have M:gv (A++l::B):=H.sub ((asT A).append ((List.sublist_append_right todo B).cons_cons l));have J:=tg.GY;have a1:¬ay (aV n w l).1 k:=a7 l asw;have O:bq K (aV n w l).1=none:=by
  rw[<-EU (k:=(aV n w l).1) (s:=cN n w) (kq n w (rowOf l)),h.is];have hs:=pC hn hw M;obtain⟨_,G,Q⟩:=asu.1 hs;obtain⟨h4,_⟩:=asE.1 G;rw[asF,kU];have e1:bq (A.map (aV n w)) (aV n w l).1=none:=zy fun x hx=>by
   obtain⟨a,ha,rfl⟩:=asz.1 hx;exact Q a ha l asw
  have e2:bq (B.map (aV n w)) (aV n w l).1=none:=by
   unfold bq;rw[asP.2 fun x hx=>?_]
   ·rfl
   ·obtain⟨b,hb,rfl⟩:=asz.1 hx;simp only[decide_eq_true_eq];intro e;have:=h4 b hb;rw[e]at this;exact bg _ this
  rw[e1,e2]
  rfl
 have a9:oz ω K (aV n w l).1=0:=BS O;have t1:=tg.move (k2:=(aV n w l).1) a1 (fun y z I=>L y z I l asw);have t2:TG ω pg aW i c X K (aV n w l).1 ((r-ω (aV n w l).1 (aV n w l).2)+(ω (aV n w l).1 (aV n w l).2-oz ω K (aV n w l).1)) V (fun y=>y∈K0.map asA\/y∈(aq K (aV n w l).1 (aV n w l).2).map asA\/y∈K.map asA):=by
  refine t1.less ?_ (asD _) (fun y z=>?_)
  ·rw[a9];rw[rH]at hr;omega
  ·rcases z with D|D
   ·exact .inl D
   ·exact .inr (.inr D)
 have b0:K≠[]:=fun e=>h.some (by
  rw[<-h.rest.xg,e]
  rfl)
 have b7:(aV n w l).1.size=n.size+w.size+13:=oD n w (rowOf l);obtain⟨Z,X',D,g⟩:=t2.put a6 hi (fun e=>absurd e b0) ⟨by omega,by omega⟩ (v:=(aV n w l).2) (by
  show(sq (bV l)).size<=100;rw[qA];exact a8.2) hV (fun y z=>.inr (.inl z))
 have U:∀y,y∈K.map asA->y∈(aq K (aV n w l).1 (aV n w l).2).map asA:=fun y z=>by
  obtain⟨a,q,_,_,Q,_,h4⟩:=qw J (aV n w l).1;rw[Q (aV n w l).2,asF,asO];rcases h4 with⟨u,e,_⟩|⟨e,_⟩
  ·rw[e,asF,asO]at z;exact z
  ·rw[e,asF]at z;rcases asy.1 z with z|z
   ·exact asx _ z
   ·exact asv _ (asG _ z)
 have Y:=pC hn hw H;obtain⟨_,b1,_⟩:=asu.1 Y;obtain⟨b2,_⟩:=asE.1 b1;refine⟨Z,X',D,⟨(aV n w l).1,r-ω (aV n w l).1 (aV n w l).2,g.less (asD _) (asD _) (fun y z=>?_),?_,fun m hm=>?_,fun y z I m hm=>?_⟩,?_,?_,h.rest.put hw J a2 _,?_,h.some⟩
 ·rcases z with D|D|D
  ·exact .inl D
  ·exact .inr D
  ·exact .inr (U y D)
 ·rw[rH]at hr;omega
 ·exact di (b2 m (asx _ hm))
 ·have b3:(y∈K0.map asA\/y∈K.map asA)\/y=(aV n w l).1:=by
   rcases z with D|D
   ·exact .inl (.inl D)
   ·obtain⟨e,he,rfl⟩:=asz.1 D;rcases nF he with G|G
    ·exact .inl (.inr (asM G))
    ·rw[G];exact .inr rfl
  rcases b3 with G|G
  ·exact L y G (uL a1 I) m (asG _ hm)
  ·rw[G]at I;exact absurd I (bg _)
 ·rw[G5 K (k:=(aV n w l).1) _ (kq n w (rowOf l)),h.is,JO hn hw M];simp
 ·have e:(A++[l])++(todo++B)=A++(l::(todo++B)):=by simp
  rw[e];exact H
 ·have G:=tX ω J (aV n w l).1 (aV n w l).2;have Q:=h.sum;rw[rH]at Q;omega
theorem Ds.done(h:Ds ω pg i n w c X K K0 A [] B V S)(b:∀y∈K0.map asA,y∈K.map asA):TG ω pg aW i c X K aW 0 V (fun y=>y∈K.map asA)/\aN ω K=S:=by
 obtain⟨k,r,q,_⟩:=h.tg;exact⟨(q.rest (bg _)).less (asD _) (asD _) (fun y s=>s.elim (b y) id),h.sum⟩
end
structure rI(PS A P B:List (List aa))(row:Int):Prop where
 is:PS=A++(P++B)
 one:P.length<=1
 none:P=[]->A=[]
 low:∀l∈P,rowOf l<=row
 high:∀l∈B,row<rowOf l
theorem nh{l:List aa}(h:bH ae l):∀p∈l,rowOf l<=p.1:=by
 intro p b;cases l with
 |nil=>cases b
 |cons a r=>
  rcases asJ.1 b with e|b
  ·rw[e];exact Int.le_refl _
  ·have:=dL.1 ((asE.1 h).1 p b);show a.1<=p.1;omega
theorem rI.JQ{PS A P B:List (List aa)}{row:Int}(h:rI PS A P B row)(ok:gv PS){l:List aa}(O:∀p∈l,p.1=row):
  (∀a∈A,∀p∈a,∀q∈setOf ae (P.flatten++l),p.1<q.1)/\(∀q∈setOf ae (P.flatten++l),∀b∈B,∀p∈b,q.1<p.1):=by
 have Q:=ok.pc.apart;rw[h.is]at Q;obtain⟨_,L,G⟩:=asu.1 Q;obtain⟨_,_,M⟩:=asu.1 L
 constructor
 ·intro a ha p D q s;rcases asy.1 ((bm _ _ _).1 s)with s|s
  ·obtain⟨m,y,s⟩:=asB.1 s;exact G a ha m (asx _ y) p D q s
  ·rw[O q s];cases S:P with
   |nil=>
    rw[h.none S]at ha;cases ha
   |cons m r=>
    have y:m∈P:=by rw[S];exact asw
    have H:m∈PS:=by rw[h.is];exact asv _ (asx _ y)
    obtain⟨z,U,e⟩:=gK (ok.pc.ne m H).1;have V:=G a ha m (asx _ y) p D z U;have Y:=h.low m y;omega
 ·intro q s b J p D;rcases asy.1 ((bm _ _ _).1 s)with s|s
  ·obtain⟨m,y,s⟩:=asB.1 s;exact M m y b J q s p D
  ·rw[O q s];have V:=h.high b J;have I:b∈PS:=by rw[h.is];exact asv _ (asv _ J)
   have Y:=nh (ok.up b I) p D;omega
theorem rI.ok{PS A P B:List (List aa)}{row:Int}(h:rI PS A P B row)(ok:gv PS){l:List aa}(hl:∀p∈l,p.1=row)(S:∀p∈l,jL p=true)(hc:fj (setOf ae (P.flatten++l))):
  gv (A++(jP (setOf ae (P.flatten++l))++B))/\(A++(jP (setOf ae (P.flatten++l))++B)).flatten=setOf ae (PS.flatten++l):=by
 obtain⟨b1,b2⟩:=h.JQ ok hl;obtain⟨M,Q⟩:=xb hc;obtain⟨C,hC⟩:∃C,jP (setOf ae (P.flatten++l))=C:=⟨_,rfl⟩;rw[hC]at M Q⊢;have G:∀c∈C,∀p∈c,p∈setOf ae (P.flatten++l):=fun c hc p H=>by
  rw[<-M];exact asB.2 ⟨c,hc,H⟩
 have I:∀m,m∈A\/m∈P\/m∈B->m∈PS:=fun m s=>by
  rw[h.is];rcases s with s|s|s
  ·exact asx _ s
  ·exact asv _ (asx _ s)
  ·exact asv _ (asv _ s)
 have ap:=ok.pc.apart;rw[h.is]at ap;obtain⟨U,V,Y⟩:=asu.1 ap;obtain⟨_,Z,a7⟩:=asu.1 V;have J:∀m∈A++(C++B),m∈PS\/m∈C:=fun m s=>by
  rcases asy.1 s with s|s
  ·exact .inl (I m (.inl s))
  ·rcases asy.1 s with s|s
   ·exact .inr s
   ·exact .inl (I m (.inr (.inr s)))
 have O:gv (A++(C++B)):=by
  refine⟨⟨fun m s=>(J m s).elim (ok.pc.ne m) (Q.ne m),?_⟩,fun m s=>(J m s).elim (ok.aA m) fun L p H=>?_,fun m s=>(J m s).elim (ok.up m) fun L=>?_⟩
  ·refine asu.2 ⟨U,asu.2 ⟨Q.apart,Z,fun c hc b hb p H q D=>b2 p (G c hc p H) b hb q D⟩,fun a ha m s p H q D=>?_⟩;rcases asy.1 s with s|s
   ·exact b1 a ha p H q (G m s q D)
   ·exact Y a ha m (asv _ s) p H q D
  ·rcases asy.1 ((bm _ _ _).1 (G m L p H))with D|D
   ·obtain⟨z,hz,D⟩:=asB.1 D;exact ok.aA z (I z (.inr (.inl hz))) p D
   ·exact S p D
  ·have y:bH ae C.flatten:=by rw[M];exact bT bw _
   exact(asL.1 y).1 m L
 refine⟨O,qe bw O.flat fun x=>?_⟩;rw[h.is];simp only[List.flatten_append,asy,M,bm]
 constructor
 ·rintro(y|(y|y)|y)
  ·exact .inl (.inl y)
  ·exact .inl (.inr (.inl y))
  ·exact .inr y
  ·exact .inl (.inr (.inr y))
 ·rintro((y|y|y)|y)
  ·exact .inl y
  ·exact .inr (.inl (.inl y))
  ·exact .inr (.inr y)
  ·exact .inr (.inl (.inr y))
section
variable{ω:Wt}{pg:Nat->ByteArray}{i:Nat}{n w:ByteArray}{c:Ch}{X:Tr}{K:LP}{PS A B:List (List aa)}{P l:List aa}{row:Int}{V:Nat}
theorem RN(b4:∀k v,pz k v<=ω k v)(hi:i<8)(hn:bQ n)(hw:bQ w)(hV:V<12145)
  (tg:TG ω pg aW i c X K aW 0 V (fun y=>y∈K.map asA)) (O:bq K aW≠none) (H:eF K (cN n w)=PS.map (aV n w)) (ok:gv PS) (h:rI PS A [P] B row) (hl:∀p∈l,p.1=row) (b5:∀p∈l,jL p=true) (hc:fj (setOf ae (P++l)))
  (b6:ω (aV n w P).1 (aV n w P).2<=mq ω n w (jP (setOf ae (P++l)))):
  ∃Y Z,lz c i X (aV n w P).1=(Y,Z,0)/\Ds ω pg i n w Y Z (cy K (aV n w P).1) K A (jP (setOf ae (P++l))) B (V+(mq ω n w (jP (setOf ae (P++l)))-ω (aV n w P).1 (aV n w P).2)) (aN ω K-ω (aV n w P).1 (aV n w P).2+mq ω n w (jP (setOf ae (P++l)))):=by
 have hf:[P].flatten=P:=by simp
 have b7:fj (setOf ae ([P].flatten++l)):=by rw[hf];exact hc
 obtain⟨G,_⟩:=h.ok ok hl b5 b7;obtain⟨b1,b2⟩:=h.JQ ok hl;rw[hf]at G b1 b2;have b8:PS=A++P::B:=h.is;have z:=ok;rw[b8]at z H;have M:P∈A++P::B:=by simp
 have a0:=z.row M;obtain⟨d1,d2⟩:=G7 hn hw z;have J:bq K (aV n w P).1=some (aV n w P).2:=by rw[<-EU (k:=(aV n w P).1) (s:=cN n w) (kq n w (rowOf P)),H,d2]
 obtain⟨Y,Z,e,g⟩:=tg.drop hi (di (vI n w (rowOf P))) (vO n w (rowOf P)) b4 J hV;obtain⟨C,hC⟩:∃C,jP (setOf ae (P++l))=C:=⟨_,rfl⟩;rw[hC]at b6 G⊢;obtain⟨p1,p2⟩:=xb hc;rw[hC]at p1 p2;have a1:∀m∈C,m∈A++(C++B):=fun m D=>asv _ (asx _ D);have Q:∀m∈C,rowOf P<=rowOf m:=fun m D=>by
  obtain⟨p,L,ep⟩:=gK (p2.ne m D).1;have:p∈setOf ae (P++l):=by rw[<-p1];exact asB.2 ⟨m,D,L⟩
  rcases asy.1 ((bm _ _ _).1 this)with S|S
  ·have:=nh (z.up P M) p S;omega
  ·have I:=hl p S;have h2:=h.low P (by simp);omega
 have hd:=ry ω tg.GY J;refine⟨Y,Z,e,⟨(aV n w P).1,ω (aV n w P).1 (aV n w P).2+(mq ω n w C-ω (aV n w P).1 (aV n w P).2),(g.add _).less (asD _) (asD _) (fun y hy=>.inl hy),by omega,fun m D=>?_,fun y hy a3 m D=>?_⟩,?_,G,(Rest.refl n w K).drop hw _,by omega,O⟩
 ·rw[le_iff];show gh (bS n w (rowOf P)) (bS n w (rowOf m))≠1;rw[EL hn hw a0 (G.row (a1 m D))];have:=Q m D
  split
  ·omega
  ·rw[if_neg (by omega)];omega
 ·have b9:y∈K.map asA:=by
   rcases hy with I|I
   ·exact I
   ·obtain⟨e,he,rfl⟩:=asz.1 I;exact asM (oC he)
  obtain⟨e,he,rfl⟩:=asz.1 b9;cases L:preB (cN n w) e.1 with
  |true=>
   have I:e∈eF K (cN n w):=asS.2 ⟨he,L⟩;rw[H]at I;obtain⟨b,hb,rfl⟩:=asz.1 I;have a5:=z.row hb;have a6:rowOf P<rowOf b:=(wZ hn hw a0 a5).1 a3;have c0:b∈B:=by
    rcases asy.1 hb with h2|h2
    ·have ap:=z.pc.apart;have U:=(asu.1 ap).2.2 b h2 P asw;have h4:=xd (z.pc.ne b hb).1 (z.pc.ne P M).1 U;omega
    ·rcases asJ.1 h2 with U|U
     ·rw[U]at a6;omega
     ·exact U
   refine(wZ hn hw (G.row (a1 m D)) a5).2 ?_;refine xd (p2.ne m D).1 (z.pc.ne b hb).1 fun p L q S=>b2 p ?_ b c0 q S;rw[<-p1];exact asB.2 ⟨m,D,L⟩
  |false=>
   refine L5 (fun c1=>?_) L (kq n w (rowOf m));exact absurd (eL a3 c1) (Au (kq n w (rowOf P)))
 ·rw[Cf,H];exact d1
theorem RO(hn:bQ n)(hw:bQ w)
  (Y:TG ω pg aW i c X K aW 0 V (fun y=>y∈K.map asA)) (z:bq K aW≠none) (G:eF K (cN n w)=PS.map (aV n w)) (ok:gv PS) (h:rI PS [] [] B row) (L:∀p∈l,p.1=row) (H:∀p∈l,jL p=true) (hc:fj (setOf ae l)):
  Ds ω pg i n w c X K K [] (jP (setOf ae l)) B (V+mq ω n w (jP (setOf ae l))) (aN ω K+mq ω n w (jP (setOf ae l))):=by
 have I:fj (setOf ae ([].flatten++l)):=hc;obtain⟨q,_⟩:=h.ok ok L H I;have q:gv ([]++(jP (setOf ae l)++B)):=q;have Z:PS=B:=h.is;obtain⟨C,M⟩:∃C,jP (setOf ae l)=C:=⟨_,rfl⟩;rw[M]at q⊢;obtain⟨O,Q⟩:=xb hc;rw[M]at O Q;have D:∀m∈C,rowOf m=row:=fun m b=>by
  obtain⟨p,hp,ep⟩:=gK (Q.ne m b).1;have:p∈setOf ae l:=by rw[<-O];exact asB.2 ⟨m,b,hp⟩
  rw[<-ep];exact L p ((bm _ _ _).1 this)
 have s:∀m∈C,(aV n w m).1=bS n w row:=fun m b=>by
  show bS n w (rowOf m)=_;rw[D m b]
 have S:=(Y.rest (di (vI n w row))).add (mq ω n w C);rw[Nat.zero_add]at S;refine⟨⟨bS n w row,mq ω n w C,S.less (asD _) (asD _) (fun y U=>.inl U),asD _,fun m b=>?_,fun y U J m b=>?_⟩,?_,q,Rest.refl n w K,rfl,z⟩
 ·rw[s m b];exact bg _
 ·rw[s m b];exact J
 ·rw[G,Z]
  rfl
end
def oP:Wt:=fun k v=>max (pz k v) (match fi k.data.toList,jU v.data.toList with
 |some [_,u,_],some l=>(19+u.text.size)*l.length
 |_,_=>0)
theorem tZ:∀k v,pz k v<=oP k v:=fun _ _=>Nat.le_max_left _ _
def fN(p:aa):Prop:=1<=p.1/\p.1<=8000/\0<=p.2/\p.2<=19
theorem fN.jL{p:aa}(h:fN p):jL p=true:=by
 unfold fN at h;exact iD.2 (by omega)
theorem Me{l:List aa}(h:∀p∈l,jL p=true)(q:bH ae l):eR l=true:=by
 refine pK fun k b=>?_;unfold nV;have s:l.getD k (0,0)=l[k]:=by
  rw[asH,asK b]
  rfl
 rw[s,h _ (List.getElem_mem b),Bool.true_and,Bool.or_eq_true];cases k with
 |zero=>exact .inl rfl
 |succ k=>
  refine .inr ?_;have y:=(List.pairwise_iff_getElem.1 q) k (k+1) (by omega) b (by omega);show ae (l.getD k (0,0)) l[k+1]=true;rw[asH,asK (by omega)];exact y
theorem Cl{l:List aa}(h:∀p∈l,fN p):(bV l).length<=3*l.length:=Dp fun p b=>by
 have:=h p b;unfold fN at this;omega
theorem NO{n w:ByteArray}(hn:bQ n)(hw:bQ w)(O:n.size<=1){l:List aa}(s:l≠[])(hs:∀p∈l,fN p)(B:bH ae l):oP (aV n w l).1 (aV n w l).2=(19+w.size)*l.length:=by
 obtain⟨p,D,e⟩:=gK s;have b:1<=rowOf l/\rowOf l<=1073741824:=by
  have:=hs p D;unfold fN at this;omega
 have G:fi (bS n w (rowOf l)).data.toList=some [gu n,gu w,kT (rowOf l)]:=by
  refine yp [gu n,gu w,kT (rowOf l)] fun v hv=>?_;rcases asJ.1 hv with e|hv
  ·rw[e];exact hn.aA
  rcases asJ.1 hv with e|hv
  ·rw[e];exact hw.aA
  rw[List.mem_singleton.1 hv];exact qB b
 have H:jU (sq (bV l)).data.toList=some l:=zB (Me (fun q I=>(hs q I).jL) B);have y:=Cl hs;have J:1<=l.length:=List.length_pos_iff.2 s;have Q:pz (aV n w l).1 (aV n w l).2=2+(n.size+w.size+13)+(bV l).length:=by
  unfold pz aV;simp only;rw[oD,qA]
 have z:(19+w.size)*l.length=3*l.length+(16+w.size)*l.length:=by
  rw[<-Nat.add_mul]
  congr 1
  omega
 have M:16+w.size<=(16+w.size)*l.length:=Nat.le_mul_of_pos_right _ J;unfold oP;show max (pz (aV n w l).1 (aV n w l).2) (match fi (bS n w (rowOf l)).data.toList,jU (sq (bV l)).data.toList with
  |some [_,u,_],some l=>(19+u.text.size)*l.length
  |_,_=>0)=_
 rw[G,H];simp only;have L:(gu w).text.size=w.size:=rfl;rw[L];omega
theorem Cm{n w:ByteArray}(hn:bQ n)(hw:bQ w)(b:n.size<=1):∀{PS:List (List aa)},(∀l∈PS,l≠[]/\(∀p∈l,fN p)/\bH ae l)->mq oP n w PS=(19+w.size)*PS.flatten.length
 |[],_=>rfl
 |l::PS,h=>by
  have q:=Cm hn hw b (PS:=PS) fun m s=>h m (asG _ s);obtain⟨y,z,B⟩:=h l asw;rw[rH,q,NO hn hw b y z B,List.flatten_cons,List.length_append,Nat.mul_add]
theorem EX{l:List Int}(h:l.Pairwise (·<·)){n:Nat}(q:∀x∈l,0<=x/\x<n):l.length<=n:=by
 have y:(l.map Int.toNat).Nodup:=by
  refine asR.2 (h.imp_of_mem fun{a b} ha s D=>?_);have:=q a ha;have:=q b s;omega
 have:=tU n (l.map Int.toNat) y fun k z=>by
  obtain⟨x,B,rfl⟩:=asz.1 z;have:=q x B;omega
 simpa using this
theorem vP{l:List aa}(z:bH ae l)(hs:∀p∈l,fN p):fj l:=by
 refine⟨z,fun c m B hc=>?_⟩;have q:∀p∈m,fN p:=fun p s=>hs p (B.subset s);have I:=Cl q;have D:(m.map (·.2)).length<=20:=by
  refine EX (n:=20) ?_ fun x G=>?_
  ·refine asR.2 ((z.sublist B).imp_of_mem fun{a b} ha H y=>?_);have J:=hc a ha;have L:=hc b H;have:=dL.1 y;omega
  ·obtain⟨p,s,rfl⟩:=asz.1 G;have:=q p s;unfold fN at this;omega
 rw[List.length_map]at D;omega
