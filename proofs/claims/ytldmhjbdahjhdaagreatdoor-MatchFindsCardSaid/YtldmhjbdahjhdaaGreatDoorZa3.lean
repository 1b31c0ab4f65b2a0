/-
  Part 3 of the proof.
-/
import Derived.Test.YtldmhjbdahjhdaaGreatDoorZa2
open Go.Proofs.Tryz
open Go.Lib renaming hid->ae
open Array renaming getElem?_setIfInBounds_ne->ak,getElem?_setIfInBounds_self_of_lt->aJ
open Go.World renaming cell?_alloc_new->ap
open Go renaming World->az,Value->aQ,Calls->bj,TypeId->bX
open Go.ByteArray renaming toList_eq->aS
open List renaming getD_eq_getElem?_getD->aU,replicate->aV,getElem?_replicate->bc,range_succ->bh,length_replicate->bt,mem_range->bu,filter_append->bv,length_append->bz,getElem_mem->bA,length_cons->bB,length_nil->bM,range->bP
open Go.Proofs.Tryz renaming zeroCells158->aX,zeroCells89->bC
open Go.Value renaming string->be
open Nat renaming le_refl->bF,le_trans->bQ,zero_le->bT
open Go.World.ownsRow renaming alloc->bW
open Option.some renaming inj->bZ
open Go.IntKind renaming u8->b_
set_option maxRecDepth 100000
set_option maxHeartbeats 100000000
set_option linter.all false
namespace Go.Proofs.YtldmhjbdahjhdaaGreatDoor
section
open Go Go.RowKit
def O8(v b:aQ)(w w':az):Prop:=w.heap.size<=w'.heap.size/\∀k,k<w.heap.size->v.ownBlock≠some k->b.ownBlock≠some k/\w'.heap[k]?=w.heap[k]?
theorem gM.S9{z:Type}{enc:z->aQ}{e:bX}{a0 w w':az}{u v B:aQ}{D:List z}(h:gM enc e a0 w u D)(hd:∀b,u.ownBlock=some b->v.ownBlock≠some b)(m:O8 v B w w'):gM enc e a0 w' u D/\∀b,u.ownBlock=some b->B.ownBlock≠some b:=by
 have q:=bd h;obtain⟨G,s⟩:=h
 constructor
 ·refine⟨G,?_⟩;rcases s with s|⟨b,cap,y,hv,H,I,r⟩
  ·exact .inl s
  have e:u.ownBlock=some b:=by rw[hv];rfl
  exact .inr ⟨b,cap,y,hv,H,by rw[(m.2 b (q b e) (hd b e)).2];exact I,r⟩
 intro b e;exact(m.2 b (q b e) (hd b e)).1
theorem FX{L:Type}{enc:L->aQ}{a0 w:az}{H:Array Oper}{rest:List Oper}{o:Oper}{a:Act}{Q:Exit->Act->az->Prop}(S:o.guard=none)(s x:Operand)(t e:bX)(z:aQ)(I:Nat)
  (ht:prog.underlying t=some (.slice e)) (b:(prog.info? e).map (fun i=>(i.zero,i.size,i.bytes))=some (some z,1,I)) (U:z.cells.size=1) (V:I<=16)
  (ho:o.op=.call {callee:=.builtin .append,args:=#[s,x],argTypes:=#[t,t]}) (v:aQ) (us:List L) (hs:a.eval s=v) (B:gM enc e a0 w v us) (y:L) (M:(enc y).oneCell'=true)
  (hx:a.eval x=.slice (some ⟨w.heap.size,0,none⟩) 1 1) (hl:us.length<=1000000) (hg:Gr a0 w)
  (h:∀D w',gM enc e a0 w' D (us++[y])->Gr a0 w'->O8 v D w w'->wpList prog H Q rest (a.put o.dst D) w'):wpList prog H Q (o::rest) a (w.alloc (.cells #[enc y] e)):=by
 obtain⟨i0,b,Y,Z,a1⟩:=info_parts b;have q:(us.length+1)*I<=140737488355328:=by
  have:=Nat.mul_le_mul (show us.length+1<=1000001 by omega) V;omega
 refine wpList_append_own_at _ S s x t ho a0.heap.size e i0 z 1 I ht b Y Z a1 U (by decide) v us.length (us.map enc) hs (bW B _) ⟨w.heap.size,0,none⟩ 1 1 [enc y] hx rfl ?_ (by simpa using M) (by unfold maxLen;omega) q (by have:=hg.size;simp;omega)
  (fun D w' M O _ G=>h D w' (gM.snoc M) (iG (hg.alloc _) O (aP B)) ⟨by have:=O.size;simp at this;omega,fun k hk J=>⟨fun e=>by
   rcases G with G|G
   ·exact J (G.symm.trans e)
   rw[G]at e;have:=bZ e;simp at this;omega,(O.block k (by simp;omega) (fun e=>J e.symm)).trans (Below.heap_alloc _ _ _ hk)⟩⟩)
 intro j u hj;have he:(⟨w.heap.size,0,none⟩:Addr).add j=⟨w.heap.size,j,none⟩:=by
  unfold Addr.add
  split
  ·rename_i h0;rw[h0]
  simp
 rw[he,ap];simpa using hj
def fp(s:ByteArray)(i:Nat):List Nat:=(bP i).filter (jD s.data.toList)
def jm(pg:Nat->ByteArray)(s:ByteArray)(i:Nat):List ByteArray:=(bP (fp s i).length).map fun j=>cJ pg (2001+j)
theorem FY(s:ByteArray)(i:Nat):(fp s i).length<=i:=by
 have:=List.length_filter_le (jD s.data.toList) (bP i);simpa[fp]using this
theorem zc(pg:Nat->ByteArray)(s:ByteArray)(i:Nat):(jm pg s i).length=(fp s i).length:=by simp[jm]
theorem FZ{s:ByteArray}{i:Nat}(h:jD s.data.toList i=true):fp s (i+1)=fp s i++[i]:=by
 unfold fp;rw[bh,bv,List.filter_cons_of_pos h]
 rfl
theorem Kt{s:ByteArray}{i:Nat}(h:jD s.data.toList i=false):fp s (i+1)=fp s i:=by
 unfold fp;rw[bh,bv,List.filter_cons_of_neg (by rw[h];decide)];simp
theorem Qp{pg:Nat->ByteArray}{s:ByteArray}{i:Nat}(h:jD s.data.toList i=true):jm pg s (i+1)=jm pg s i++[cJ pg (2001+(fp s i).length)]:=by
 unfold jm;rw[FZ h,bz,List.length_singleton,bh,List.map_append]
 rfl
theorem S_{pg:Nat->ByteArray}{s:ByteArray}{i:Nat}(h:jD s.data.toList i=false):jm pg s (i+1)=jm pg s i:=by
 unfold jm;rw[Kt h]
theorem Ta{d:Dk}(hw:d.whole)(s:ByteArray):∀t∈jm d.pg s 2000,t.size=1024:=by
 intro t b;obtain⟨i,hi,rfl⟩:=List.mem_map.1 b;have:=bu.1 hi;have:=FY s 2000;exact hw _ (by omega)
theorem MO{pg:Nat->ByteArray}{s:ByteArray}(hs:cJ pg 2000=s):(wy (fp s 2000) (jm pg s 2000)=s->fc pg=fp s 2000/\jI pg=jm pg s 2000)/\(¬wy (fp s 2000) (jm pg s 2000)=s->fc pg=[]/\jI pg=[]):=by
 have b:oT pg=fp s 2000:=by
  unfold oT fp;rw[hs]
 have q:yX pg=jm pg s 2000:=by
  unfold yX jm;rw[b]
 unfold fc jI;rw[b,q,hs];exact⟨fun h=>by rw[if_pos h,if_pos h];exact⟨rfl,rfl⟩,fun h=>by rw[if_neg h,if_neg h];exact⟨rfl,rfl⟩⟩
theorem Qq(B:Nat)(d:Dk)(w:az)(hd:jl w B d)(hw:d.whole):
  bj prog 79 #[.pointer (some ⟨B,0,none⟩)] w fun e L=>∃M O,e=.returned (.tuple #[M,O])/\ke Ae L M (fc d.pg)/\ke be L O (jI d.pg)/\FV M B/\FV O B/\Gr w L:=by
 have HD:=ae hd;have HW:=ae hw;have e7:=hd.lt;clear hd hw;obtain⟨s,hs⟩:∃s,cJ d.pg 2000=s:=⟨_,rfl⟩;have e8:s.size=1024:=by rw[<-hs];exact HW.out 2000 (by omega)
 have HS:=ae hs;have q:=fun w (h:jl w B d)=>rT B d.pg d.cut d.left d.torn 2000 (by omega) w h;rw[hs]at q;clear hs;go_enter func79,ntmps79;go_wp2_with fail
 refine(q _ HD.out).mono ?_;rintro e w1 ⟨rfl,b2⟩;clear q;go_wp2_with fail
 go_loopw [16,6,7] (fun kv M O L=>∃i:Nat,i<=2000/\kv=.int .i64 i/\gM Ae 3 w L M (fp s i)/\gM be 9 w L O (jm d.pg s i)/\(∀b,M.ownBlock=some b->O.ownBlock≠some b)/\Gr w L) (fun kv _ _ _=>2000-(intOf kv).toNat)
 case atStart=>exact⟨0,bT _,rfl,Cg _ _ _ _,Cg _ _ _ _,(fun b h=>by cases h),b2⟩
 case round=>
  obtain⟨i,hi,rfl,hp,hl,Q,hg⟩:=hrel;obtain⟨po,pc,rfl⟩:=hp.row.form;obtain⟨lo,lc,rfl⟩:=hl.row.form;have e9:=FY s i;have a3:=zc d.pg s i;rw[a3]at hl Q⊢;have V:=ae hp;have Y:=ae hl;have a4:=ae Q;have Z:=ae hg;clear hp hl Q a3;by_cases d5:i<2000
  ·have hq:2+i/8<s.size:=by omega
   have a5:(bits BinOp.and b_ ((s[2+i/8].toNat:Int)/2^(i % 8)) 1==1)=jD s.data.toList i:=by
    have e0:s[2+i/8]=s.data.toList.getD (2+i/8) 0:=by
     rw[bm s (2+i/8) hq,aU,List.getElem?_eq_getElem (by rw[<-size_data];exact hq)]
     rfl
    have y:((s[2+i/8].toNat:Int)/2^(i % 8))=((s[2+i/8].toNat/2^(i % 8):Nat):Int):=by push_cast;rfl
    rw[y,FE _ (Nat.lt_of_le_of_lt (Nat.div_le_self _ _) s[2+i/8].toNat_lt),e0];unfold jD;generalize(s.data.toList.getD (2+i/8) 0).toNat/2^(i % 8)=x;rcases Nat.mod_two_eq_zero_or_one x with h|h<;>rw[h]<;>rfl
   have q:=fun w (h:jl w B d)=>rT B d.pg d.cut d.left d.torn (2001+(fp s i).length) (by omega) w h;have HY:Hid (jD s.data.toList i=true->fp s (i+1)=fp s i++[i]/\jm d.pg s (i+1)=jm d.pg s i++[cJ d.pg (2001+(fp s i).length)]):=ae fun h=>⟨FZ h,Qp h⟩;have HN:Hid (jD s.data.toList i=false->fp s (i+1)=fp s i/\jm d.pg s (i+1)=jm d.pg s i):=ae fun h=>⟨Kt h,S_ h⟩;rw[show((2001+(fp s i).length:Nat):Int)=2001+((fp s i).length:Int)by omega]at q;cases z:jD s.data.toList i
   ·rw[z]at a5;obtain⟨y,H⟩:=HN.out z;have b3:Hid (gM Ae 3 w wr (.slice po (fp s i).length pc) (fp s (i+1))):=ae (by rw[y];exact V.out);have b4:Hid (gM be 9 w wr (.slice lo (fp s i).length lc) (jm d.pg s (i+1))):=ae (by rw[H];exact Y.out);clear q HY HN z y H;go_wp2_with fail
    refine⟨⟨i+1,by omega,by go_num,?_,?_,a4.out,Z.out⟩,by simp[intOf];omega⟩
    ·exact b3.out
    exact b4.out
   rw[z]at a5;obtain⟨y,H⟩:=HY.out z;have E1:=ae y;have E2:=ae H;clear HY HN z y H;generalize cJ d.pg (2001+(fp s i).length)=t at*;go_wp2_with fail
   refine(q _ (HD.out.gr Z.out)).mono ?_;rintro e w2 ⟨rfl,S⟩;have b5:=ae (V.out.gr S);have b6:=ae (Y.out.gr S);have b7:=ae (Z.out.trans S);clear q;go_wp2_with(first
    |(at_builtin;refine FX (a0:=w) (enc:=Ae) rfl _ _ 49 3 _ 8 underlying49 Mv rfl (by omega) rfl _ _ rfl b5.out i rfl rfl (by omega) b7.out ?_;intro g0 w3 b8 b9 c0
      obtain⟨c1,c2⟩:=b6.out.S9 (fun b y H=>a4.out b H y) c0)
    |(at_builtin;refine FX (a0:=w) (enc:=be) rfl _ _ 22 9 _ 16 underlying22 FD rfl (by omega) rfl _ _ rfl c1 t rfl rfl (by rw[zc];omega) b9 ?_;intro g3 w4 c3 c4 c5))
   obtain⟨c6,c7⟩:=b8.S9 (fun b y H=>c2 b H y) c5;refine⟨⟨i+1,by omega,by go_num,?_,?_,c7,c4⟩,by simp[intOf];omega⟩
   ·rw[E1.out];exact c6
   rw[E2.out];exact c3
  obtain rfl:i=2000:=by omega
  have a6:Hid ((⟨(Ia (fp s 2000) (il (jm d.pg s 2000))).toArray⟩:ByteArray)=wy (fp s 2000) (jm d.pg s 2000)):=ae rfl;have D:=U5 (fp s 2000) (jm d.pg s 2000) (.slice po (fp s 2000).length pc) (.slice lo (fp s 2000).length lc) wr V.out.row Y.out.row (by omega) (fun i h=>by
   have:=bu.1 (List.mem_filter.1 (bA h)).1;exact this) (by rw[zc];omega) (fun i h=>by
   have:=Ta HW.out s _ (bA h);omega)
  rw[a6.out]at D;have U:=ae (MO (pg:=d.pg) HS.out);have J:∀{v:aQ} {n:Nat} {xs:List aQ} {e:bX},wr.ownsRow w.heap.size e 1 v n xs->FV v B:=fun h b a7 n c e H=>by
   have:=aP h b (by rw[e];rfl);omega
  have a8:=ae (And.intro (J V.out) (J Y.out));clear J;by_cases G:wy (fp s 2000) (jm d.pg s 2000)=s
  ·have HE:=ae (U.out.1 G);rw[G]at D;clear G;go_wp2_with fail
   refine D.mono ?_;rintro e w5 ⟨rfl,I⟩;clear D;go_wp2_with fail
   go_ret2;refine⟨_,_,rfl,?_,?_,a8.out.1,a8.out.2,Z.out.trans I⟩
   ·rw[HE.out.1];exact V.out.row.gr I
   rw[HE.out.2];exact Y.out.row.gr I
  have HE:=ae (U.out.2 G);clear U a6;generalize wy (fp s 2000) (jm d.pg s 2000)=nb at*;have hb:(nb.toList==s.toList)=false:=by
   rw[beq_eq_false_iff_ne];intro e;rw[aS,aS]at e;exact G (qT e)
  have g4:(!nb.toList==s.toList)=true:=by rw[hb];rfl
  clear G;go_wp2_with fail
  refine D.mono ?_;rintro e w5 ⟨rfl,I⟩;clear D;go_wp2_with fail
  go_ret2;refine⟨_,_,rfl,?_,?_,?_,?_,Z.out.trans I⟩
  ·rw[HE.out.1];exact .inl ⟨rfl,rfl⟩
  ·rw[HE.out.2];exact .inl ⟨rfl,rfl⟩
  ·intro b a7 n c e;cases e
  intro b a7 n c e;cases e
theorem tQ{S T:Nat->Prop}{w w':az}(h:ag S w w')(i:∀k,S k->T k):ag T w w':=⟨h.1,h.2.1,h.2.2.1,h.2.2.2.1,fun k b hs=>h.2.2.2.2 k b fun q=>hs (i k q)⟩
def wG:List aQ:=[.pointer none]++(aV 2000 (.bool false)++(aV 16 (.int .i64 0)++([.map none]++(aV 2000 (.bool false)++(aV 16 (.int .i64 0)++[.bool false,.int .i64 0])))))
theorem MQ:aX.toList=wG:=by kernel_rfl
theorem MR:wG.length=4036:=by simp only[wG,bz,bt,bB,bM]
theorem U_{Z:Array aQ}(b:Z.toList=wG)(DB M:Nat){k:Nat}{v:aQ}(h:wG[k]?=some v)(q:k≠0)(s:k≠2017):((Z.setIfInBounds 0 (.pointer (some ⟨DB,0,none⟩))).setIfInBounds 2017 (.map (some M)))[k]?=some v:=by
 rw[ak (by omega),ak (by omega),<-Array.getElem?_toList,b];exact h
theorem MS(w:az)(DB M:Nat)(z:M<w.heap.size)(t:bX)(y:MapAt w M 0 fun _=>none){Z:Array aQ}(s:Z.toList=wG):
  aK (w.alloc (.cells ((Z.setIfInBounds 0 (.pointer (some ⟨DB,0,none⟩))).setIfInBounds 2017 (.map (some M))) t)) w.heap.size DB M 0 mj mj (fun _=>none) false 0:=by
 have hs:Z.size=4036:=by rw[<-Array.length_toList,s,MR]
 have b:((Z.setIfInBounds 0 (.pointer (some ⟨DB,0,none⟩))).setIfInBounds 2017 (.map (some M)))[0]?=some (.pointer (some ⟨DB,0,none⟩)):=by
  rw[ak (by omega),aJ (by omega)]
 have q:((Z.setIfInBounds 0 (.pointer (some ⟨DB,0,none⟩))).setIfInBounds 2017 (.map (some M)))[2017]?=some (.map (some M)):=by
  rw[aJ (by rw[Array.size_setIfInBounds];omega)]
 have hn:=fun k v h b q=>U_ s DB M (k:=k) (v:=v) h b q;generalize(Z.setIfInBounds 0 (.pointer (some ⟨DB,0,none⟩))).setIfInBounds 2017 (.map (some M))=C at*;have hc:∀k v,C[k]?=some v->(w.alloc (.cells C t)).cell? ⟨w.heap.size,k,none⟩=some v:=fun k v h=>by rw[ap];exact h
 refine⟨hc _ _ b,⟨fun i hi=>?_,fun i hi=>?_,fun i hi=>?_⟩,hc _ _ q,⟨fun i hi=>?_,fun i hi=>?_,fun i hi=>?_⟩,?_,?_,fun o=>by simp,y.gr ((Gr.refl w).alloc _),by omega⟩
 all_goals refine hc _ _ (hn _ _ ?_ (by omega) (by omega))
 all_goals simp only[wG,List.getElem?_append,bc,bB,bM,bt,mj]
 all_goals(repeat' split)
 all_goals first|omega|rfl|skip
def BQ(DB:Nat)(d:Dk)(w:az)(e:Ending)(w':az):Prop:=
 jl w' DB (fW d (kK d.pg)).2/\ag (fun b=>b=DB) w w'/\
  if(fW d (kK d.pg)).1 then∃PB M,e=.returned (.tuple #[.pointer (some ⟨PB,0,none⟩),.nilIface])/\aK w' PB DB M 0 (headD (fW d (kK d.pg)).2.pg) (headD (fW d (kK d.pg)).2.pg) (fun _=>none) false 0/\w.heap.size<=PB/\w.heap.size<=M
  else e=.returned (.tuple #[.pointer none,.iface 24 (.int .i64 14)])
theorem Va(DB:Nat)(d:Dk)(w:az)(hd:jl w DB d)(hw:d.whole)(hl:-890000<=d.left/\d.left<=1000000):
  bj prog 35 #[.pointer (some ⟨DB,0,none⟩)] w (BQ DB d w):=by
 have HD:=ae hd;have HW:=ae hw;have g0:=hd.lt;clear hd hw;have h3:=fun w=>run_makeMap (P:=prog) 152 w;have HN:Hid (aK ((w.alloc (.map #[] 0)).alloc (.cells ((aX.setIfInBounds 0 (.pointer (some ⟨DB,0,none⟩))).setIfInBounds 2017 (.map (some w.heap.size))) 158)) (w.heap.size+1) DB w.heap.size 0 mj mj (fun _=>none) false 0):=ae (by
  have:=MS (w.alloc (.map #[] 0)) DB w.heap.size (by simp) 158 (MapAt.made w) MQ;simpa using this)
 go_enter func35,ntmps35;go_wp2_with fail
 generalize((aX.setIfInBounds 0 (.pointer (some ⟨DB,0,none⟩))).setIfInBounds 2017 (.map (some w.heap.size)))=Z at*;have a3:Gr w ((w.alloc (.map #[] 0)).alloc (.cells Z 158)):=((Gr.refl w).alloc _).alloc _;generalize(w.alloc (.map #[] 0)).alloc (.cells Z 158)=w1 at*;have d6:=ae a3;have c0:=ae (HD.out.gr a3);clear a3;have d7:¬(fun b=>b=DB) (w.heap.size+1):=fun e=>absurd e (by omega);have d8:¬(fun b=>b=DB) w.heap.size:=fun e=>absurd e (by omega);refine(Qq DB d w1 c0.out HW.out).mono ?_;rintro e w2 ⟨pv,lv,rfl,a4,c1,c2,c3,Q⟩;obtain⟨po,pc,rfl⟩:=a4.form;have N2:=ae (HN.out.gr Q);have a5:=ae (c0.out.gr Q);have c4:=ae (d6.out.trans Q);have c5:=ae a4;have d9:=ae c1;have e0:=ae c2;have e1:=ae c3;have e2:=ae (Km d.pg);have e3:=ae (Ak d.pg);have e4:=ae (Al HW.out);have c6:Hid ((fc d.pg).length<=2000):=ae (by
  have h1:=Co d.pg;unfold fc
  split
  ·exact h1
  exact bT _)
 have c7:Hid (kK d.pg=if fc d.pg=[]then[]else lw (fc d.pg) (jI d.pg)):=ae rfl;have e5:=ae (Qh HW.out);have c8:Hid ((fW d (kK d.pg)).2.whole):=ae (tK _ HW.out e5.out);clear a4 c1 c2 c3 Q;generalize fc d.pg=ps at*;generalize jI d.pg=L at*;cases ps with
 |nil=>
  have HE:Hid (fW d (kK d.pg)=(true,d)):=ae (by rw[c7.out,if_pos rfl];rfl);have U:=ae (ag.ah (S:=fun b=>b=DB) c4.out);have a6:∀w,jl w DB d->bj prog 81 #[.pointer (some ⟨DB,0,none⟩),.int .i64 0] w (ar w (.tuple #[.string (cJ d.pg 0),.nilIface])):=fun w h=>rT DB d.pg d.cut d.left d.torn 0 (by omega) w h;have H:(cJ d.pg 0).size=1024:=HW.out 0 (by omega);obtain⟨A,y⟩:∃A:Array aQ,A=(headD d.pg).cells.toArray:=⟨_,rfl⟩;have a7:∀w,bj prog 82 #[.string (cJ d.pg 0)] w (ar w (.agg A)):=fun w=>by rw[y];exact Kg (cJ d.pg 0) H w
  have hA:=ae y;clear y H;have O:∃hh,headD d.pg=hh:=⟨_,rfl⟩;obtain⟨hh,z⟩:=O;rw[z]at hA;have a8:=ae z;clear z;generalize cJ d.pg 0=s0 at*;go_wp2_with fail
  refine(a6 _ a5.out).mono ?_;rintro e w4 ⟨rfl,B⟩;have N4:=ae (N2.out.gr B);have a9:=ae (a5.out.gr B);have b0:=ae (U.out.trans (ag.ah B));go_wp2_with(first
   |( go_at_call 82;refine(a7 _).mono ?_;rintro e w5 ⟨rfl,D⟩
      have N5:=ae (N4.out.gr D);have b1:=ae (a9.out.gr D);have b2:=ae (b0.out.trans (ag.ah D)))
   |( refine iW rfl _ _ rfl (w.heap.size+1) 1 _ _ _ rfl rfl hA.out N5.out.head N5.out.free ?_;intro w6 b3
      have q:=ae (Cv b3 N5.out))
   |( refine qi rfl _ rfl (w.heap.size+1) 1 _ rfl q.out.1.head ?_;intro A3 b4)
   |( refine iW rfl _ _ rfl (w.heap.size+1) 2018 _ _ _ rfl rfl b4.out q.out.1.saved q.out.1.free ?_;intro w7 b5
      have I:=ae (Cx b5 q.out.1)))
  go_ret2;rw[BQ,HE.out];have J:=I.out.1;rw[<-a8.out]at J;have M:=q.out.2.trans I.out.2;have s:ag (fun k=>k=DB\/k=w.heap.size+1) w w7:=(tQ b2.out fun _ h=>.inl h).trans (tQ M fun _ h=>.inr h);refine⟨b1.out.ay M (fun e=>by omega),⟨s.1,s.2.1,s.2.2.1,s.2.2.2.1,fun k hk hs=>s.2.2.2.2 k hk (fun e=>e.elim hs (fun e=>by omega))⟩,?_⟩;exact⟨w.heap.size+1,w.heap.size,rfl,J,by omega,bF _⟩
 |cons p0 V=>
  have a2:(p0::V).length=V.length+1:=rfl;rw[a2]at c5⊢;have e6:=c6.out;rw[a2]at e6;go_wp2_with fail
  refine(Qn DB d (p0::V) L _ _ w2 c5.out d9.out e0.out e1.out e2.out e3.out e4.out c6.out a5.out HW.out (by omega)).mono ?_;rintro e w3 ⟨rfl,b6,b7⟩;have e7:Hid (kK d.pg=lw (p0::V) L):=ae (by rw[c7.out,if_neg (by simp)]);rw[<-e7.out]at b6⊢;have Y:=ae b6;have N3:=ae (N2.out.ay b7 d7 d8);have U:=ae ((ag.ah (S:=fun b=>b=DB) c4.out).trans b7);clear b6 b7;obtain⟨r3,b8⟩:∃r3,fW d (kK d.pg)=r3:=⟨_,rfl⟩;have HE:=ae b8;rw[b8]at Y c8⊢;clear b8;obtain⟨e8,G⟩:=r3;cases e8
  ·unfold FS;go_wp2_with fail
   go_ret2;rw[BQ,HE.out];exact⟨Y.out,U.out,rfl⟩
  unfold FS;have a6:∀w,jl w DB G->bj prog 81 #[.pointer (some ⟨DB,0,none⟩),.int .i64 0] w (ar w (.tuple #[.string (cJ G.pg 0),.nilIface])):=fun w h=>rT DB G.pg G.cut G.left G.torn 0 (by omega) w h;have H:(cJ G.pg 0).size=1024:=c8.out 0 (by omega);obtain⟨A,y⟩:∃A:Array aQ,A=(headD G.pg).cells.toArray:=⟨_,rfl⟩;have a7:∀w,bj prog 82 #[.string (cJ G.pg 0)] w (ar w (.agg A)):=fun w=>by rw[y];exact Kg (cJ G.pg 0) H w
  have hA:=ae y;clear y H;have O:∃hh,headD G.pg=hh:=⟨_,rfl⟩;obtain⟨hh,z⟩:=O;rw[z]at hA;have a8:=ae z;clear z;generalize cJ G.pg 0=s0 at*;go_wp2_with fail
  refine(a6 _ Y.out).mono ?_;rintro e w4 ⟨rfl,B⟩;have N4:=ae (N3.out.gr B);have a9:=ae (Y.out.gr B);have b0:=ae (U.out.trans (ag.ah B));go_wp2_with(first
    |(go_at_call 82;refine(a7 _).mono ?_;rintro e w5 ⟨rfl,D⟩
      have N5:=ae (N4.out.gr D);have b1:=ae (a9.out.gr D);have b2:=ae (b0.out.trans (ag.ah D)))
    |(refine iW rfl _ _ rfl (w.heap.size+1) 1 _ _ _ rfl rfl hA.out N5.out.head N5.out.free ?_;intro w6 b3
      have q:=ae (Cv b3 N5.out))
    |(refine qi rfl _ rfl (w.heap.size+1) 1 _ rfl q.out.1.head ?_;intro A3 b4)
    |(refine iW rfl _ _ rfl (w.heap.size+1) 2018 _ _ _ rfl rfl b4.out q.out.1.saved q.out.1.free ?_;intro w7 b5
      have I:=ae (Cx b5 q.out.1)))
  go_ret2;rw[BQ,HE.out];have J:=I.out.1;rw[<-a8.out]at J;have M:=q.out.2.trans I.out.2;have s:ag (fun k=>k=DB\/k=w.heap.size+1) w w7:=(tQ b2.out fun _ h=>.inl h).trans (tQ M fun _ h=>.inr h);refine⟨b1.out.ay M (fun e=>by omega),⟨s.1,s.2.1,s.2.2.1,s.2.2.2.1,fun k hk hs=>s.2.2.2.2 k hk (fun e=>e.elim hs (fun e=>by omega))⟩,?_⟩;exact⟨w.heap.size+1,w.heap.size,rfl,J,by omega,bF _⟩
theorem ld(j:Nat):e_.data.toList.getD j 0=0:=by
 rw[xJ];unfold mh;rw[List.nil_append,aU,bc]
 split<;>rfl
theorem IC{pg:Nat->ByteArray}(h:oT pg=[]):fc pg=[]:=by
 unfold fc;rw[h]
 split<;>rfl
theorem Ku{pg:Nat->ByteArray}(h:∀j,2<=j->(cJ pg 2000).data.toList.getD j 0=0):oT pg=[]:=by
 unfold oT;rw[List.filter_eq_nil_iff];intro k _ b;unfold jD at b;rw[h _ (by omega)]at b;simp at b
theorem EN{pg:Nat->ByteArray}(h:cJ pg 2000=e_):fc pg=[]:=IC (Ku fun j _=>by rw[h];exact ld j)
structure nO(w:az)(PB DB M n:Nat)(c:Ch)(sv:Head)(t:Int)(d:Dk):Prop where
 pg:∃n',n'<=n/\aK w PB DB M n' c.h sv c.F false t
 dk:jl w DB d
 YZ:PB≠DB
 Y6:M≠DB
def aY(PB DB M q:Nat)(w w':az):Prop:=(q=M\/w.heap.size<=q)/\ag (fun b=>b=PB\/b=DB\/b=M) w w'
theorem aY.refl(PB DB M:Nat)(w:az):aY PB DB M M w w:=⟨.inl rfl,ag.refl _ _⟩
theorem aY.trans{PB DB M H B:Nat}{w w' D:az}(h:aY PB DB M H w w')(k:aY PB DB H B w' D):aY PB DB M B w D:=by
 obtain⟨s,y⟩:=h;obtain⟨G,z⟩:=k;have hs:=y.2.2.2.1;refine⟨?_,z.1.trans y.1,z.2.1.trans y.2.1,z.2.2.1.trans y.2.2.1,bQ hs z.2.2.2.1,fun b I q=>?_⟩
 ·rcases G with rfl|G
  ·exact s
  exact .inr (bQ hs G)
 refine(z.2.2.2.2 b (Nat.lt_of_lt_of_le I hs) fun e=>?_).trans (y.2.2.2.2 b I q);rcases e with e|e|e
 ·exact q (.inl e)
 ·exact q (.inr (.inl e))
 rcases s with s|s
 ·exact q (.inr (.inr (e.trans s)))
 omega
theorem aY.ah(PB DB M:Nat){w w':az}(g:Gr w w'):aY PB DB M M w w':=⟨.inl rfl,ag.ah g⟩
theorem aY.keeps{PB DB M q:Nat}{w w':az}(h:aY PB DB M q w w'){b o:Nat}{v:aQ}(s:b≠PB)(y:b≠DB)(z:b≠M)(hc:w.cell? ⟨b,o,none⟩=some v):w'.cell? ⟨b,o,none⟩=some v:=
 h.2.keeps (fun e=>e.elim s fun e=>e.elim y z) hc
theorem aY.size{PB DB M b:Nat}{w w':az}(h:aY PB DB M b w w'):w.heap.size<=w'.heap.size:=h.2.2.2.2.1
theorem nO.gr{w w':az}{PB DB M n:Nat}{c:Ch}{sv:Head}{t:Int}{d:Dk}(h:nO w PB DB M n c sv t d)(g:Gr w w'):nO w' PB DB M n c sv t d:=by
 obtain⟨⟨b,q,s⟩,y,z,B⟩:=h;exact⟨⟨b,q,s.gr g⟩,y.gr g,z,B⟩
theorem nO.mono{w:az}{PB DB M n m:Nat}{c:Ch}{sv:Head}{t:Int}{d:Dk}(h:nO w PB DB M n c sv t d)(B:n<=m):nO w PB DB M m c sv t d:=by
 obtain⟨⟨b,D,q⟩,s,y,z⟩:=h;exact⟨⟨b,by omega,q⟩,s,y,z⟩
theorem nO.lt{w:az}{PB DB M n:Nat}{c:Ch}{sv:Head}{t:Int}{d:Dk}(h:nO w PB DB M n c sv t d):PB<w.heap.size/\DB<w.heap.size/\M<w.heap.size:=by
 obtain⟨⟨s,y,b⟩,q,z,B⟩:=h;exact⟨b.lt,q.lt,b.iH.lt⟩
theorem r_{PB DB M:Nat}{w w':az}(h:ag (fun b=>b=PB\/b=M) w w'):ag (fun b=>b=PB\/b=DB\/b=M) w w':=tQ h fun _ e=>e.elim .inl fun e=>.inr (.inr e)
def iX(c:Ch):aQ:=match cS c.h with|none=>.tuple #[.int .i64 0,.iface 24 (.int .i64 12)]|some k=>.tuple #[.int .i64 k,.nilIface]
theorem BS{PB DB M:Nat}{w w':az}{d:Dk}(h:jl w DB d)(q:PB≠DB)(s:M≠DB)(g:ag (fun b=>b=PB\/b=M) w w'):jl w' DB d:=h.ay g fun e=>e.elim (fun e=>q e.symm) fun e=>s e.symm
section
variable{w:az}{PB DB M n:Nat}{c:Ch}{sv:Head}{t:Int}{d:Dk}
theorem Tc(h:nO w PB DB M n c sv t d)(hn:n<1000000):bj prog 199 #[.pointer (some ⟨PB,0,none⟩)] w fun e b=>e=.returned (iX c)/\nO b PB DB M (n+1) c.alloc sv t d/\aY PB DB M M w b:=by
 obtain⟨⟨q,G,s⟩,B,y,z⟩:=h;unfold iX Ch.alloc;cases ha:cS c.h with
 |none=>
  refine(Cu PB DB M q c.h sv c.F t w s ha).mono ?_;rintro e b ⟨rfl,g⟩;exact⟨rfl,⟨⟨q,by omega,s.gr g⟩,B.gr g,y,z⟩,aY.ah _ _ _ g⟩
 |some k=>
  have D:k<2000:=bu.1 (List.mem_of_find?_eq_some ha);refine(Qo PB DB M q c.h sv c.F t (by omega) w s D ha).mono ?_;rintro e b ⟨rfl,p,g⟩;exact⟨rfl,⟨⟨q+1,by omega,p⟩,BS B y z g,y,z⟩,.inl rfl,r_ g⟩
def O_(b:Bool):aQ:=if b then .nilIface else .iface 24 (.int .i64 2)
theorem Vb(h:nO w PB DB M n c sv t d)(k:Int):bj prog 204 #[.pointer (some ⟨PB,0,none⟩),.int .i64 k] w fun e b=>e=.returned (O_ (eL c.h k))/\nO b PB DB M (n+1) (c.free k) sv t d/\aY PB DB M M w b:=by
 obtain⟨⟨q,D,s⟩,B,y,z⟩:=h;unfold Ch.free;cases hu:eL c.h k with
 |false=>
  refine(Iu PB DB M q c.h sv c.F false t k w s hu).mono ?_;rintro e b ⟨rfl,g⟩;exact⟨rfl,⟨⟨q,by omega,s.gr g⟩,B.gr g,y,z⟩,aY.ah _ _ _ g⟩
 |true=>
  obtain⟨m,rfl,G⟩:=im.1 hu;refine(SY PB DB M q c.h sv c.F t m w s hu).mono ?_;rintro e b ⟨rfl,p,g⟩;exact⟨rfl,⟨⟨q,by omega,p⟩,BS B y z g,y,z⟩,.inl rfl,r_ g⟩
theorem Td(h:nO w PB DB M n c sv t d)(hn:n<1000000)(k:Int)(s:ByteArray)(hs:s.size=1024):bj prog 251 #[.pointer (some ⟨PB,0,none⟩),.int .i64 k,.string s] w fun e b=>e=.returned (O_ (eL c.h k))/\nO b PB DB M (n+1) (c.write k s) sv t d/\aY PB DB M M w b:=by
 obtain⟨⟨q,G,y⟩,D,z,B⟩:=h;unfold Ch.write;cases hu:eL c.h k with
 |false=>
  refine(EI PB DB M q c.h sv c.F false t k s w y hu).mono ?_;rintro e b ⟨rfl,g⟩;exact⟨rfl,⟨⟨q,by omega,y.gr g⟩,D.gr g,z,B⟩,aY.ah _ _ _ g⟩
 |true=>
  refine(Qi PB DB M q c.h sv c.F t k s hs (by omega) w y hu).mono ?_;rintro e b ⟨rfl,p,g⟩;exact⟨rfl,⟨⟨q+1,by omega,p⟩,BS D z B g,z,B⟩,.inl rfl,r_ g⟩
theorem MT(h:nO w PB DB M n c sv t d)(i:Nat)(k m:Int)(hi:i<8)(z:0<=k/\k<2000)(B:0<=m/\m<65536):bj prog 202 #[.pointer (some ⟨PB,0,none⟩),.int .i64 i,.int .i64 k,.int .i64 m] w fun e b=>e=.returned .nilIface/\nO b PB DB M n ⟨c.h.ed i k m,c.F⟩ sv t d/\aY PB DB M M w b:=by
 obtain⟨⟨q,H,D⟩,G,s,y⟩:=h;refine(Kr PB DB M q c.h sv c.F t i k m hi z B w D).mono ?_;rintro e b ⟨rfl,p,g⟩;exact⟨rfl,⟨⟨q,by omega,p⟩,BS G s y g,s,y⟩,.inl rfl,r_ g⟩
theorem Vc(h:nO w PB DB M n c sv t d)(k:Int):bj prog 170 #[.pointer (some ⟨PB,0,none⟩),.int .i64 k] w (ar w (if eL c.h k then .tuple #[.string (fB d.pg c.F k.toNat),.nilIface]else .tuple #[.string ⟨#[]⟩,.iface 24 (.int .i64 2)])):=by
 obtain⟨⟨b,y,q⟩,s,z,B⟩:=h;cases hu:eL c.h k with
 |false=>exact It PB DB M b c.h sv c.F false t k w q hu
 |true=>
  obtain⟨m,rfl,D⟩:=im.1 hu;exact SX PB DB M b c.h sv c.F t d.pg d.cut d.left d.torn m w q s hu
theorem ID(h:nO w PB DB M n c sv t d)(k:Nat)(b:k<8):bj prog 83 #[.pointer (some ⟨PB,0,none⟩),.int .i64 k] w (ar w (.tuple #[.int .i64 (c.h.roots k),.int .i64 (c.h.notes k),.nilIface])):=by
 obtain⟨⟨q,y,s⟩,_⟩:=h;exact S7 PB DB M q c.h sv c.F false t k b w s
end
def wZ:Dk:=⟨fun _=>⟨#[]⟩,false,0,0⟩
def kP:Head:=⟨fun i=>i==0,fun _=>0,fun _=>0⟩
theorem uk:kP.aE:=⟨rfl,fun _ _=>⟨by show(0:Int)<=0;omega,by show(0:Int)<2000;omega⟩,fun _ _=>⟨by show(0:Int)<=0;omega,by show(0:Int)<65536;omega⟩⟩
theorem ss(k:Nat):cJ wZ.pg k=e_:=by
 unfold cJ;rw[if_pos];rw[aS]
 rfl
theorem AI:headD wZ.pg=kP:=by
 unfold headD;rw[ss];unfold nY kP eX
 congr 1
 ·funext i
  rw[ld];simp
 ·funext i
  rw[ld,ld]
  rfl
 funext i
 rw[ld,ld]
 rfl
structure Clean(d:Dk)(sv:Head):Prop where
 whole:d.whole
 log:cJ d.pg 2000=e_
 head:(headD d.pg).same sv
 aE:sv.aE
theorem Vo:Clean wZ kP:=⟨fun k _=>by rw[ss];exact oS,ss _,by rw[AI];exact Head.same.refl _,uk⟩
theorem Clean.kK{d:Dk}{b:Head}(h:Clean d b):kK d.pg=[]:=by
 unfold Go.Proofs.YtldmhjbdahjhdaaGreatDoor.kK;rw[if_pos (EN h.log)]
theorem Np:bC=Array.replicate 4001 (.string ⟨#[]⟩)++#[.bool false,.int .i64 0,.int .i64 0]:=by kernel_rfl
theorem Nq(w:az):jl (w.alloc (.cells bC 89)) w.heap.size wZ:=by
 rw[Np];refine⟨fun k b=>?_,?_,?_,?_,fun o=>by simp⟩
 ·rw[ap,Array.getElem?_append_left (by simpa using b)];simp[b,wZ]
 all_goals
  rw[ap,Array.getElem?_append_right (by simp)];simp[wZ]
theorem Vp(DB:Nat)(d:Dk)(B:Head)(w:az)(hd:jl w DB d)(hc:Clean d B)(D:-890000<=d.left/\d.left<=1000000):
  bj prog 35 #[.pointer (some ⟨DB,0,none⟩)] w fun e y=>∃q M,e=.returned (.tuple #[.pointer (some ⟨q,0,none⟩),.nilIface])/\nO y q DB M 0 (.new (headD d.pg)) (headD d.pg) 0 d/\w.heap.size<=q/\w.heap.size<=M/\ag (fun b=>b=DB) w y:=by
 have L:=hd.lt;refine(Va DB d w hd hc.whole D).mono ?_;rintro e y ⟨z,G,s⟩;rw[hc.kK]at z s;rw[yW]at z s;rw[if_pos rfl]at s;obtain⟨q,M,rfl,H,I,J⟩:=s;exact⟨q,M,rfl,⟨⟨0,bF _,H⟩,z,by omega,by omega⟩,I,J,G⟩
