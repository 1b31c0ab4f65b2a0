/-
  Part 6 of the proof.
-/
import Derived.Test.YtldmhjbdahjhdaaGreatDoorZb5
open Go.Lib renaming hid->agI,byteCells_length->agR,byteCells->agS,cell_of_heap->agY,BuilderAt->ahd,byteCells_append->ahl,frozen_of_heap->ahs
open List renaming mem_flatMap->agJ,mem_cons_of_mem->agK,length_append->agL,mem_cons->agN,mem_cons_self->agO,mem_append_right->agP,mem_append->agQ,mem_append_left->agT,flatMap_append->agU,mem_of_mem_take->agV,map_append->agW,mem_singleton->agX,replicate->agZ,nodup_append->ag0,mem_of_mem_drop->ag2,cons_append->ag4,nodup_cons->ag5,append_assoc->ag6,length_cons->ag8,length_nil->ag_,flatMap_cons->ahc,insertIdx_succ_cons->ahf,map_cons->ahg,length_take->ahh,append_eq_nil_iff->ahj,length_replicate->ahk,length->ahm,mem_map_of_mem->ahn,map_take->aho,map_drop->ahp,set_cons_succ->ahu,getElem_mem->ahz,take_length->ahA,length_map->ahF
open Go.World renaming cell?_alloc_new->agM,cell?_setCell_same->ahe
open Array renaming getElem?_eq_some_iff->ag1
open Go.Proofs.Tryz renaming prog->ag3,underlying272->ahb,underlying252->ahq,underlying188->ahr,results247->ahD,ntmps247->ahG,ntmps252->ahH,func247->ahJ,func252->ahK
open Go.IntKind renaming u8->ag7,wrap_i64->ahB,i64->ahM
open Prod renaming fst->ag9,snd->ahx
open Nat renaming le_trans->aha,zero_le->ahL
open Go.RowKit renaming intOf->ahi
open Go.RowKit.Below renaming heap_setCell->aht,heap_alloc->ahy,trans->ahC,refl->ahN
open Go.Lib.BuilderAt renaming put->ahv
open Go.Lib.IsBuilderF renaming of->ahw
open Option.some renaming inj->ahE
open Go.Extern.AbiNoEscape renaming same->ahI
set_option maxRecDepth 100000
set_option maxHeartbeats 100000000
set_option linter.all false
namespace Go.Proofs.YtldmhjbdahjhdaaGreatDoor
section
open Go Go.RowKit
def wJ(b k:Nat)(w:World):Prop:=∀v,w.cell? ⟨b,1,none⟩=some v->v.ownBlock≠some k
def xV(b:Nat)(w w':World):Prop:=w.heap.size<=w'.heap.size/\∀k,k<w.heap.size->k≠b->wJ b k w->w'.heap[k]?=w.heap[k]?/\wJ b k w'
theorem xV.keeps{b k o:Nat}{w w':World}{u:Value}(h:xV b w w')(q:k≠b)(hn:wJ b k w)(hc:w.cell? ⟨k,o,none⟩=some u):w'.cell? ⟨k,o,none⟩=some u:=
 (World.cell?_of_block (h.2 k (ad hc) q hn).1).trans hc
theorem zc{B b:Nat}{l:List UInt8}{w:World}(h:l_ B b l w)(o:Obj):wJ b w.heap.size (w.alloc o):=by
 intro v hv e;have q:∀p,ahd 274 5 B b p (agS l) w->False:=fun p y=>by
  obtain⟨_,u,s,z,_⟩:=y;have H:b<w.heap.size:=(ag1.1 s).1;have D:w.cell? ⟨b,1,none⟩=some u:=by rw[agY s];rfl
  have G:(w.alloc o).cell? ⟨b,1,none⟩=some u:=((Gr.refl w).alloc o).keeps D;rw[G]at hv;injection hv with hv
  rw[<-hv]at e;have:=(z.lt _ e).2;omega
 rcases h with h|h
 ·exact q _ h
 ·exact q _ h
def Q9(w:World)(g:Nat)(l:List UInt8):Prop:=∀j (h:j<l.length),w.cell? ⟨g,j,none⟩=some (lk l[j])
theorem wK(B b:Nat)(y:List Value)(w:World)(h:Lib.IsBuilder 274 5 B b y w):
  Calls ag3 247 #[.pointer (some ⟨b,0,none⟩)] w fun e w'=>e=.returned (.tuple #[])/\ahd 274 5 B b (.pointer (some ⟨b,0,none⟩)) y w'/\Below B w w'/\ag (fun k=>k=b) w w'/\w'.cell? ⟨b,1,none⟩=w.cell? ⟨b,1,none⟩:=by
 obtain⟨j,q,s⟩:=Option.map_eq_some_iff.1 Ea;rcases h with h|h
 ·have z:=h.cell0;have hf:=h.frozen0;have hu:=Lib.run_to_unsafe (P:=ag3) (w:=w) ⟨b,0,none⟩ ahb ahq q (by rw[s];decide) h.shape (Nat.zero_lt_succ 1);have hv:=Lib.run_from_unsafe (P:=ag3) (w:=w) ⟨b,0,none⟩ ahq ahb q h.shape Eb;have H:=agI h;clear h;go_enter ahJ,ahG;go_wp2_with fail
  rw[run_callFunc_extern Tryz.func286 (by kernel_rfl) (by kernel_rfl) (by kernel_rfl) (e:=ahI) (by kernel_rfl),Lib.run_noEscape];simp only[Result.andThen];rw[Oper.upon_value];go_wp2_with fail
  refine bodyPost_end (v:=.tuple #[]) (by simp[results,ahD,go_sem]) rfl ?_;exact⟨rfl,H.out.used _,(ahN B w).setCell (p:=⟨b,0,none⟩) H.out.1 _,ag.setCell (S:=fun k=>k=b) (p:=⟨b,0,none⟩) w _ rfl,World.cell?_setCell_other _ _ _ _ (by simp)⟩
 ·have z:=h.cell0;have hn:=Lib.run_neq_ptr_same (P:=ag3) (w:=w) ⟨b,0,none⟩ ahb q;have H:=agI h;clear h;go_enter ahJ,ahG;go_wp2_with fail
  refine bodyPost_end (v:=.tuple #[]) (by simp[results,ahD,go_sem]) rfl ?_;exact⟨rfl,H.out,ahN B _,ag.refl _ _,rfl⟩
theorem Bq(B b g c:Nat)(l m:List UInt8)(w:World)(h:l_ B b l w)(hl:l.length+m.length<=1000000)(hB:B<=w.heap.size)(hm:Q9 w g m)(a4:g≠b):
  Calls ag3 288 #[.pointer (some ⟨b,0,none⟩),.slice (some ⟨g,0,none⟩) m.length c] w fun e w'=>e=.returned (.tuple #[.int .i64 m.length,.nilIface])/\l_ B b (l++m) w'/\Below B w w'/\xV b w w':=by
 obtain⟨i0,hi,a5,a6,a7⟩:=info_parts tQ;have H:=agI h;have HM:=agI hm;clear h hm;obtain⟨n,hn⟩:∃n,m.length=n:=⟨_,rfl⟩;rw[hn];have HN:=agI hn;rw[hn]at hl;clear hn;go_enter Tryz.func288,Tryz.ntmps288;go_wp2_with fail
 refine(wK B b _ w H.out).mono ?_;rintro e w1 ⟨rfl,h1,Q,L,S⟩;have U:=agI S;clear S;have H1:=agI h1;obtain⟨V,v,D,z,a8⟩:=h1;have b8:(agS l).length=l.length:=agR l;have a9:(agS m).length=n:=by rw[agR,HN.out]
 have c0:w1.cell? ⟨b,0,none⟩=some (.pointer (some ⟨b,0,none⟩)):=by rw[agY D];rfl
 have c1:w1.cell? ⟨b,1,none⟩=some v:=by rw[agY D];rfl
 have c8:=Q.size;have a1:∀j u,(agS m)[j]?=some u->w1.cell? ((⟨g,0,none⟩:Addr).add j)=some u:=by
  intro j u hj;have Y:j<m.length:=by
   have:=(List.getElem?_eq_some_iff.1 hj).1;rwa [agR]at this
  rw[Addr.add_lit,Nat.zero_add,L.keeps a4 (HM.out j Y),<-hj];simp[agS,lk,Y]
 go_wp2_with(at_builtin;refine wpList_append_own_at _ rfl _ _ 188 rfl B 5 i0 (.int .u8 0) 1 1 ahr hi a5 a6 a7 rfl (by decide) _ _ _ rfl z ⟨g,0,none⟩ n c (agS m) rfl (by rw[a9,Nat.mul_one]) a1 (fun u hu=>by simp[agS]at hu;obtain⟨x,_,rfl⟩:=hu;rfl) (by unfold maxLen;omega) (by omega) (by omega) ?_)
 intro O G s q _ Z;have y:=wE D q rfl a8;have d0:G.cell? ⟨b,0,none⟩=some (.pointer (some ⟨b,0,none⟩)):=by rw[agY y];rfl
 have d1:G.cell? ⟨b,1,none⟩=some v:=by rw[agY y];rfl
 have f1:G.frozen? ⟨b,1,none⟩=false:=ahs y 1;have I:ahd 274 5 B b (.pointer (some ⟨b,0,none⟩)) (agS (l++m)) (G.setCell ⟨b,1,none⟩ O):=by
  refine ahv V y ?_ Ao;rw[ahl,agL,agR m,agR l,HN.out];exact s
 have J:=(Q.grown q (by omega) (fun k hk=>(z.lt k hk).1)).setCell (p:=⟨b,1,none⟩) V O;have a0:xV b w (G.setCell ⟨b,1,none⟩ O):=by
  have c9:=L.2.2.2.1;have d2:=q.size;refine⟨by simp;omega,fun k hk hb hn=>⟨?_,fun u hu e=>?_⟩⟩
  ·have e1:(G.setCell ⟨b,1,none⟩ O).heap[k]?=G.heap[k]?:=aht _ _ _ _ (fun e=>hb e);have M:v.ownBlock≠some k:=hn v (U.out.symm.trans c1);exact e1.trans ((q.block k (by omega) (fun e=>M e.symm)).trans (L.block hk hb))
  ·rw[ahe _ _ _ d1]at hu;injection hu with hu
   rw[<-hu]at e;have M:v.ownBlock≠some k:=hn v (U.out.symm.trans c1);rcases Z with h|h
   ·rw[h]at e;exact M e
   ·rw[h]at e;have:=ahE e;omega
 have HP:=agI I;have HB:=agI J;have b0:=agI a0;clear I J a0;obtain⟨ao,n',cap,rfl⟩:∃ao n' cap,O=.slice ao n' cap:=by
  rcases s.2 with⟨hv,_⟩|⟨g,cap,d3,hv,_⟩
  ·exact⟨_,_,_,hv⟩
  ·exact⟨_,_,_,hv⟩
 clear z s q y D Z;go_wp2_with fail
 go_ret2;exact⟨rfl,.inr HP.out,HB.out,b0.out⟩
theorem rl(B b:Nat)(l:List UInt8)(c:UInt8)(w:World)(h:l_ B b l w)(hl:l.length+1<=1000000)(hB:B<=w.heap.size):
  Calls ag3 244 #[.pointer (some ⟨b,0,none⟩),.int .u8 (c.toNat:Int)] w fun e w'=>e=.returned .nilIface/\l_ B b (l++[c]) w'/\Below B w w'/\xV b w w':=by
 obtain⟨i0,hi,a5,a6,a7⟩:=info_parts tQ;have H:=agI h;clear h;generalize hq:((c.toNat:Nat):Int)=q;have HQ:=agI hq;clear hq;go_enter Tryz.func244,Tryz.ntmps244;go_wp2_with fail
 refine(wK B b _ w H.out).mono ?_;rintro e I ⟨rfl,h1,S,U,V⟩;have Y:=agI V;clear V;have H1:=agI h1;obtain⟨Z,v,z,G,a8⟩:=h1;have b7:(agS l).length=l.length:=agR l;have c0:I.cell? ⟨b,0,none⟩=some (.pointer (some ⟨b,0,none⟩)):=by rw[agY z];rfl
 have c1:I.cell? ⟨b,1,none⟩=some v:=by rw[agY z];rfl
 have c6:=S.size;have a3:∀j u,([Value.int .u8 q])[j]?=some u->(I.alloc (.cells #[.int .u8 q] 5)).cell? ((⟨I.heap.size,0,none⟩:Addr).add j)=some u:=by
  intro j u hj
  match j,hj with
  |0,hj=>simp at hj;subst hj;simp[Addr.add]
 go_wp2_with(at_builtin;refine wpList_append_own_at _ rfl _ _ 188 rfl B 5 i0 (.int .u8 0) 1 1 ahr hi a5 a6 a7 rfl (by decide) _ _ _ rfl (G.alloc _) ⟨I.heap.size,0,none⟩ 1 1 [.int .u8 q] rfl rfl a3 (by intro u hu;simp at hu;subst hu;rfl) (by unfold maxLen;omega) (by omega) (by simp;omega) ?_)
 intro Q J y s _ a1;have D:=wE (v:=v) ((ahy I (.cells #[.int .u8 q] 5) b (ag1.1 z).1).trans z) s rfl a8;have d0:J.cell? ⟨b,0,none⟩=some (.pointer (some ⟨b,0,none⟩)):=by rw[agY D];rfl
 have d1:J.cell? ⟨b,1,none⟩=some v:=by rw[agY D];rfl
 have f1:J.frozen? ⟨b,1,none⟩=false:=ahs D 1;have L:ahd 274 5 B b (.pointer (some ⟨b,0,none⟩)) (agS (l++[c])) (J.setCell ⟨b,1,none⟩ Q):=by
  refine ahv Z D ?_ Ao;rw[ahl,agL,agR [c]];have e:agS [c]=[.int .u8 q]:=by
   rw[<-HQ.out]
   rfl
  rw[e,agR l];exact y
 have M:=((S.alloc (by omega) (.cells #[.int .u8 q] 5)).grown s (by simp;omega) (fun k hk=>(G.lt k hk).1)).setCell (p:=⟨b,1,none⟩) Z Q;have a2:xV b w (J.setCell ⟨b,1,none⟩ Q):=by
  have c7:=U.2.2.2.1;have a9:=s.size;simp only[World.size_alloc]at a9;refine⟨by simp;omega,fun k hk hb hn=>⟨?_,fun u hu e=>?_⟩⟩
  ·have e1:(J.setCell ⟨b,1,none⟩ Q).heap[k]?=J.heap[k]?:=aht _ _ _ _ (fun e=>hb e);have O:v.ownBlock≠some k:=hn v (Y.out.symm.trans c1);have e2:=s.block k (by simp;omega) (fun e=>O e.symm);exact e1.trans (e2.trans ((ahy I _ k (by omega)).trans (U.block hk hb)))
  ·rw[ahe _ _ _ d1]at hu;injection hu with hu
   rw[<-hu]at e;have O:v.ownBlock≠some k:=hn v (Y.out.symm.trans c1);rcases a1 with h|h
   ·rw[h]at e;exact O e
   ·rw[h]at e;have:=ahE e
    first|omega|(simp at this;omega)
 have HP:=agI L;have HB:=agI M;have b0:=agI a2;clear L M a2;obtain⟨ao,n',cap,rfl⟩:∃ao n' cap,Q=.slice ao n' cap:=by
  rcases y.2 with⟨hv,_⟩|⟨g,cap,c8,hv,_⟩
  ·exact⟨_,_,_,hv⟩
  ·exact⟨_,_,_,hv⟩
 clear G y s D z a1;go_wp2_with fail
 go_ret;exact⟨rfl,.inr HP.out,HB.out,b0.out⟩
theorem zd(leaf:Bool)(l:List En)(i:Nat)(h:i<l.length):ed leaf (l.take (i+1))=ed leaf (l.take i)++(l[i]).xS leaf:=by
 unfold ed;rw[List.take_succ_eq_append_getElem h,agU];simp
def mJ(leaf:Bool):UInt8:=if leaf then 1 else 2
def eV(leaf:Bool)(n:Nat):List UInt8:=mJ leaf::fC (n:Int)
theorem om(n:Nat):((n.toUInt8.toNat:Nat):Int)=(n:Int) % 256:=by
 simp
theorem tR(n:Nat)(h:n<65536):fC (n:Int)=[(n/256).toUInt8,n.toUInt8]:=by
 unfold fC;have b:(((n:Int)/256) % 256).toNat=n/256:=by omega
 have q:((n:Int) % 256).toNat=n % 256:=by omega
 rw[b,q]
 congr 2
 apply UInt8.toNat_inj.1;simp
theorem Ap{B b:Nat}{l:List UInt8}{w:World}(h:l_ B b l w):b<w.heap.size:=by
 rcases h with⟨_,_,q,_⟩|⟨_,_,q,_⟩
 ·exact(ag1.1 q).1
 ·exact(ag1.1 q).1
theorem km{b W q:World}{B:Nat}(h:Gr b W)(s:b.heap.size=B)(k:Below B W q):Gr b q:=by
 subst s;exact ahC h k
theorem I5(s t:ByteArray)(h:s.size+t.size<=100000000000):∀w,(Op.stringOp .add s t).run ag3 w=.ok (.string ⟨(s.data.toList++t.data.toList).toArray⟩) w:=fun w=>by
 have b:s=⟨s.data.toList.toArray⟩:=bz (by simp);have q:t=⟨t.data.toList.toArray⟩:=bz (by simp);have:=lu s.data.toList t.data.toList (by rw[<-size_data,<-size_data];exact h) w;rw[<-b,<-q]at this;exact this
theorem Te(p:Nat)(leaf:Bool)(l:List En)(s:Value)(w:World)(h:oi w s l)(k8:∀e∈l,e.ok leaf)(hb:ah leaf l<=1024):
  Calls ag3 252 #[aU p leaf s] w (ar w (.string (au leaf l))):=by
 have H:=agI h;have a6:=agI k8;obtain⟨ao,ca,rfl⟩:=h.form;have h0:=dC leaf l;have hl:l.length<=600:=by unfold ah at hb;omega
 unfold aU;have k9:Gr w (w.alloc (.cells #[.int .i64 (p:Int),.bool leaf,.slice ao l.length ca] 200)):=(Gr.refl w).alloc _;have c0:∀w',Gr (w.alloc (.cells #[.int .i64 (p:Int),.bool leaf,.slice ao l.length ca] 200)) w'->w'.cell? ⟨w.heap.size,1,none⟩=some (.bool leaf)/\w'.cell? ⟨w.heap.size,2,none⟩=some (.slice ao l.length ca):=fun w' g=>⟨g.keeps (by rw[agM];rfl),g.keeps (by rw[agM];rfl)⟩;have M:(w.alloc (.cells #[.int .i64 (p:Int),.bool leaf,.slice ao l.length ca] 200)).heap.size=w.heap.size+1:=by simp
 have C0:=agI c0;have h3:=agI k9;have a4:=l_.new (w.alloc (.cells #[.int .i64 (p:Int),.bool leaf,.slice ao l.length ca] 200));have z:=(Gr.refl (w.alloc (.cells #[.int .i64 (p:Int),.bool leaf,.slice ao l.length ca] 200))).alloc (.cells #[.pointer none,.slice none 0 0] 274);rw[M]at a4;have h4:=agI a4;have l0:=agI z;obtain⟨b1,b2⟩:=c0 _ z;clear h k8 a4 z c0 k9;have HH:Hid (eV leaf l.length=[mJ leaf,(l.length/256).toUInt8,l.length.toUInt8]):=agI (by unfold eV;rw[tR _ (by omega)]);have n7:ag7.wrap ((l.length:Int)/256)=(((l.length/256).toUInt8.toNat:Nat):Int):=by
  rw[om];show(l.length:Int)/256 % 256=_;omega
 have n8:ag7.wrap (l.length:Int)=((l.length.toUInt8.toNat:Nat):Int):=(om _).symm;generalize(l.length/256).toUInt8=c1 at*;generalize l.length.toUInt8=c2 at*;cases leaf with
 |true=>
  have d0:=fun W=>Bq (w.heap.size+1) (w.heap.size+1) (w.heap.size+1+1) 3 [] [1,c1,c2] W;go_enter ahK,ahH;go_wp2_with fail
  refine(d0 _ (h4.out.gr ((Gr.refl _).alloc _)) (by simp) (by simp) (fun j hj=>by
   have e1:w.heap.size+1+1=((w.alloc (.cells #[.int .i64 (p:Int),.bool true,.slice ao l.length ca] 200)).alloc (.cells #[.pointer none,.slice none 0 0] 274)).heap.size:=by simp
   rw[e1,agM]
   match j,hj with
   |0,_=>rfl
   |1,_=>rfl
   |2,_=>rfl) (by omega)).mono ?_
  rintro e w1 ⟨rfl,S,I,_⟩;have S:l_ (w.heap.size+1) (w.heap.size+1) (eV true l.length++ed true (l.take 0)) w1:=by
   rw[HH.out];exact S
  have a0:Gr (w.alloc (.cells #[.int .i64 (p:Int),.bool true,.slice ao l.length ca] 200)) w1:=by
   rw[<-M]at I;exact ahC (l0.out.alloc _) I
  clear d0 I;generalize w.alloc (.cells #[.int .i64 (p:Int),.bool true,.slice ao l.length ca] 200)=A0 at*;obtain⟨B,hB⟩:∃B,w.heap.size+1=B:=⟨_,rfl⟩;obtain⟨NB,d4⟩:∃NB,w.heap.size=NB:=⟨_,rfl⟩;rw[hB]at S M h4⊢;rw[d4]at C0⊢;have m6:=agI hB;clear hB d4 b1 b2;obtain⟨b1,b2⟩:=C0.out _ a0;have b5:=agI S;have i2:=agI a0;have U:=agI M;clear S a0 M;go_wp2_with fail
  go_loopw [24] (fun iv w'=>∃i:Nat,i<=l.length/\iv=.int .i64 i/\l_ B B (eV true l.length++ed true (l.take i)) w'/\Gr A0 w') (fun iv _=>l.length-(ahi iv).toNat)
  case atStart=>exact⟨0,ahL _,rfl,b5.out,i2.out⟩
  case round=>
   obtain⟨i,hi,rfl,a4,z⟩:=hrel;obtain⟨b1,b2⟩:=C0.out _ z;have D:=agI a4;have a8:=agI z;have d5:Hid (B<=wr.heap.size):=agI (by have:=z.size;rw[U.out]at this;exact this);clear a4;by_cases V:i<l.length
   ·obtain⟨b,Y,rfl,hb,hp⟩:∃b Y,ao=some ⟨b,Y,none⟩/\b<w.heap.size/\eh w b Y l:=by
     rcases H.out with⟨_,e2⟩|⟨b,Y,c,e,hb,hp⟩
     ·rw[e2]at V;exact absurd V (by simp)
     ·cases e;exact⟨b,Y,rfl,hb,hp⟩
    have m7:(i:Int)<(l.length:Int):=by omega
    obtain⟨d1,d2,d3⟩:=(hp.gr (h3.out.trans z)) i V;have a1:=a6.out l[i] (ahz V);have i3:Hid (eV true l.length++ed true (l.take (i+1))=(eV true l.length++ed true (l.take i))++(l[i]).xS true):=agI (by rw[zd true l i V,ag6]);have d7:(eV true l.length++ed true (l.take i)).length<=98000:=by
     rw[agL,j_ (fun e he=>a6.out e (agV he))];have h1:=qo true (l.take i) fun e he=>a6.out e (agV he);rw[ahh]at h1;have h2:(eV true l.length).length=3:=rfl;omega
    have g3:=a1.key;have g4:=a1.item;have g5:=a1.b_;generalize l[i]=en at*;obtain⟨y,it,q⟩:=en;simp only at d1 d2 d3 g3 g4 g5;generalize eV true l.length++ed true (l.take i)=acc at*;have O:Gr wr (wr.alloc (.cells #[.string y,.string it,.int .i64 (q:Int)] 206)):=(Gr.refl wr).alloc _;have k0:(wr.alloc (.cells #[.string y,.string it,.int .i64 (q:Int)] 206)).cell? ⟨wr.heap.size,0,none⟩=some (.string y):=by rw[agM];rfl
    have k1:(wr.alloc (.cells #[.string y,.string it,.int .i64 (q:Int)] 206)).cell? ⟨wr.heap.size,1,none⟩=some (.string it):=by rw[agM];rfl
    have k2:(wr.alloc (.cells #[.string y,.string it,.int .i64 (q:Int)] 206)).cell? ⟨wr.heap.size,2,none⟩=some (.int .i64 (q:Int)):=by rw[agM];rfl
    have bn:=zc D.out (.cells #[.string y,.string it,.int .i64 (q:Int)] 206);have Q:wr.heap.size≠B:=by have:=Ap D.out;omega
    have i4:=O.keeps b1;have i5:=O.keeps b2;have b5:=agI (D.out.gr O);have i6:=agI (a8.out.trans O);have a9:Hid (B<=(wr.alloc (.cells #[.string y,.string it,.int .i64 (q:Int)] 206)).heap.size):=agI (by have:=O.size;have:=d5.out;omega);have BN:=agI bn;have l2:=I5 y it (by omega);have b6:=fun(a:List UInt8) (W:World)=>nZ B B a ⟨(y.data.toList++it.data.toList).toArray⟩ W;have i7:(⟨(y.data.toList++it.data.toList).toArray⟩:ByteArray).size=y.size+it.size:=by rw[kF,agL,<-size_data,<-size_data]
    have d8:(⟨(y.data.toList++it.data.toList).toArray⟩:ByteArray).data.toList=y.data.toList++it.data.toList:=by simp
    rw[d8]at b6;have m8:ag7.wrap (y.size:Int)=((y.size.toUInt8.toNat:Nat):Int):=(om _).symm;have n9:ag7.wrap (it.size:Int)=((it.size.toUInt8.toNat:Nat):Int):=(om _).symm;have i9:Hid (En.xS ⟨y,it,q⟩ true=[y.size.toUInt8]++([it.size.toUInt8]++(y.data.toList++it.data.toList))):=agI rfl;generalize y.size.toUInt8=q1 at*;generalize it.size.toUInt8=q2 at*;generalize y.data.toList++it.data.toList=kt at*;generalize(⟨kt.toArray⟩:ByteArray)=ks at*;clear hp bn z O d8;go_wp2_with fail
    refine(rl B B acc q1 _ b5.out (by omega) a9.out).mono ?_;rintro e w2 ⟨rfl,d9,J,G⟩;have m1:=G.keeps Q BN.out k1;have m0:=G.keeps Q BN.out k0;have h5:=agI (G.2 _ (ad k0) Q BN.out).2;have a5:=agI (km i6.out U.out J);have e0:=agI d9;have b0:Hid (B<=w2.heap.size):=agI (aha a9.out J.size);obtain⟨b1,b2⟩:=C0.out _ a5.out;clear d9 J G k0 k1 k2 i4 i5;have h0:(acc++[q1]).length+1<=1000000:=by rw[agL];simp;omega
    go_wp2_with fail
    refine(rl B B _ q2 _ e0.out h0 b0.out).mono ?_;rintro e w3 ⟨rfl,e3,L,a2⟩;have n1:=a2.keeps Q h5.out m1;have n0:=a2.keeps Q h5.out m0;have e4:=agI (km a5.out U.out L);have j0:=agI e3;have g6:Hid (B<=w3.heap.size):=agI (aha b0.out L.size);obtain⟨b1,b2⟩:=C0.out _ e4.out;clear e3 L a2 m0 m1;have j1:(acc++[q1]++[q2]).length+ks.size<=1000000:=by rw[agL,agL,i7];simp;omega
    go_wp2_with fail
    refine(b6 _ _ j0.out j1 g6.out).mono ?_;rintro e w4 ⟨rfl,e5,a3⟩;have b7:=agI (km e4.out U.out a3);have j2:Hid (l_ B B (eV true l.length++ed true (l.take (i+1))) w4):=agI (by
     rw[i3.out,i9.out];simpa[ag6]using e5)
    clear e5 a3 b6;go_wp2_with fail
    exact⟨⟨i+1,by omega,by go_num,j2.out,b7.out⟩,by simp[ahi];omega⟩
   ·have j3:i=l.length:=by omega
    subst j3;rw[ahA]at D;have d7:=j_ (leaf:=true) (l:=l) a6.out;have b8:(eV true l.length++ed true l).length=ah true l:=by
     rw[agL,d7]
     rfl
    have e6:Hid (au true l=⟨((eV true l.length++ed true l)++agZ (1024-ah true l) 0).toArray⟩):=agI (by
     unfold au Ee eV mJ;simp)
    generalize eV true l.length++ed true l=tx at*;obtain⟨Z,hZ⟩:∃Z,ah true l=Z:=⟨_,rfl⟩;rw[hZ]at b8 hb e6;have j4:(agS tx).length=Z:=by rw[agR,b8]
    have e7:=Tryz.Builder_String_any_f B B tx wr (ahw D.out) d5.out;have b9:=fun W h=>Tryz.Builder_Len_f B B (agS tx) W h;rw[j4]at b9;have e8:∀W,Calls ag3 139 #[.string ⟨#[0]⟩,.int .i64 (1024-(Z:Int))] W (ar W (.string ⟨(agZ (1024-Z) (0:UInt8)).toArray⟩)):=fun W=>by
     have:=tO ⟨#[0]⟩ (1024-Z) W (by omega) (show 1<=100000 by omega);rw[show((1024-Z:Nat):Int)=1024-(Z:Int)by omega]at this;rw[<-gg];exact this
    have l3:=lu tx (agZ (1024-Z) (0:UInt8)) (by rw[b8,ahk];omega);have m9:ahM.wrap (1024-(Z:Int))=1024-(Z:Int):=by rw[ahB];omega
    generalize(⟨(agZ (1024-Z) (0:UInt8)).toArray⟩:ByteArray)=zs at*;generalize(⟨(tx++agZ (1024-Z) (0:UInt8)).toArray⟩:ByteArray)=res at*;generalize(⟨tx.toArray⟩:ByteArray)=ts at*;clear z hZ;go_wp2_with fail
    refine e7.mono ?_;rintro e w2 ⟨rfl,e9,b4⟩;have a5:=agI (km a8.out U.out b4);clear b4 e7;go_wp2_with fail
    refine(b9 w2 e9).mono ?_;rintro e w3 ⟨rfl,rfl⟩;clear e9 b9;go_wp2_with fail
    refine(e8 w3).mono ?_;rintro e w4 ⟨rfl,g0⟩;have b7:=agI ((h3.out.trans a5.out).trans g0);clear g0 e8;go_wp2_with fail
    go_ret;exact ar.mk (by rw[e6.out];rfl) b7.out
 |false=>
  have d0:=fun W=>Bq (w.heap.size+1) (w.heap.size+1) (w.heap.size+1+1) 3 [] [2,c1,c2] W;go_enter ahK,ahH;go_wp2_with fail
  refine(d0 _ (h4.out.gr ((Gr.refl _).alloc _)) (by simp) (by simp) (fun j hj=>by
   have e1:w.heap.size+1+1=((w.alloc (.cells #[.int .i64 (p:Int),.bool false,.slice ao l.length ca] 200)).alloc (.cells #[.pointer none,.slice none 0 0] 274)).heap.size:=by simp
   rw[e1,agM]
   match j,hj with
   |0,_=>rfl
   |1,_=>rfl
   |2,_=>rfl) (by omega)).mono ?_
  rintro e w1 ⟨rfl,S,I,_⟩;have S:l_ (w.heap.size+1) (w.heap.size+1) (eV false l.length++ed false (l.take 0)) w1:=by
   rw[HH.out];exact S
  have a0:Gr (w.alloc (.cells #[.int .i64 (p:Int),.bool false,.slice ao l.length ca] 200)) w1:=by
   rw[<-M]at I;exact ahC (l0.out.alloc _) I
  clear d0 I;generalize w.alloc (.cells #[.int .i64 (p:Int),.bool false,.slice ao l.length ca] 200)=A0 at*;obtain⟨B,hB⟩:∃B,w.heap.size+1=B:=⟨_,rfl⟩;obtain⟨NB,d4⟩:∃NB,w.heap.size=NB:=⟨_,rfl⟩;rw[hB]at S M h4⊢;rw[d4]at C0⊢;have m6:=agI hB;clear hB d4 b1 b2;obtain⟨b1,b2⟩:=C0.out _ a0;have b5:=agI S;have i2:=agI a0;have U:=agI M;clear S a0 M;go_wp2_with fail
  go_loopw [24] (fun iv w'=>∃i:Nat,i<=l.length/\iv=.int .i64 i/\l_ B B (eV false l.length++ed false (l.take i)) w'/\Gr A0 w') (fun iv _=>l.length-(ahi iv).toNat)
  case atStart=>exact⟨0,ahL _,rfl,b5.out,i2.out⟩
  case round=>
   obtain⟨i,hi,rfl,a4,z⟩:=hrel;obtain⟨b1,b2⟩:=C0.out _ z;have D:=agI a4;have a8:=agI z;have d5:Hid (B<=wr.heap.size):=agI (by have:=z.size;rw[U.out]at this;exact this);clear a4;by_cases V:i<l.length
   ·obtain⟨b,Y,rfl,hb,hp⟩:∃b Y,ao=some ⟨b,Y,none⟩/\b<w.heap.size/\eh w b Y l:=by
     rcases H.out with⟨_,e2⟩|⟨b,Y,c,e,hb,hp⟩
     ·rw[e2]at V;exact absurd V (by simp)
     ·cases e;exact⟨b,Y,rfl,hb,hp⟩
    have m7:(i:Int)<(l.length:Int):=by omega
    obtain⟨d1,d2,d3⟩:=(hp.gr (h3.out.trans z)) i V;have a1:=a6.out l[i] (ahz V);have i3:Hid (eV false l.length++ed false (l.take (i+1))=(eV false l.length++ed false (l.take i))++(l[i]).xS false):=agI (by rw[zd false l i V,ag6]);have d7:(eV false l.length++ed false (l.take i)).length<=98000:=by
     rw[agL,j_ (fun e he=>a6.out e (agV he))];have h1:=qo false (l.take i) fun e he=>a6.out e (agV he);rw[ahh]at h1;have h2:(eV false l.length).length=3:=rfl;omega
    have g3:=a1.key;have g4:=a1.item;have g5:=a1.b_;generalize l[i]=en at*;obtain⟨y,it,q⟩:=en;simp only at d1 d2 d3 g3 g4 g5;generalize eV false l.length++ed false (l.take i)=acc at*;have O:Gr wr (wr.alloc (.cells #[.string y,.string it,.int .i64 (q:Int)] 206)):=(Gr.refl wr).alloc _;have k0:(wr.alloc (.cells #[.string y,.string it,.int .i64 (q:Int)] 206)).cell? ⟨wr.heap.size,0,none⟩=some (.string y):=by rw[agM];rfl
    have k1:(wr.alloc (.cells #[.string y,.string it,.int .i64 (q:Int)] 206)).cell? ⟨wr.heap.size,1,none⟩=some (.string it):=by rw[agM];rfl
    have k2:(wr.alloc (.cells #[.string y,.string it,.int .i64 (q:Int)] 206)).cell? ⟨wr.heap.size,2,none⟩=some (.int .i64 (q:Int)):=by rw[agM];rfl
    have bn:=zc D.out (.cells #[.string y,.string it,.int .i64 (q:Int)] 206);have Q:wr.heap.size≠B:=by have:=Ap D.out;omega
    have i4:=O.keeps b1;have i5:=O.keeps b2;have b5:=agI (D.out.gr O);have i6:=agI (a8.out.trans O);have a9:Hid (B<=(wr.alloc (.cells #[.string y,.string it,.int .i64 (q:Int)] 206)).heap.size):=agI (by have:=O.size;have:=d5.out;omega);have BN:=agI bn;have l2:=I5 y it (by omega);have b6:=fun(a:List UInt8) (W:World)=>nZ B B a ⟨(y.data.toList++it.data.toList).toArray⟩ W;have i7:(⟨(y.data.toList++it.data.toList).toArray⟩:ByteArray).size=y.size+it.size:=by rw[kF,agL,<-size_data,<-size_data]
    have d8:(⟨(y.data.toList++it.data.toList).toArray⟩:ByteArray).data.toList=y.data.toList++it.data.toList:=by simp
    rw[d8]at b6;have m8:ag7.wrap (y.size:Int)=((y.size.toUInt8.toNat:Nat):Int):=(om _).symm;have o0:ag7.wrap ((q:Int)/256)=(((q/256).toUInt8.toNat:Nat):Int):=by
     rw[om];show(q:Int)/256 % 256=_;omega
    have o1:ag7.wrap (q:Int)=((q.toUInt8.toNat:Nat):Int):=(om _).symm;have i9:Hid (En.xS ⟨y,it,q⟩ false=[y.size.toUInt8]++([(q/256).toUInt8,q.toUInt8]++(y.data.toList++it.data.toList))):=agI (by
     unfold En.xS En.head;simp only[Bool.false_eq_true,if_false];rw[tR _ (by omega)]
     rfl)
    generalize y.size.toUInt8=q1 at*;generalize(q/256).toUInt8=q2 at*;generalize q.toUInt8=q3 at*;generalize y.data.toList++it.data.toList=kt at*;generalize(⟨kt.toArray⟩:ByteArray)=ks at*;clear hp bn z O d8;go_wp2_with fail
    refine(rl B B acc q1 _ b5.out (by omega) a9.out).mono ?_;rintro e w2 ⟨rfl,d9,J,G⟩;have m2:=G.keeps Q BN.out k2;have m1:=G.keeps Q BN.out k1;have m0:=G.keeps Q BN.out k0;have h5:=agI (G.2 _ (ad k0) Q BN.out).2;have a5:=agI (km i6.out U.out J);have e0:=agI d9;have b0:Hid (B<=w2.heap.size):=agI (aha a9.out J.size);obtain⟨b1,b2⟩:=C0.out _ a5.out;clear d9 J G k0 k1 k2 i4 i5;have h0:(acc++[q1]).length+[q2,q3].length<=1000000:=by rw[agL];simp;omega
    have c3:Gr w2 (w2.alloc (.cells #[.int .u8 (q2.toNat:Int),.int .u8 (q3.toNat:Int)] 5)):=(Gr.refl w2).alloc _;have i1:=Bq B B w2.heap.size 2 (acc++[q1]) [q2,q3] _ (e0.out.gr c3) h0 (by have:=b0.out;have:=c3.size;omega) (fun j hj=>by
     rw[agM]
     match j,hj with
     |0,_=>rfl
     |1,_=>rfl) (by have:=Ap e0.out;omega)
    have n2:=agI i1;clear i1;go_wp2_with fail
    refine n2.out.mono ?_;rintro e w3 ⟨rfl,e3,L,a2⟩;have g7:wJ B wr.heap.size (w2.alloc (.cells #[.int .u8 (q2.toNat:Int),.int .u8 (q3.toNat:Int)] 5)):=fun v hv=>by
     have l4:=Ap e0.out;rw[(c3.cell 1 l4)]at hv;exact h5.out v hv
    have n1:=a2.keeps Q g7 (c3.keeps m1);have n0:=a2.keeps Q g7 (c3.keeps m0);have e4:=agI (km (a5.out.alloc _) U.out L);have j0:=agI e3;have g6:Hid (B<=w3.heap.size):=agI (aha b0.out (aha c3.size L.size));obtain⟨b1,b2⟩:=C0.out _ e4.out;clear e3 L a2 m0 m1 m2 c3 g7;have j1:(acc++[q1]++[q2,q3]).length+ks.size<=1000000:=by rw[agL,agL,i7];simp;omega
    go_wp2_with fail
    refine(b6 _ _ j0.out j1 g6.out).mono ?_;rintro e w4 ⟨rfl,e5,a3⟩;have b7:=agI (km e4.out U.out a3);have j2:Hid (l_ B B (eV false l.length++ed false (l.take (i+1))) w4):=agI (by
     rw[i3.out,i9.out];simpa[ag6]using e5)
    clear e5 a3 b6;go_wp2_with fail
    exact⟨⟨i+1,by omega,by go_num,j2.out,b7.out⟩,by simp[ahi];omega⟩
   ·have j3:i=l.length:=by omega
    subst j3;rw[ahA]at D;have d7:=j_ (leaf:=false) (l:=l) a6.out;have b8:(eV false l.length++ed false l).length=ah false l:=by
     rw[agL,d7]
     rfl
    have e6:Hid (au false l=⟨((eV false l.length++ed false l)++agZ (1024-ah false l) 0).toArray⟩):=agI (by
     unfold au Ee eV mJ;simp)
    generalize eV false l.length++ed false l=tx at*;obtain⟨Z,hZ⟩:∃Z,ah false l=Z:=⟨_,rfl⟩;rw[hZ]at b8 hb e6;have j4:(agS tx).length=Z:=by rw[agR,b8]
    have e7:=Tryz.Builder_String_any_f B B tx wr (ahw D.out) d5.out;have b9:=fun W h=>Tryz.Builder_Len_f B B (agS tx) W h;rw[j4]at b9;have e8:∀W,Calls ag3 139 #[.string ⟨#[0]⟩,.int .i64 (1024-(Z:Int))] W (ar W (.string ⟨(agZ (1024-Z) (0:UInt8)).toArray⟩)):=fun W=>by
     have:=tO ⟨#[0]⟩ (1024-Z) W (by omega) (show 1<=100000 by omega);rw[show((1024-Z:Nat):Int)=1024-(Z:Int)by omega]at this;rw[<-gg];exact this
    have l3:=lu tx (agZ (1024-Z) (0:UInt8)) (by rw[b8,ahk];omega);have m9:ahM.wrap (1024-(Z:Int))=1024-(Z:Int):=by rw[ahB];omega
    generalize(⟨(agZ (1024-Z) (0:UInt8)).toArray⟩:ByteArray)=zs at*;generalize(⟨(tx++agZ (1024-Z) (0:UInt8)).toArray⟩:ByteArray)=res at*;generalize(⟨tx.toArray⟩:ByteArray)=ts at*;clear z hZ;go_wp2_with fail
    refine e7.mono ?_;rintro e w2 ⟨rfl,e9,b4⟩;have a5:=agI (km a8.out U.out b4);clear b4 e7;go_wp2_with fail
    refine(b9 w2 e9).mono ?_;rintro e w3 ⟨rfl,rfl⟩;clear e9 b9;go_wp2_with fail
    refine(e8 w3).mono ?_;rintro e w4 ⟨rfl,g0⟩;have b7:=agI ((h3.out.trans a5.out).trans g0);clear g0 e8;go_wp2_with fail
    go_ret;exact ar.mk (by rw[e6.out];rfl) b7.out
structure Fr(pg:Nat->ByteArray)(S:List Nat)(c c':Ch):Prop where
 aA:c'.aA
 keep:∀k,1<=k->k<2000->c.h.used k=true->k∉S->c'.h.used k=true/\eT pg c'.F k=eT pg c.F k
 roots:c'.h.roots=c.h.roots
 notes:c'.h.notes=c.h.notes
theorem Fr.refl{pg:Nat->ByteArray}{c:Ch}(h:c.aA)(S:List Nat):Fr pg S c c:=⟨h,fun _ _ _ hu _=>⟨hu,rfl⟩,rfl,rfl⟩
theorem Fr.trans{pg:Nat->ByteArray}{S S':List Nat}{c c1 q:Ch}(h:Fr pg S c c1)(b:Fr pg S' c1 q)(hs:∀k∈S',k∈S\/c.h.used k=false):Fr pg S c q:=
 ⟨b.aA,fun k s y hu hn=>by
  obtain⟨z,B⟩:=h.keep k s y hu hn;obtain⟨D,G⟩:=b.keep k s y z (fun H=>by
   rcases hs k H with e|e
   ·exact hn e
   ·rw[e]at hu;cases hu)
  exact⟨D,G.trans B⟩,b.roots.trans h.roots,b.notes.trans h.notes⟩
theorem Fr.wide{pg:Nat->ByteArray}{S S':List Nat}{c b:Ch}(h:Fr pg S c b)(hs:∀k∈S,k∈S'\/c.h.used k=false):Fr pg S' c b:=
 ⟨h.aA,fun k q s hu hn=>h.keep k q s hu fun y=>by
  rcases hs k y with e|e
  ·exact hn e
  ·rw[e]at hu;exact Bool.noConfusion hu,h.roots,h.notes⟩
def eW(c:Ch)(p:Nat):Prop:=1<=p/\p<2000/\c.h.used p=true
theorem eW.d_{c:Ch}{p:Nat}(h:eW c p):d_ c.h (p:Int)=true:=gJ.2 ⟨p,rfl,h.1,h.2.1,h.2.2⟩
theorem qp{c:Ch}{p:Nat}(h:eW c p)(s:ByteArray):c.write (p:Nat) s=⟨c.h,kM c.F p (some s)⟩:=by
 unfold Ch.write;rw[if_pos h.d_]
theorem sS{c:Ch}{p:Nat}(h:eW c p):c.free (p:Nat)=⟨c.h.put p false,kM c.F p none⟩:=by
 unfold Ch.free;rw[if_pos h.d_]
 rfl
theorem Ri{pg:Nat->ByteArray}{F:Int->Option ByteArray}{p:Nat}{s:ByteArray}:eT pg (kM F (p:Nat) (some s)) p=s:=by
 unfold eT kM;rw[if_pos rfl]
theorem vw{pg:Nat->ByteArray}{F:Int->Option ByteArray}{p k:Nat}(h:k≠p)(o:Option ByteArray):eT pg (kM F (p:Nat) o) k=eT pg F k:=by
 unfold eT kM;rw[if_neg (by omega)]
theorem gb{pg:Nat->ByteArray}{c:Ch}{p:Nat}(hc:c.aA)(h:eW c p){s:ByteArray}(hs:s.size=1024):Fr pg [p] c (c.write (p:Nat) s)/\eW (c.write (p:Nat) s) p/\eT pg (c.write (p:Nat) s).F p=s:=by
 refine⟨⟨hc.sK _ hs,?_,?_,?_⟩,?_,?_⟩
 ·intro k b q hu hn;rw[qp h];exact⟨hu,vw (by simpa using hn) _⟩
 ·rw[qp h]
 ·rw[qp h]
 ·rw[qp h];exact h
 ·rw[qp h];exact Ri
theorem Bu{pg:Nat->ByteArray}{c:Ch}{p:Nat}(hc:c.aA)(h:eW c p):Fr pg [p] c (c.free (p:Nat)):=by
 refine⟨hc.oe _,?_,?_,?_⟩
 ·intro k b q hu hn;rw[sS h];refine⟨?_,vw (by simpa using hn) _⟩;show(if k=p then false else c.h.used k)=true;rw[if_neg (by simpa using hn)];exact hu
 ·rw[sS h];rfl
 ·rw[sS h];rfl
theorem alloc_eq{c:Ch}{q:Nat}(h:bZ c.h=some q):c.alloc=⟨c.h.put q true,kM c.F q (some eC)⟩:=by
 unfold Ch.alloc;rw[h]
theorem ny{pg:Nat->ByteArray}{c:Ch}{q:Nat}(hc:c.aA)(h:bZ c.h=some q):Fr pg [] c c.alloc/\eW c.alloc q/\c.h.used q=false/\1<=q/\q<2000:=by
 obtain⟨s,y,z,_⟩:=wH hc.head h;refine⟨⟨hc.oZ,?_,?_,?_⟩,⟨s,y,?_⟩,z,s,y⟩
 ·intro k B D hu _;have b:k≠q:=fun e=>by rw[e,z]at hu;cases hu
  rw[alloc_eq h];refine⟨?_,vw b _⟩;show(if k=q then true else c.h.used k)=true;rw[if_neg b];exact hu
 ·rw[alloc_eq h];rfl
 ·rw[alloc_eq h];rfl
 ·rw[alloc_eq h];show(if q=q then true else c.h.used q)=true;rw[if_pos rfl]
theorem Fr.GD{pg:Nat->ByteArray}{S:List Nat}{c q:Ch}(h:Fr pg S c q){k:Nat}(b:eW c k)(hn:k∉S):eW q k:=⟨b.1,b.2.1,(h.keep k b.1 b.2.1 b.2.2 hn).1⟩
theorem Fr.Er{pg:Nat->ByteArray}{S:List Nat}{c q:Ch}(h:Fr pg S c q){leaf:Bool}{p:Nat}{l:List En}(b:gO c pg leaf p l)(hn:p∉S):gO q pg leaf p l:=
 ⟨h.GD b.1 hn,(h.keep p b.1.1 b.1.2.1 b.1.2.2 hn).2.trans b.2⟩
theorem T.cx{c:Ch}{pg:Nat->ByteArray}:{d:Nat}->{t:T d}->t.lays c pg->∀k∈t.af,eW c k
 |0,t,h,k,b=>by
  unfold T.af at b;rw[agX.1 b];exact h.1
 |d+1,t,h,k,b=>by
  unfold T.af at b;rcases agN.1 b with e|b
  ·rw[e];exact h.1.1
  ·obtain⟨x,q,b⟩:=agJ.1 b;exact T.cx (h.2 x q) k b
theorem T.gj{pg:Nat->ByteArray}{S:List Nat}{c b:Ch}(g:Fr pg S c b):{d:Nat}->{t:T d}->t.lays c pg->(∀k∈t.af,k∉S)->t.lays b pg
 |0,t,h,hn=>g.Er h (hn _ (by unfold T.af;exact agX.2 rfl))
 |d+1,t,h,hn=>⟨g.Er h.1 (hn _ (by unfold T.af;exact agO)),fun x q=>T.gj g (h.2 x q) fun k s=>hn k (by
  unfold T.af;exact agK _ (agJ.2 ⟨x,q,s⟩))⟩
theorem T.ei:{d:Nat}->(t:T d)->t.pg∈t.af
 |0,t=>by unfold T.af T.pg;exact agX.2 rfl
 |d+1,t=>by unfold T.af T.pg;exact agO
structure sT{X:Type}(pg:Nat->ByteArray)(Wn:X->Nat)(pgs:X->List Nat)(lay:Ch->X->Prop)(ok:X->Prop)(p:Nat)(c:Ch)(S:List Nat)(r:Q6 X):Prop where
 fr:Fr pg S c r.1
 b_:Wn r.2.1=p
 lays:lay r.1 r.2.1
 fits:ok r.2.1
 sub:∀k∈pgs r.2.1,k∈S\/c.h.used k=false
 nd:(pgs r.2.1).Nodup
 more:∀m,r.2.2=some (some m)->lay r.1 m.2/\ok m.2/\m.1.size<=60/\(∀k∈pgs m.2,k∈S\/c.h.used k=false)/\(pgs r.2.1++pgs m.2).Nodup
section
variable{X:Type}{pg:Nat->ByteArray}
def dS(pgs:X->List Nat)(n:Nat×List (ByteArray×X)):List Nat:=n.1::n.2.flatMap fun x=>pgs x.2
def GG(pg:Nat->ByteArray)(en:ByteArray×X->En)(leaf:Bool)(lay:Ch->X->Prop)(c:Ch)(n:Nat×List (ByteArray×X)):Prop:=gO c pg leaf n.1 (n.2.map en)/\∀x∈n.2,lay c x.2
def UF(en:ByteArray×X->En)(leaf:Bool)(ok:X->Prop)(n:Nat×List (ByteArray×X)):Prop:=pM leaf (n.2.map en)/\∀x∈n.2,ok x.2
theorem xY{en:ByteArray×X->En}{leaf:Bool}{pgs:X->List Nat}{lay:Ch->X->Prop}{ok:X->Prop}
  (a7:∀(c c':Ch) S x,Fr pg S c c'->lay c x->(∀k∈pgs x,k∉S)->lay c' x) (c5:∀(c:Ch) x,lay c x->∀k∈pgs x,eW c k) (b7:∀x,(en x).key=x.1)
  {c:Ch} {p:Nat} {l old:List (ByteArray×X)} (hc:c.aA) (hp:eW c p) (I:∀x∈l,lay c x.2/\ok x.2) (J:∀e∈l.map en,e.ok leaf) (c6:l≠[]) (V:ah leaf (l.map en)<=1400)
  (H:(dS pgs (p,l)).Nodup) (b8:GG pg en leaf lay c (p,old)) (Y:UF en leaf ok (p,old)) (Z:(dS pgs (p,old)).Nodup) (a0:∀k∈dS pgs (p,old),k∈dS pgs (p,l)):
  sT pg ag9 (dS pgs) (GG pg en leaf lay) (UF en leaf ok) p c (dS pgs (p,l)) (bI en leaf c p l old):=by
 have a8:∀x∈l,∀k∈pgs x.2,k≠p:=fun x s k z e=>by
  have:=(ag5.1 H).1;exact this (agJ.2 ⟨x,s,by rw[<-e];exact z⟩)
 by_cases D:ah leaf (l.map en)<=1024
 ·have e:bI en leaf c p l old=(c.write p (au leaf (l.map en)),(p,l),some none):=by
   unfold bI;rw[if_pos D]
  obtain⟨L,w2,w3⟩:=gb (pg:=pg) hc hp (dA J D);rw[e];refine⟨L.wide fun k z=>.inl ?_,rfl,⟨⟨w2,w3⟩,fun x s=>a7 _ _ _ _ L (I x s).1 fun k z y=>a8 x s k z (by simpa using y)⟩,⟨⟨by simpa using c6,D,J⟩,fun x s=>(I x s).2⟩,fun k z=>.inl z,H,fun m y=>by cases y⟩;rw[agX.1 z];exact agO
 ·cases ha:bZ c.h with
  |none=>
   have e:bI en leaf c p l old=(c,(p,old),none):=by
    unfold bI;rw[if_neg D,ha]
   rw[e];exact⟨Fr.refl hc _,rfl,b8,Y,fun k z=>.inl (a0 k z),Z,fun m y=>by cases y⟩
  |some q=>
   obtain⟨k,z⟩:∃k,cC leaf (l.map en)=k:=⟨_,rfl⟩;have e:bI en leaf c p l old=((c.alloc.write p (au leaf ((l.map en).take k))).write q (au leaf ((l.map en).drop k)),(p,l.take k),some (some (keyOf (l.drop k),(q,l.drop k)))):=by
    unfold bI;rw[if_neg D,ha];simp only[z]
   obtain⟨b1,b2,b3,b4⟩:=ri J (by omega) V;rw[z]at b1 b2 b3 b4;rw[ahF]at b2;obtain⟨a1,a2,a3,a4,a5⟩:=ny (pg:=pg) hc ha;have a9:∀e∈(l.map en).take k,e.ok leaf:=fun e h=>J e (agV h);have b0:∀e∈(l.map en).drop k,e.ok leaf:=fun e h=>J e (ag2 h);have U:p≠q:=fun e=>by rw[<-e,hp.2.2]at a3;cases a3
   obtain⟨L,w2,w3⟩:=gb (pg:=pg) a1.aA (a1.GD hp (by simp)) (dA a9 b3);have c7:=L.GD a2 (by simpa using U.symm);obtain⟨v1,v2,v3⟩:=gb (pg:=pg) L.aA c7 (dA b0 b4);have c8:Fr pg [p] c (c.alloc.write p (au leaf ((l.map en).take k))):=(a1.wide (S':=[p]) (fun k z=>absurd z (by simp))).trans L fun k z=>.inl z;have b5:Fr pg [p] c ((c.alloc.write p (au leaf ((l.map en).take k))).write q (au leaf ((l.map en).drop k))):=c8.trans v1 fun k z=>.inr (by rw[agX.1 z];exact a3);have M:∀x∈l,lay ((c.alloc.write p (au leaf ((l.map en).take k))).write q (au leaf ((l.map en).drop k))) x.2:=fun x s=>a7 _ _ _ _ b5 (I x s).1 fun k z y=>a8 x s k z (by simpa using y);have b6:∀x∈l,q∉pgs x.2:=fun x s y=>by
    have:=(c5 _ _ (I x s).1 q y).2.2;rw[a3]at this;cases this
   have B:l.flatMap (fun x=>pgs x.2)=(l.take k).flatMap (fun x=>pgs x.2)++(l.drop k).flatMap (fun x=>pgs x.2):=by
    rw[<-agU,List.take_append_drop]
   have O:((dS pgs (p,l.take k))++(dS pgs (q,l.drop k))).Nodup:=by
    unfold dS at H⊢;simp only at H⊢;rw[B]at H;have h1:((p::(l.take k).flatMap (fun x=>pgs x.2))++(l.drop k).flatMap (fun x=>pgs x.2)).Nodup:=by rw[ag4];exact H
    rw[ag0]at h1⊢;obtain⟨g1,g2,g3⟩:=h1;refine⟨g1,ag5.2 ⟨fun y=>?_,g2⟩,fun a ha b V=>?_⟩
    ·obtain⟨x,s,y⟩:=agJ.1 y;exact b6 x (ag2 s) y
    ·rcases agN.1 V with e|V
     ·rw[e];intro e2;rw[e2]at ha;rcases agN.1 ha with e3|ha
      ·exact U e3.symm
      ·obtain⟨x,s,y⟩:=agJ.1 ha;exact b6 x (agV s) y
     ·exact g3 a ha b V
   have c9:l.take k≠[]:=fun e=>by
    have:=congrArg ahm e;rw[ahh,ag_]at this;omega
   have Q:l.drop k≠[]:=fun e=>by
    have:=congrArg ahm e;rw[List.length_drop,ag_]at this;omega
   rw[e];refine⟨b5.wide fun j G=>.inl ?_,rfl,⟨?_,fun x s=>M x (agV s)⟩,⟨⟨?_,?_,?_⟩,fun x s=>(I x (agV s)).2⟩,fun j G=>.inl ?_,(ag0.1 O).1,fun m y=>?_⟩
   ·rw[agX.1 G];exact agO
   ·show gO _ pg leaf p ((l.take k).map en);rw[aho];exact v1.Er ⟨w2,w3⟩ (by simpa using U)
   ·simpa using c9
   ·show ah leaf ((l.take k).map en)<=1024;rw[aho];exact b3
   ·show∀e∈(l.take k).map en,e.ok leaf;rw[aho];exact a9
   ·unfold dS at G⊢;rcases agN.1 G with e|G
    ·rw[e];exact agO
    ·refine agK _ ?_;rw[B];exact agT _ G
   ·injection y with y
    injection y with y
    subst y;have g1:gO ((c.alloc.write p (au leaf ((l.map en).take k))).write q (au leaf ((l.map en).drop k))) pg leaf q ((l.drop k).map en):=by
     rw[ahp];exact⟨v2,v3⟩
    have g2:pM leaf ((l.drop k).map en):=by
     rw[ahp];exact⟨by rw[<-ahp];simpa using Q,b4,b0⟩
    refine⟨⟨g1,fun x s=>M x (ag2 s)⟩,⟨g2,fun x s=>(I x (ag2 s)).2⟩,?_,fun j G=>?_,O⟩
    ·unfold keyOf;cases hd:l.drop k with
     |nil=>exact absurd hd Q
     |cons x r=>
      have s:x∈l:=ag2 (i:=k) (by rw[hd];exact agO);have:=(J (en x) (ahn s)).key;rw[b7]at this;simpa using this
    ·unfold dS at G⊢;rcases agN.1 G with e|G
     ·rw[e];exact .inr a3
     ·refine .inl (agK _ ?_);rw[B];exact agP _ G
end
theorem lC{s:Type}:∀{l:List s} {k:Nat} {x:s},l[k]?=some x->∃b q,l=b++x::q/\b.length=k
 |[],k,x,h=>by simp at h
 |a::l,0,x,h=>⟨[],l,by simpa using h,rfl⟩
 |a::l,k+1,x,h=>by
  obtain⟨b,q,e,y⟩:=lC (l:=l) (k:=k) (x:=x) (by simpa using h);exact⟨a::b,q,by rw[e];rfl,by rw[ag8,y]⟩
theorem mb{q:Type}(x y:q)(s:List q):∀b:List q,(b++x::s).set b.length y=b++y::s
 |[]=>rfl
 |a::b=>by
  have:=mb x y s b;simp only[ag4,ag8,ahu,this]
theorem sU{q:Type}(m y:q)(s:List q):∀b:List q,(b++y::s).insertIdx (b.length+1) m=b++y::m::s
 |[]=>by simp
 |a::b=>by
  have:=sU m y s b;simp only[ag4,ag8,ahf,this]
theorem ot{q:Type}(x:q)(s:List q):∀b:List q,(b++x::s).eraseIdx b.length=b++s
 |[]=>rfl
 |a::b=>by
  have:=ot x s b;simp only[ag4,ag8,List.eraseIdx_cons_succ,this]
theorem Et{l:List (ByteArray×ByteArray)}{key item:ByteArray}{x:ByteArray×ByteArray}(h:x∈ee l key item):x∈l\/x=(key,item):=by
 unfold ee at h
 split at h
 ·rcases List.mem_or_eq_of_mem_set h with h|h
  ·exact .inl h
  ·exact .inr h
 ·rw[List.mem_insertIdx (by have:=jg (l.map ag9) key;simpa using this)]at h;exact h.elim .inr .inl
theorem Rj{l:List (ByteArray×ByteArray)}{key item:ByteArray}(h:l≠[]):ee l key item≠[]:=by
 have b:=List.length_pos_iff.2 h;unfold ee
 split
 ·intro e;have:=congrArg ahm e;rw[List.length_set,ag_]at this;omega
 ·intro e;have:=congrArg ahm e;rw[List.length_insertIdx,ag_]at this
  split at this<;>omega
theorem xZ{leaf:Bool}{y:En}:∀(l:List En) (i:Nat),cH leaf (l.set i y)<=cH leaf l+y.sz leaf
 |[],i=>by simp[cH]
 |a::l,0=>by
  rw[List.set_cons_zero,bK,bK];omega
 |a::l,i+1=>by
  have:=xZ (leaf:=leaf) (y:=y) l i;rw[ahu,bK,bK];omega
theorem m_{leaf:Bool}{y:En}:∀(l:List En) (i:Nat),cH leaf (l.insertIdx i y)<=cH leaf l+y.sz leaf
 |l,0=>by
  rw[List.insertIdx_zero,bK];omega
 |[],i+1=>by simp[cH]
 |a::l,i+1=>by
  have:=m_ (leaf:=leaf) (y:=y) l i;rw[ahf,bK,bK];omega
theorem jS{b q:Type}(f:b->q)(y:b):∀(l:List b) (i:Nat),(l.insertIdx i y).map f=(l.map f).insertIdx i (f y)
 |l,0=>by simp
 |[],i+1=>by simp
 |a::l,i+1=>by simp[jS f y l i]
theorem ze{l:List (ByteArray×ByteArray)}{key item:ByteArray}:ah true ((ee l key item).map bE)<=ah true (l.map bE)+(bE (key,item)).sz true:=by
 unfold ee ah
 split
 ·rw[List.map_set];have:=xZ (leaf:=true) (y:=bE (key,item)) (l.map bE) (ai (l.map ag9) key);omega
 ·rw[jS];have:=m_ (leaf:=true) (y:=bE (key,item)) (l.map bE) (ai (l.map ag9) key);omega
theorem sT.Vv{X:Type}{pg:Nat->ByteArray}{z b:X->Nat}{pgs q:X->List Nat}{lay s:Ch->X->Prop}{ok B:X->Prop}{p:Nat}{c:Ch}{S S':List Nat}{r:Q6 X}
  (h:sT pg z pgs lay ok p c S r) (J:∀x,z x=b x) (y:∀x,pgs x=q x) (H:∀c x,lay c x->s c x) (I:∀x,ok x->B x) (D:∀k∈S,k∈S'\/c.h.used k=false):sT pg b q s B p c S' r:=
 ⟨h.fr.wide D,(J _).symm.trans h.b_,H _ _ h.lays,I _ h.fits,fun k G=>(h.sub k (by rw[y];exact G)).elim (D k) .inr,by rw[<-y];exact h.nd,fun m L=>by
  obtain⟨M,O,Q,U,V⟩:=h.more m L;exact⟨H _ _ M,I _ O,Q,fun k G=>(U k (by rw[y];exact G)).elim (D k) .inr,by rw[<-y,<-y];exact V⟩⟩
theorem sT.after{X:Type}{pg:Nat->ByteArray}{z:X->Nat}{pgs:X->List Nat}{lay:Ch->X->Prop}{ok:X->Prop}{p:Nat}{s c:Ch}{y S:List Nat}{r:Q6 X}
  (h:sT pg z pgs lay ok p c S r) (G:Fr pg y s c) (hS:∀k∈S,k∈y\/s.h.used k=false) (q:∀(c:Ch) x,lay c x->∀k∈pgs x,eW c k):sT pg z pgs lay ok p s y r:=by
 have B:∀k,1<=k->k<2000->k∈S\/c.h.used k=false->k∈y\/s.h.used k=false:=fun k I J b=>by
  rcases b with b|b
  ·exact hS k b
  ·by_cases H:k∈y
   ·exact .inl H
   ·cases L:s.h.used k with
    |false=>exact .inr rfl
    |true=>
     have:=(G.keep k I J L H).1;rw[b]at this;cases this
 exact⟨G.trans h.fr hS,h.b_,h.lays,h.fits,fun k b=>B k (q _ _ h.lays k b).1 (q _ _ h.lays k b).2.1 (h.sub k b),h.nd,fun m e=>by
  obtain⟨D,M,O,Q,U⟩:=h.more m e;exact⟨D,M,O,fun k b=>B k (q _ _ D k b).1 (q _ _ D k b).2.1 (Q k b),U⟩⟩
theorem OU{b q:Type}(l:List b):l.flatMap (fun _=>([]:List q))=[]:=by
 induction l with
 |nil=>rfl
 |cons a l s=>rw[ahc,s];rfl
theorem mc{X:Type}(n:Nat×List (ByteArray×X)):dS (fun _=>[]) n=[n.1]:=by
 unfold dS;rw[OU]
theorem vx{p:Nat}{a x b m:List Nat}{U:Nat->Prop}(h:(p::(a++(x++b))).Nodup)(B:m.Nodup)(hs:∀k∈m,k∈x\/¬U k)(hu:∀k∈p::(a++b),U k):(p::(a++(m++b))).Nodup:=by
 obtain⟨y,D⟩:=ag5.1 h;obtain⟨G,H,z⟩:=ag0.1 D;obtain⟨L,I,J⟩:=ag0.1 H;refine ag5.2 ⟨fun q=>?_,ag0.2 ⟨G,ag0.2 ⟨B,I,fun i hi j s e=>?_⟩,fun i hi j s e=>?_⟩⟩
 ·rcases agQ.1 q with q|q
  ·exact y (agT _ q)
  rcases agQ.1 q with q|q
  ·rcases hs p q with q|q
   ·exact y (agP _ (agT _ q))
   ·exact q (hu p agO)
  ·exact y (agP _ (agP _ q))
 ·subst e;rcases hs i hi with h|h
  ·exact J i h i s rfl
  ·exact h (hu i (agK _ (agP _ s)))
 ·subst e;rcases agQ.1 s with s|s
  ·rcases hs i s with h|h
   ·exact z i hi i (agT _ h) rfl
   ·exact h (hu i (agK _ (agT _ hi)))
  ·exact z i hi i (agP _ s) rfl
theorem wN{pg:Nat->ByteArray}{key item:ByteArray}(L:key.size<=60)(hi:item.size<=100):∀{d:Nat} {c:Ch} {t:T d},c.aA->t.lays c pg->t.eU->t.af.Nodup->
  sT pg T.pg T.af (fun c (t:T d)=>t.lays c pg) T.eU t.pg c t.af (cK c t key item)
 |0,c,t,hc,hl,V,hn=>by
  have ha:=xY (X:=ByteArray) (pg:=pg) (en:=bE) (leaf:=true) (pgs:=fun _=>[]) (lay:=fun _ _=>True) (ok:=fun _=>True) (fun _ _ _ _ _ _ _=>trivial) (fun _ _ _ _ h=>absurd h (by simp)) (fun _=>rfl)
   (c:=c) (p:=ag9 t) (l:=ee (ahx t) key item) (old:=ahx t) hc hl.1 (fun _ _=>⟨trivial,trivial⟩)
   (fun e he=>by
    obtain⟨x,hx,rfl⟩:=List.mem_map.1 he;rcases Et hx with h|h
    ·exact V.2.2 _ (ahn h)
    ·rw[h];exact⟨L,hi,by show 0<2000;omega,fun _=>rfl,fun h=>by cases h⟩)
   (Rj (fun e=>V.1 (by rw[e];rfl)))
   (by
    have Y:=ze (l:=ahx t) (key:=key) (item:=item);have M:=V.2.1;have h3:(bE (key,item)).sz true<=162:=En.og ⟨L,hi,by show 0<2000;omega,fun _=>rfl,fun h=>by cases h⟩;omega)
   (by rw[mc];simp) ⟨hl,fun _ _=>trivial⟩ ⟨V,fun _ _=>trivial⟩ (by rw[mc];simp) (fun k h=>by rw[mc]at h⊢;exact h)
  exact ha.Vv (fun _=>rfl) (fun x=>mc x) (fun _ _ h=>h.1) (fun _ h=>h.1) (fun k h=>.inl (by rw[mc]at h;exact h))
 |d+1,c,t,hc,hl,V,hn=>by
  obtain⟨p,l⟩:Nat×List (ByteArray×T d):=t;have d8:l.map ag9≠[]:=fun e=>V.1.1 (by
   have:l=[]:=List.map_eq_nil_iff.1 e;show l.map aH=[];rw[this]
   rfl)
  have c2:=nw d8 key;rw[ahF]at c2;obtain⟨x,hx⟩:∃x,l[aG (l.map ag9) key]?=some x:=⟨_,List.getElem?_eq_getElem c2⟩;obtain⟨q,s,H,c3⟩:=lC hx;have b2:x∈l:=by rw[H];simp
  have c4:(p::(q.flatMap (fun y=>y.2.af)++(x.2.af++s.flatMap fun y=>y.2.af))).Nodup:=by
   have h:(p::l.flatMap fun y=>y.2.af).Nodup:=hn;rw[H,agU,ahc]at h;exact h
  obtain⟨n1,n2⟩:=ag5.1 c4;obtain⟨n3,n4,n5⟩:=ag0.1 n2;obtain⟨n6,n7,n8⟩:=ag0.1 n4;have a3:∀y∈l,y.2.lays c pg:=hl.2;have c5:∀y∈l,y.2.eU:=V.2;have d9:eW c p:=hl.1.1;have b6:gO c pg false p (l.map aH):=hl.1;have d4:pM false (l.map aH):=V.1;have Z:=wN (pg:=pg) L hi hc (a3 x b2) (c5 x b2) n6;have hS:∀k∈x.2.af,k∈p::l.flatMap (fun y=>y.2.af):=fun k h=>agK _ (agJ.2 ⟨x,b2,h⟩);have B:∀y,y∈q\/y∈s->y∈l/\∀k∈y.2.af,k∉x.2.af:=fun y b=>by
   rcases b with b|b
   ·refine⟨by rw[H];exact agT _ b,fun k Y M=>n5 k (agJ.2 ⟨y,b,Y⟩) k (agT _ M) rfl⟩
   ·refine⟨by rw[H];exact agP _ (agK _ b),fun k Y M=>n8 k M k (agJ.2 ⟨y,b,Y⟩) rfl⟩
  have d5:∀k∈p::(q.flatMap (fun y=>y.2.af)++s.flatMap fun y=>y.2.af),eW c k:=fun k h=>by
   rcases agN.1 h with e|h
   ·rw[e];exact d9
   ·rcases agQ.1 h with h|h
    ·obtain⟨y,b,h⟩:=agJ.1 h;exact T.cx (a3 y (B y (.inl b)).1) k h
    ·obtain⟨y,b,h⟩:=agJ.1 h;exact T.cx (a3 y (B y (.inr b)).1) k h
  have e1:p∉x.2.af:=fun h=>n1 (agP _ (agT _ h));rcases hr:cK c x.2 key item with⟨D,u,r⟩
  rw[hr]at Z;have I:=Z.fr;have e2:u.pg=x.2.pg:=Z.b_;have b3:u.lays D pg:=Z.lays;have c7:u.eU:=Z.fits;have c8:∀k∈u.af,k∈x.2.af\/c.h.used k=false:=Z.sub;have e3:u.af.Nodup:=Z.nd;have c9:=Z.more;simp only at I c9;have O:l.set (aG (l.map ag9) key) (x.1,u)=q++(x.1,u)::s:=by rw[<-c3,H,mb]
  have d6:∀m,(q++(x.1,u)::s).insertIdx (aG (l.map ag9) key+1) m=q++(x.1,u)::m::s:=fun m=>by rw[<-c3,sU]
  have a8:(q++(x.1,u)::s).map aH=l.map aH:=by
   rw[H];simp only[agW,ahg];have:aH (x.1,u)=aH x:=by
    unfold aH;rw[e2]
   rw[this]
  have a4:∀y,y∈q\/y∈s->y.2.lays D pg/\y.2.eU:=fun y b=>⟨T.gj I (a3 y (B y b).1) (B y b).2,c5 y (B y b).1⟩;have d0:gO D pg false p (l.map aH):=I.Er b6 e1;have a9:∀ms:List (ByteArray×T d),(ms.flatMap fun y=>y.2.af).Nodup->(∀y∈ms,∀k∈y.2.af,k∈x.2.af\/c.h.used k=false)->(dS T.af (p,q++(ms++s))).Nodup:=fun ms Y M=>by
   unfold dS;simp only;rw[agU,agU];refine vx (U:=fun k=>c.h.used k=true) c4 Y (fun k h=>?_) (fun k h=>(d5 k h).2.2);obtain⟨y,b,h⟩:=agJ.1 h;rcases M y b k h with e|e
   ·exact .inl e
   ·exact .inr (by rw[e];simp)
  have a1:∀ms:List (ByteArray×T d),(∀y∈ms,∀k∈y.2.af,k∈x.2.af\/c.h.used k=false)->∀k∈dS T.af (p,q++(ms++s)),k∈(p::l.flatMap fun y=>y.2.af)\/c.h.used k=false:=fun ms M k h=>by
   unfold dS at h;simp only at h;rcases agN.1 h with e|h
   ·exact .inl (by rw[e];exact agO)
   ·rw[agU,agU]at h;rcases agQ.1 h with h|h
    ·obtain⟨y,b,h⟩:=agJ.1 h;exact .inl (agK _ (agJ.2 ⟨y,(B y (.inl b)).1,h⟩))
    rcases agQ.1 h with h|h
    ·obtain⟨y,b,h⟩:=agJ.1 h;rcases M y b k h with e|e
     ·exact .inl (hS k e)
     ·exact .inr e
    ·obtain⟨y,b,h⟩:=agJ.1 h;exact .inl (agK _ (agJ.2 ⟨y,(B y (.inr b)).1,h⟩))
  have d1:∀y∈[(x.1,u)],∀k∈y.2.af,k∈x.2.af\/c.h.used k=false:=fun y b k h=>by
   rw[agX.1 b]at h;exact c8 k h
  have J:(dS T.af (p,q++(x.1,u)::s)).Nodup:=a9 [(x.1,u)] (by simpa using e3) d1;have a2:∀k∈dS T.af (p,q++(x.1,u)::s),k∈(p::l.flatMap fun y=>y.2.af)\/c.h.used k=false:=a1 [(x.1,u)] d1;have G:∀y∈q++(x.1,u)::s,y.2.lays D pg/\y.2.eU:=fun y b=>by
   rcases agQ.1 b with h|h
   ·exact a4 y (.inl h)
   rcases agN.1 h with e|h
   ·rw[e];exact⟨b3,c7⟩
   ·exact a4 y (.inr h)
  have b0:eW D p:=d0.1;have Q:GG pg aH false (fun c (t:T d)=>t.lays c pg) D (p,q++(x.1,u)::s):=⟨by
   show gO D pg false p ((q++(x.1,u)::s).map aH);rw[a8];exact d0,fun y b=>(G y b).1⟩
  have z:UF aH false (fun t:T d=>t.eU) (p,q++(x.1,u)::s):=⟨by
   show pM false ((q++(x.1,u)::s).map aH);rw[a8];exact d4,fun y b=>(G y b).2⟩
  have b4:∀(c:Ch) (t:T d),t.lays c pg->∀k∈t.af,eW c k:=fun c t h=>T.cx h;have b1:∀(c:Ch) (n:Nat×List (ByteArray×T d)),GG pg aH false (fun c (t:T d)=>t.lays c pg) c n->∀k∈dS T.af n,eW c k:=fun c n h k L=>by
   unfold dS at L;rcases agN.1 L with e|L
   ·rw[e];exact h.1.1
   ·obtain⟨y,b,L⟩:=agJ.1 L;exact b4 c _ (h.2 y b) k L
  have b5:Fr pg (p::l.flatMap fun y=>y.2.af) c D:=I.wide fun k h=>.inl (hS k h);have h4:eW D u.pg:=T.cx b3 _ (T.ei u);cases r with
  |none=>
   have e0:cK (d:=d+1) c (p,l) key item=(D,(p,q++(x.1,u)::s),none):=by
    refine(cK.eq_2 c key item d ((p,l):Nat×List (ByteArray×T d))).trans ?_;simp only[hx,hr,O]
    rfl
   rw[e0];exact⟨b5,rfl,Q,z,a2,J,fun m hm=>by cases hm⟩
  |some r=>
   cases r with
   |none=>
    have e0:cK (d:=d+1) c (p,l) key item=bI (X:=T d) aH false D p (q++(x.1,u)::s) (q++(x.1,u)::s):=by
     refine(cK.eq_2 c key item d ((p,l):Nat×List (ByteArray×T d))).trans ?_;simp only[hx,hr,O]
     rfl
    rw[e0];have ha:=xY (X:=T d) (pg:=pg) (en:=aH) (leaf:=false) (pgs:=T.af) (lay:=fun c (t:T d)=>t.lays c pg) (ok:=T.eU) (fun c c' S t g h hn=>T.gj g h hn) b4 (fun _=>rfl)
     (c:=D) (p:=p) (l:=q++(x.1,u)::s) (old:=q++(x.1,u)::s) I.aA b0 G z.1.2.2 (by simp) (by have:=z.1.2.1;simp only at this;omega) J Q z J (fun k h=>h)
    exact ha.after b5 a2 b1
   |some m=>
    obtain⟨m1,m2,m3,m4,m5⟩:=c9 m rfl;have e0:cK (d:=d+1) c (p,l) key item=bI (X:=T d) aH false D p (q++(x.1,u)::m::s) (q++(x.1,u)::s):=by
     refine(cK.eq_2 c key item d ((p,l):Nat×List (ByteArray×T d))).trans ?_;simp only[hx,hr,O,d6]
     rfl
    rw[e0];have d2:∀y∈[(x.1,u),m],∀k∈y.2.af,k∈x.2.af\/c.h.used k=false:=fun y b k h=>by
     rcases agN.1 b with e|b
     ·rw[e]at h;exact c8 k h
     ·rw[agX.1 b]at h;exact m4 k h
    have d7:(dS T.af (p,q++(x.1,u)::m::s)).Nodup:=a9 [(x.1,u),m] (by simpa using m5) d2;have b8:∀k∈dS T.af (p,q++(x.1,u)::m::s),k∈(p::l.flatMap fun y=>y.2.af)\/c.h.used k=false:=a1 [(x.1,u),m] d2;have b9:∀y∈q++(x.1,u)::m::s,y.2.lays D pg/\y.2.eU:=fun y b=>by
     rcases agQ.1 b with h|h
     ·exact a4 y (.inl h)
     rcases agN.1 h with e|h
     ·rw[e];exact⟨b3,c7⟩
     rcases agN.1 h with e|h
     ·rw[e];exact⟨m1,m2⟩
     ·exact a4 y (.inr h)
    have e4:eW D m.2.pg:=T.cx m1 _ (T.ei m.2);have d3:(aH m).ok false:=⟨m3,by show(0:Nat)<=100;omega,e4.2.1,fun h=>(by cases h),fun _=>rfl⟩;have a5:=z.1.2.2;simp only[agW,ahg]at a5;have e5:ah false ((q++(x.1,u)::m::s).map aH)<=1400:=by
     have Y:=z.1.2.1;have M:=En.og d3;simp only[agW,ahg,ah,kN,bK]at Y⊢;omega
    have ha:=xY (X:=T d) (pg:=pg) (en:=aH) (leaf:=false) (pgs:=T.af) (lay:=fun c (t:T d)=>t.lays c pg) (ok:=T.eU) (fun c c' S t g h hn=>T.gj g h hn) b4 (fun _=>rfl)
     (c:=D) (p:=p) (l:=q++(x.1,u)::m::s) (old:=q++(x.1,u)::s) I.aA b0 b9 (fun e he=>by
      simp only[agW,ahg]at he;rcases agQ.1 he with h|h
      ·exact a5 e (agT _ h)
      rcases agN.1 h with h|h
      ·exact a5 e (agP _ (by rw[h];exact agO))
      rcases agN.1 h with h|h
      ·rw[h];exact d3
      ·exact a5 e (agP _ (agK _ h))) (by simp) e5 d7 Q z J (fun k h=>by
      unfold dS at h⊢;simp only[agU,ahc,agN,agQ]at h⊢;rcases h with h|h|h|h
      ·exact .inl h
      ·exact .inr (.inl h)
      ·exact .inr (.inr (.inl h))
      ·exact .inr (.inr (.inr (.inr h))))
    exact ha.after b5 b8 b1
def T.qq(c:Ch)(pg:Nat->ByteArray):{d:Nat}->T d->Prop
 |0,_=>True
 |_+1,t=>∀x∈ahx t,x.2.lays c pg
def T.Tl:{d:Nat}->T d->Prop
 |0,_=>True
 |_+1,t=>∀x∈ahx t,x.2.eU
theorem T.nC{c:Ch}{pg:Nat->ByteArray}:{d:Nat}->{t:T d}->(t.lays c pg↔gO c pg (bA d) t.pg t.aI/\t.qq c pg)
 |0,t=>⟨fun h=>⟨h,trivial⟩,fun h=>h.1⟩
 |d+1,t=>Iff.rfl
theorem T.kP:{d:Nat}->{t:T d}->(t.eU↔pM (bA d) t.aI/\t.Tl)
 |0,t=>⟨fun h=>⟨h,trivial⟩,fun h=>h.1⟩
 |d+1,t=>Iff.rfl
theorem T.qs:{d:Nat}->(t:T d)->t.af=t.pg::t.af.tail
 |0,t=>by unfold T.af T.pg;rfl
 |d+1,t=>by unfold T.af T.pg;rfl
theorem T.I_{pg:Nat->ByteArray}{S:List Nat}{c b:Ch}(g:Fr pg S c b):{d:Nat}->{t:T d}->t.qq c pg->(∀k∈t.af.tail,k∉S)->t.qq b pg
 |0,t,h,hn=>trivial
 |d+1,t,h,hn=>fun x q=>T.gj g (h x q) fun k s=>hn k (by
  unfold T.af;exact agJ.2 ⟨x,q,s⟩)
theorem Ja:{d:Nat}->(a:T d)->(k:ByteArray)->(b:T d)->(a.meet k b).af=a.af++b.af.tail
 |0,a,k,b=>by unfold T.af T.meet;rfl
 |d+1,a,k,b=>by
  obtain⟨p,l⟩:Nat×List (ByteArray×T d):=a;obtain⟨q,m⟩:Nat×List (ByteArray×T d):=b;show(p::(l++vr k m).flatMap fun x=>x.2.af)=(p::l.flatMap fun x=>x.2.af)++m.flatMap fun x=>x.2.af;rw[ag4,agU];cases m<;>rfl
theorem Bv:{d:Nat}->(a:T d)->(k:ByteArray)->(b:T d)->(a.meet k b).pg=a.pg
 |0,a,k,b=>rfl
 |d+1,a,k,b=>rfl
theorem LD{c:Ch}{pg:Nat->ByteArray}:{d:Nat}->{a:T d}->{k:ByteArray}->{b:T d}->a.qq c pg->b.qq c pg->(a.meet k b).qq c pg
 |0,a,k,b,_,_=>trivial
 |d+1,a,k,b,ha,z=>fun x s=>by
  obtain⟨p,l⟩:Nat×List (ByteArray×T d):=a;obtain⟨q,m⟩:Nat×List (ByteArray×T d):=b;have s:x∈l++vr k m:=s;rcases agQ.1 s with h|h
  ·exact ha x h
  ·cases m with
   |nil=>cases h
   |cons y r=>
    rcases agN.1 h with e|h
    ·rw[e];exact z y agO
    ·exact z x (agK _ h)
def GH(leaf:Bool)(a:List En)(k:ByteArray)(b:List En):List En:=a++(if leaf then b else lO k b)
theorem vy:{d:Nat}->(a:T d)->(k:ByteArray)->(b:T d)->(a.meet k b).aI=GH (bA d) a.aI k b.aI
 |0,a,k,b=>by
  obtain⟨p,l⟩:Nat×List (ByteArray×ByteArray):=a;obtain⟨q,m⟩:Nat×List (ByteArray×ByteArray):=b;show(l++m).map bE=l.map bE++m.map bE;rw[agW]
 |d+1,a,k,b=>by
  obtain⟨p,l⟩:Nat×List (ByteArray×T d):=a;obtain⟨q,m⟩:Nat×List (ByteArray×T d):=b;show(l++vr k m).map aH=l.map aH++lO k (m.map aH);rw[agW];cases m<;>rfl
theorem Rk:{d:Nat}->{a:T d}->{k:ByteArray}->{b:T d}->a.eU->b.eU->k.size<=60->ah (bA d) (a.meet k b).aI<=1024->(a.meet k b).eU
 |0,a,k,b,ha,z,H,hs=>by
  obtain⟨p,l⟩:Nat×List (ByteArray×ByteArray):=a;obtain⟨q,m⟩:Nat×List (ByteArray×ByteArray):=b;refine⟨fun e=>ha.1 ?_,hs,fun e s=>?_⟩
  ·have:(l++m).map bE=[]:=e;rw[agW]at this;exact(ahj.1 this).1
  ·have s:e∈(l++m).map bE:=s;rw[agW]at s;rcases agQ.1 s with h|h
   ·exact ha.2.2 e h
   ·exact z.2.2 e h
 |d+1,a,k,b,ha,z,H,hs=>by
  obtain⟨p,l⟩:Nat×List (ByteArray×T d):=a;obtain⟨q,m⟩:Nat×List (ByteArray×T d):=b;have B:pM false (l.map aH):=ha.1;have D:pM false (m.map aH):=z.1;refine⟨⟨fun e=>B.1 ?_,hs,fun e s=>?_⟩,fun x G=>?_⟩
  ·have:(l++vr k m).map aH=[]:=e;rw[agW]at this;exact(ahj.1 this).1
  ·have s:e∈(l++vr k m).map aH:=s;rw[agW]at s;rcases agQ.1 s with h|h
   ·exact B.2.2 e h
   ·cases m with
    |nil=>cases h
    |cons y r=>
     rcases agN.1 h with I|h
     ·rw[I];have:=D.2.2 (aH y) agO;exact⟨H,this.item,this.b_,this.Uz,this.node⟩
     ·exact D.2.2 e (agK _ h)
  ·have G:x∈l++vr k m:=G;rcases agQ.1 G with h|h
   ·exact ha.2 x h
   ·cases m with
    |nil=>cases h
    |cons y r=>
     rcases agN.1 h with e|h
     ·rw[e];exact z.2 y agO
     ·exact z.2 x (agK _ h)
structure Nk(pg:Nat->ByteArray){d:Nat}(c:Ch)(t:T d)(r:Ch×T d):Prop where
 fr:Fr pg t.af c r.1
 b_:r.2.pg=t.pg
 lays:r.2.lays r.1 pg
 fits:r.2.aI≠[]->r.2.eU
 sub:∀k∈r.2.af,k∈t.af
 nd:r.2.af.Nodup
theorem Eu{leaf:Bool}{a b:List En}(h:a.Sublist b):cH leaf a<=cH leaf b:=by
 induction h with
 |slnil=>exact Nat.le_refl _
 |cons x _ y=>rw[bK];omega
 |cons_cons x _ y=>rw[bK,bK];omega
theorem Bw(leaf:Bool):ah leaf []<=1024:=by
 unfold ah cH;simp
