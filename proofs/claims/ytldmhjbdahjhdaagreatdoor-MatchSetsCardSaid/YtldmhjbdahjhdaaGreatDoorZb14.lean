/-
  Part 14 of the proof.
-/
import Derived.Test.YtldmhjbdahjhdaaGreatDoorZb13
open Go.Lib renaming hid->amO,extract_data->am2,frozen_of_heap->anh,wpList_append_run->ans,compact->anS
open Go.Proofs.Tryz renaming prog->amP,results123->am0,underlying57->am1,results70->am8,sizeOf104->ani,isAgg104->anx,ntmps148->anL,func148->anP
open Int renaming mul_comm->amQ,cast_ofNat_Int->amY,natCast_add->amZ,natCast_mul->am6
open List renaming length_append->amR,take_of_length_le->amV,length_drop->am3,length_cons->am4,take_length->am5,length_nil->am7,eq_nil_of_length_eq_zero->anb,getD_eq_getElem?_getD->anf,drop_eq_getElem_cons->anj,flatMap_append->anw,flatMap_cons->anA,map_append->anG,length_map->anH
open Go.World renaming cell?_alloc_new->amS,cell?_setCell_other->ank,cell?_setCell_same->ann,ownsRow_nil->anB,size_alloc->anE
open Go renaming bodyPost_ret->amT,results->ana
open Option.some renaming inj->amU
open Go.Value renaming int->amW,ownBlock->anI
open Nat renaming lt_of_lt_of_le->amX,reducePow->am_,one_mul->anl,le_refl->anm,le_trans->anq,add_assoc->anK,pow_succ->anO,zero_le->anQ,pow_mul->anR
open Prod.mk renaming injEq->am9
open Go.World.ownsRow renaming cells->anc,alloc->anT
open Go.ByteArray renaming toList_eq->ane
open Array renaming getElem?_eq_some_iff->ang,size_append->anC
open Option renaming map_congr->ano,map_map->anu
open BitVec renaming ofInt->anp
open Go.Calls renaming mono->anr
open UInt8 renaming toNat_lt->ant
open Go.IntKind renaming i64->anv,wrap_i64->anF,u8->anU
open Go.Sort renaming ahead->anz,grow->anN
open List.Pairwise renaming nil->anD
open List.Perm renaming refl->anJ
open Go.BinOp renaming and->anM
set_option maxRecDepth 100000
set_option maxHeartbeats 100000000
set_option linter.all false
namespace Go.Proofs.YtldmhjbdahjhdaaGreatDoor
section
open Go Go.RowKit
def wS(xs:List aa):List UInt8:=if eR xs then bV xs else[]
def yN(xs:List aa):Value:=if eR xs then .nilIface else .iface 24 (.int .i64 1)
theorem QR{xs:List aa}{j:Nat}(h:j<xs.length):xs.getD j (0,0)=xs[j]:=by simp[anf,h]
theorem Ba(xs:List aa)(b a3 c:Nat)(ao:Option Addr)(b1:0<xs.length->ao=some ⟨b,a3,none⟩)(hl:xs.length<=1000000)(w:World)(hc:bC w b a3 xs):
  Calls amP 94 #[.slice ao xs.length c] w (ar w (.tuple #[.string ⟨(wS xs).toArray⟩,yN xs])):=by
 have HC:=amO hc;have HA:=amO b1;clear hc b1;go_enter Tryz.func94,Tryz.ntmps94;go_wp2_with fail
 refine(QQ xs b a3 c ao HA.out (by omega) _ HC.out).mono ?_;rintro e D ⟨rfl,O⟩;cases hp:eR xs
 ·go_wp2_with fail
  go_ret2;exact ar.mk (by unfold wS yN;rw[hp];rfl) O
 ·have HP:=amO hp;clear hp;go_wp2_with fail
  have d2:=O.alloc (.cells #[.int .i64 0,.int .i64 0] 104);have V:(D.alloc (.cells #[.int .i64 0,.int .i64 0] 104)).cell? ⟨D.heap.size,0,none⟩=some (.int .i64 0):=by rw[amS];rfl
  have Y:(D.alloc (.cells #[.int .i64 0,.int .i64 0] 104)).cell? ⟨D.heap.size,1,none⟩=some (.int .i64 0):=by rw[amS];rfl
  have z0:∀o,(D.alloc (.cells #[.int .i64 0,.int .i64 0] 104)).frozen? ⟨D.heap.size,o,none⟩=false:=fun o=>by simp
  have Q:w.heap.size<=D.heap.size:=O.size;have d3:D.heap.size<(D.alloc (.cells #[.int .i64 0,.int .i64 0] 104)).heap.size:=by simp
  generalize(D.alloc (.cells #[.int .i64 0,.int .i64 0] 104))=W0 at*;generalize D.heap.size=L at*;clear O;have HQ:=amO (And.intro V (And.intro Y z0));clear V Y z0;go_loopw [15,4] (fun i u w'=>∃j:Nat,j<=xs.length/\i=.int .i64 j/\Gr w w'/\ey w w' u (xE xs j)/\u.ownBlock≠some L/\L<w'.heap.size/\(w'.cell? ⟨L,0,none⟩=some (.int .i64 (dQ xs j).1)/\w'.cell? ⟨L,1,none⟩=some (.int .i64 (dQ xs j).2)/\∀o,w'.frozen? ⟨L,o,none⟩=false)) (fun i _ _=>xs.length-(intOf i).toNat)
  case atStart=>exact⟨0,anQ _,rfl,d2,⟨rfl,.inl ⟨rfl,rfl⟩⟩,by simp[anI],d3,HQ.out⟩
  case round=>
   obtain⟨j,hj,rfl,hg,ho,s,d4,V,Y,z⟩:=hrel;have HO:=amO ho;clear ho;by_cases a4:j<xs.length
   ·obtain rfl:=HA.out (by omega);obtain⟨c0,c1⟩:=HC.out.gr hg j a4;have S:=sA a4 (fun i hi=>sy HP.out i (by omega));have a5:=xF xs j;have e7:=QN (l:=xs) j hj (fun i hi=>sy HP.out i (by omega));have U:dQ xs (j+1)=xs.getD j (0,0):=rfl;rw[QR a4]at S a5 U;rw[iD]at S;generalize hx:xs[j]=x at*;generalize ha:dQ xs j=a at*;obtain⟨G,M⟩:=x;obtain⟨a1,a2⟩:=a;simp only at c0 c1 V Y S U;have b5:=amO a5;have b6:=amO U;have H:u4.ownBlock≠some wr.heap.size:=fun h=>Nat.lt_irrefl _ (ba (ey.row HO.out) _ h);have I:Gr wr (wr.alloc (.cells #[.int .i64 G,.int .i64 M] 104)):=(Gr.refl wr).alloc _;have p0:(wr.alloc (.cells #[.int .i64 G,.int .i64 M] 104)).cell? ⟨wr.heap.size,0,none⟩=some (.int .i64 G):=by rw[amS];rfl
    have p1:(wr.alloc (.cells #[.int .i64 G,.int .i64 M] 104)).cell? ⟨wr.heap.size,1,none⟩=some (.int .i64 M):=by rw[amS];rfl
    have r0:=I.keeps V;have r1:=I.keeps Y;have Z:=fun o=>(I.frozen o d4).trans (z o);have g6:L≠wr.heap.size:=by omega
    clear a5 U;by_cases a6:G=a1
    ·subst a6;have g7:=S.2.2.2.2.2.2 rfl;go_wp2_with fail
     refine(xH w _ u4 (xE xs j) ((M-a2)*2) (by omega) (by omega) (by omega) (hg.alloc _) (aL (ey.row HO.out) I)).mono ?_;rintro e w3 ⟨v3,rfl,J,a7,q⟩;have s0:=q.keeps H p0;have s1:=q.keeps H p1;have t0:=q.keeps s r0;have t1:=q.keeps s r1;have y:=(q.2 L (by simp;omega) s).1;have d5:=((q.2 L (by simp;omega) s).2 0).2.trans (Z 0);have d6:=((q.2 L (by simp;omega) s).2 1).2.trans (Z 1);have tz:=fun o=>((q.2 L (by simp;omega) s).2 o).2.trans (Z o);have a8:=q.1;simp only[anE]at a8;have H3:=amO J;clear p0 p1 r0 r1 Z q V Y z J;go_wp2_with fail
     have tw:=AA (u:=.int .i64 G) (v:=.int .i64 M) t0 t1;refine⟨⟨j+1,by omega,by go_num,(a7.setCell (p:=⟨L,0,none⟩) Q _).setCell (p:=⟨L,1,none⟩) Q _,?_,y,by simp;omega,?_⟩,by simp[intOf];omega⟩
     ·rw[b5.out];unfold qd;simp only[if_true];rw[amQ]at H3;exact cq (cq (ey.row H3.out) (a:=⟨L,0,none⟩) y) (a:=⟨L,1,none⟩) y
     ·rw[b6.out];exact⟨tw.1,tw.2,fun o=>by simpa using tz o⟩
    ·have e8:(G !=a1)=true:=by simpa using a6
     go_wp2_with fail
     refine(xH w _ u4 (xE xs j) ((G-a1)*2+1) (by omega) (by omega) (by omega) (hg.alloc _) (aL (ey.row HO.out) I)).mono ?_;rintro e w3 ⟨v3,rfl,J,a7,q⟩;have s0:=q.keeps H p0;have s1:=q.keeps H p1;have t0:=q.keeps s r0;have t1:=q.keeps s r1;have y:=(q.2 L (by simp;omega) s).1;have c5:=(q.2 wr.heap.size (by simp) H).1;have tz:=fun o=>((q.2 L (by simp;omega) s).2 o).2.trans (Z o);have a8:=q.1;simp only[anE]at a8;have H3:=amO J;clear p0 p1 r0 r1 Z q V Y z J;go_wp2_with fail
     have g8:=lT 4 ((G-a1)*2+1).toNat (by rw[show 128^(4+1)=34359738368 by decide];omega);refine(xH w _ v3 _ M (by omega) (by omega) (by rw[amR];omega) a7 H3.out).mono ?_;rintro e w4 ⟨v4,rfl,c6,d7,B⟩;have g9:=B.keeps c5 s0;have h0:=B.keeps c5 s1;have d8:=B.keeps y t0;have d9:=B.keeps y t1;have a9:=(B.2 L (by omega) y).1;have d5:=((B.2 L (by omega) y).2 0).2.trans (tz 0);have d6:=((B.2 L (by omega) y).2 1).2.trans (tz 1);have e0:=fun o=>((B.2 L (by omega) y).2 o).2.trans (tz o);have h1:=B.1;have H4:=amO c6;clear s0 s1 t0 t1 tz B c6;go_wp2_with fail
     have tw:=AA (u:=.int .i64 G) (v:=.int .i64 M) d8 d9;refine⟨⟨j+1,by omega,by go_num,(d7.setCell (p:=⟨L,0,none⟩) Q _).setCell (p:=⟨L,1,none⟩) Q _,?_,a9,by simp;omega,?_⟩,by simp[intOf];omega⟩
     ·rw[b5.out];unfold qd;simp only[if_neg a6];rw[amQ,List.append_assoc]at H4;exact cq (cq (ey.row H4.out) (a:=⟨L,0,none⟩) a9) (a:=⟨L,1,none⟩) a9
     ·rw[b6.out];exact⟨tw.1,tw.2,fun o=>by simpa using e0 o⟩
   ·obtain rfl:j=xs.length:=by omega
    have h2:=oQ HO.out;go_wp2_with fail
    go_ret2;exact ar.mk (by unfold wS yN;rw[HP.out];rfl) hg
def Bb(l:List UInt8):Option (Nat×List UInt8):=fB 5 l
def kJ(l:List UInt8):Value:=match Bb l with
 |some (n,r)=>.tuple #[.int .i64 (n:Int),.string ⟨r.toArray⟩,.bool true]
 |none=>.tuple #[.int .i64 0,.string ⟨#[]⟩,.bool false]
def D0(l:List UInt8)(k n:Nat):Prop:=n<128^k/\Bb l=(fB (5-k) (l.drop k)).map fun x=>(n+128^k*x.1,x.2)
theorem Lb(l:List UInt8):D0 l 0 0:=⟨by simp,by simp[Bb]⟩
theorem nX{l:List UInt8}{k n:Nat}(h:D0 l k n)(B:k<5)(y:k<l.length)(hc:¬l[k].toNat<128):D0 l (k+1) (n+128^k*(l[k].toNat-128)):=by
 have D:=ant l[k];refine⟨?_,?_⟩
 ·have s:=h.1;rw[anO];generalize 128^k=P at s⊢;have b:P*(l[k].toNat-128)<=P*127:=Nat.mul_le_mul_left _ (by omega);exact Nat.lt_of_lt_of_eq (Nat.add_lt_add_of_lt_of_le s b) (by omega)
 ·have b:=h.2;obtain⟨m,z⟩:∃m,5-k=m+1:=⟨4-k,by omega⟩;have q:5-(k+1)=m:=by omega
  rw[z,anj y,fB,if_neg hc,anu]at b;rw[b,q];refine ano fun x _=>?_;simp only[Function.comp_apply,am9,and_true];rw[anO,Nat.mul_add,<-Nat.mul_assoc,anK]
theorem qh{l:List UInt8}{k n:Nat}(h:D0 l k n)(s:k<5)(q:k<l.length)(hc:l[k].toNat<128):Bb l=some (n+128^k*l[k].toNat,l.drop (k+1)):=by
 have b:=h.2;rw[anj q,show 5-k=(5-(k+1))+1 by omega,fB,if_pos hc]at b;exact b
theorem Ot{l:List UInt8}{k n:Nat}(h:D0 l k n)(q:k=5\/l.length<=k):Bb l=none:=by
 have b:=h.2;rcases q with rfl|q
 ·rw[Nat.sub_self,fB]at b;exact b
 ·rw[List.drop_of_length_le q]at b;rw[b];cases 5-k<;>rfl
theorem SY(c:UInt8):bits anM anU (c.toNat:Int) 127=((c.toNat % 128:Nat):Int):=by
 have h:∀r:Fin 256,bits anM anU ((r.val:Nat):Int) 127=((r.val % 128:Nat):Int):=by decide+kernel
 exact h ⟨c.toNat,ant c⟩
theorem Ou(n d k:Nat)(hn:n<128^k)(s:k<5)(hd:d<128):bits BinOp.or anv (n:Int) ((128^k*d:Nat):Int)=((n+128^k*d:Nat):Int):=by
 have q:128^k<=268435456:=by
  rw[show(268435456:Nat)=128^4 by decide];exact Nat.pow_le_pow_right (by omega) (by omega)
 have y:128^k*d<=268435456*127:=Nat.mul_le_mul q (by omega);show anv.wrap ((anp 64 (n:Int)|||anp 64 ((128^k*d:Nat):Int)).toNat:Int)=_;rw[BitVec.toNat_or,et _ (by omega),et _ (by omega),anF];have h:=Nat.two_pow_add_eq_or_of_lt (i:=7*k) (b:=n) (by rw[anR];exact hn) d;rw[anR,show(2:Nat)^7=128 by decide]at h;rw[Nat.or_comm,<-h];omega
theorem FQ(s:ByteArray)(hs:s.size<4294967281)(w:World):Calls amP 123 #[.string s] w (ar w (kJ s.data.toList)):=by
 go_enter Tryz.func123,Tryz.ntmps123;go_wp2_with fail
 go_loop [10,5] (fun i u=>∃k n:Nat,k<=5/\k<=s.size/\i=.int .i64 k/\u=.int .i64 n/\D0 s.data.toList k n) (fun i _=>5-(intOf i).toNat)
 case atStart=>exact⟨0,0,by omega,by omega,rfl,rfl,Lb _⟩
 case round=>
  obtain⟨k,n,U,V,rfl,rfl,hi⟩:=hrel;have L:=amO hi;have hn:=hi.1;clear hi;by_cases B:k<5/\k<s.size
  ·obtain⟨S,B⟩:=B;have Q:(k:Int)<min (s.size:Int) 5:=by omega
   have Y:=ant s[k];have O:=eH s k B;have hb:=SY s[k];have hd:=Nat.mod_lt s[k].toNat (show 128>0 by omega);generalize Z:s[k]=H at*;generalize D:H.toNat % 128=d at*;have b:=amO O;have G:=amO D;have M:=Ou n d k hn S hd;clear O D;rcases(show k=0\/k=1\/k=2\/k=3\/k=4 by omega)with rfl|rfl|rfl|rfl|rfl
   ·simp only[am_,anl,am6,amZ,amY,amQ _ (d:Int)]at M hn;cases q:decide ((H.toNat:Int)<128)
    ·go_wp2_with fail
     simp only[decide_eq_false_iff_not]at q;have z:=nX L.out (by omega) (by rw[<-size_data];exact B) (by rw[<-b.out];omega);rw[<-b.out]at z;have D:=G.out;refine⟨⟨_,_,?_,?_,?_,?_,z⟩,by simp[intOf]⟩
     ·omega
     ·omega
     ·rfl
     ·rw[show H.toNat-128=d by omega];simp[amQ]
    ·simp only[decide_eq_true_eq]at q;have y:=qh L.out (by omega) (by rw[<-size_data];exact B) (by rw[<-b.out];omega);rw[<-b.out]at y;have D:=G.out;have I:=amO y;clear y;go_wp2_with fail
     go_region
     go_wp2
     have J:s.extract 1 s.size=⟨(s.data.toList.drop 1).toArray⟩:=by
      apply bz;rw[am2,amV (by rw[am3,<-size_data];omega)]
     refine amT (v:=.tuple #[.int .i64 ((n:Int)+(d:Int)),.string (s.extract 1 s.size),.bool true]) (by simp[ana,am0,go_sem]) rfl ?_;unfold kJ;rw[I.out,J];refine ar.mk ?_ (by repeat(first|exact Gr.refl _|refine Gr.drew ?_));simp only;rw[show H.toNat=d by omega];simp[amQ]
   ·simp only[am_,anl,am6,amZ,amY,amQ _ (d:Int)]at M hn;cases q:decide ((H.toNat:Int)<128)
    ·go_wp2_with fail
     simp only[decide_eq_false_iff_not]at q;have z:=nX L.out (by omega) (by rw[<-size_data];exact B) (by rw[<-b.out];omega);rw[<-b.out]at z;have D:=G.out;refine⟨⟨_,_,?_,?_,?_,?_,z⟩,by simp[intOf]⟩
     ·omega
     ·omega
     ·rfl
     ·rw[show H.toNat-128=d by omega];simp[amQ]
    ·simp only[decide_eq_true_eq]at q;have y:=qh L.out (by omega) (by rw[<-size_data];exact B) (by rw[<-b.out];omega);rw[<-b.out]at y;have D:=G.out;have I:=amO y;clear y;go_wp2_with fail
     go_region
     go_wp2
     have J:s.extract 2 s.size=⟨(s.data.toList.drop 2).toArray⟩:=by
      apply bz;rw[am2,amV (by rw[am3,<-size_data];omega)]
     refine amT (v:=.tuple #[.int .i64 ((n:Int)+(d:Int)*128),.string (s.extract 2 s.size),.bool true]) (by simp[ana,am0,go_sem]) rfl ?_;unfold kJ;rw[I.out,J];refine ar.mk ?_ (by repeat(first|exact Gr.refl _|refine Gr.drew ?_));simp only;rw[show H.toNat=d by omega];simp[amQ]
   ·simp only[am_,anl,am6,amZ,amY,amQ _ (d:Int)]at M hn;cases q:decide ((H.toNat:Int)<128)
    ·go_wp2_with fail
     simp only[decide_eq_false_iff_not]at q;have z:=nX L.out (by omega) (by rw[<-size_data];exact B) (by rw[<-b.out];omega);rw[<-b.out]at z;have D:=G.out;refine⟨⟨_,_,?_,?_,?_,?_,z⟩,by simp[intOf]⟩
     ·omega
     ·omega
     ·rfl
     ·rw[show H.toNat-128=d by omega];simp[amQ]
    ·simp only[decide_eq_true_eq]at q;have y:=qh L.out (by omega) (by rw[<-size_data];exact B) (by rw[<-b.out];omega);rw[<-b.out]at y;have D:=G.out;have I:=amO y;clear y;go_wp2_with fail
     go_region
     go_wp2
     have J:s.extract 3 s.size=⟨(s.data.toList.drop 3).toArray⟩:=by
      apply bz;rw[am2,amV (by rw[am3,<-size_data];omega)]
     refine amT (v:=.tuple #[.int .i64 ((n:Int)+(d:Int)*16384),.string (s.extract 3 s.size),.bool true]) (by simp[ana,am0,go_sem]) rfl ?_;unfold kJ;rw[I.out,J];refine ar.mk ?_ (by repeat(first|exact Gr.refl _|refine Gr.drew ?_));simp only;rw[show H.toNat=d by omega];simp[amQ]
   ·simp only[am_,anl,am6,amZ,amY,amQ _ (d:Int)]at M hn;cases q:decide ((H.toNat:Int)<128)
    ·go_wp2_with fail
     simp only[decide_eq_false_iff_not]at q;have z:=nX L.out (by omega) (by rw[<-size_data];exact B) (by rw[<-b.out];omega);rw[<-b.out]at z;have D:=G.out;refine⟨⟨_,_,?_,?_,?_,?_,z⟩,by simp[intOf]⟩
     ·omega
     ·omega
     ·rfl
     ·rw[show H.toNat-128=d by omega];simp[amQ]
    ·simp only[decide_eq_true_eq]at q;have y:=qh L.out (by omega) (by rw[<-size_data];exact B) (by rw[<-b.out];omega);rw[<-b.out]at y;have D:=G.out;have I:=amO y;clear y;go_wp2_with fail
     go_region
     go_wp2
     have J:s.extract 4 s.size=⟨(s.data.toList.drop 4).toArray⟩:=by
      apply bz;rw[am2,amV (by rw[am3,<-size_data];omega)]
     refine amT (v:=.tuple #[.int .i64 ((n:Int)+(d:Int)*2097152),.string (s.extract 4 s.size),.bool true]) (by simp[ana,am0,go_sem]) rfl ?_;unfold kJ;rw[I.out,J];refine ar.mk ?_ (by repeat(first|exact Gr.refl _|refine Gr.drew ?_));simp only;rw[show H.toNat=d by omega];simp[amQ]
   ·simp only[am_,anl,am6,amZ,amY,amQ _ (d:Int)]at M hn;cases q:decide ((H.toNat:Int)<128)
    ·go_wp2_with fail
     simp only[decide_eq_false_iff_not]at q;have z:=nX L.out (by omega) (by rw[<-size_data];exact B) (by rw[<-b.out];omega);rw[<-b.out]at z;have D:=G.out;refine⟨⟨_,_,?_,?_,?_,?_,z⟩,by simp[intOf]⟩
     ·omega
     ·omega
     ·rfl
     ·rw[show H.toNat-128=d by omega];simp[amQ]
    ·simp only[decide_eq_true_eq]at q;have y:=qh L.out (by omega) (by rw[<-size_data];exact B) (by rw[<-b.out];omega);rw[<-b.out]at y;have D:=G.out;have I:=amO y;clear y;go_wp2_with fail
     go_region
     go_wp2
     have J:s.extract 5 s.size=⟨(s.data.toList.drop 5).toArray⟩:=by
      apply bz;rw[am2,amV (by rw[am3,<-size_data];omega)]
     refine amT (v:=.tuple #[.int .i64 ((n:Int)+(d:Int)*268435456),.string (s.extract 5 s.size),.bool true]) (by simp[ana,am0,go_sem]) rfl ?_;unfold kJ;rw[I.out,J];refine ar.mk ?_ (by repeat(first|exact Gr.refl _|refine Gr.drew ?_));simp only;rw[show H.toNat=d by omega];simp[amQ]
  ·have Q:¬(k:Int)<min (s.size:Int) 5:=by omega
   go_wp2_with fail
   refine amT (v:=.tuple #[.int .i64 0,.string ⟨#[]⟩,.bool false]) (by simp[ana,am0,go_sem]) rfl ?_;unfold kJ;rw[Ot L.out (by rw[<-size_data];omega)];exact ar.mk rfl (Gr.refl _)
def cO(xs:List aa):List Value:=xs.flatMap fun p=>[.int .i64 p.1,.int .i64 p.2]
def cS(a0 w:World)(v:Value)(xs:List aa):Prop:=w.ownsRow a0.heap.size 104 2 v xs.length (cO xs)
theorem cS.row{a0 w:World}{v:Value}{xs:List aa}(h:cS a0 w v xs):w.ownsRow a0.heap.size 104 2 v xs.length (cO xs):=h
theorem lV:(amP.info? 104).map (fun i=>(i.zero,i.size,i.bytes))=some (some (.agg #[.int .i64 0,.int .i64 0]),2,16):=by kernel_rfl
theorem vg{a0 w:World}{v:Value}{xs:List aa}{x:aa}(h:w.ownsRow a0.heap.size 104 2 v (xs.length+1) (cO xs++[.int .i64 x.1,.int .i64 x.2])):cS a0 w v (xs++[x]):=by
 unfold cS;have e:cO (xs++[x])=cO xs++[.int .i64 x.1,.int .i64 x.2]:=by unfold cO;rw[anw];simp
 rw[e,amR];exact h
theorem mF(a b:Int):∀u∈[amW .i64 a,amW .i64 b],u.oneCell'=true:=by
 intro u hu;simp only[List.mem_cons,List.mem_nil_iff,or_false]at hu;rcases hu with rfl|rfl<;>rfl
theorem lW:∀(xs:List aa) (i:Nat) (h:i<xs.length),(cO xs)[i*2]?=some (.int .i64 xs[i].1)/\(cO xs)[i*2+1]?=some (.int .i64 xs[i].2)
 |[],i,h=>by simp at h
 |x::xs,0,_=>by simp[cO]
 |x::xs,i+1,h=>by
  have:=lW xs i (by simpa using h);have e:(i+1)*2=i*2+2:=by omega
  rw[e];unfold cO;rw[anA];simpa[cO]using this
theorem cS.places{a0 w:World}{v:Value}{xs:List aa}(h:cS a0 w v xs):∃y b c,v=.slice y xs.length c/\(0<xs.length->y=some ⟨b,0,none⟩)/\bC w b 0 xs:=by
 have hc:=fun g q=>anc (g:=g) h.row q;rcases h.row.2 with⟨rfl,D⟩|⟨g,cap,G,rfl,_⟩
 ·have s:xs.length=0:=D;exact⟨none,0,0,by rw[s],fun h=>by omega,fun i hi=>by omega⟩
 ·refine⟨_,g,cap,rfl,fun _=>rfl,fun i hi=>?_⟩;have q:=lW xs i hi;have z:=hc g rfl _ _ q.1;have B:=hc g rfl _ _ q.2;have e:∀j,(⟨g,0,none⟩:Addr).add j=⟨g,0+j,none⟩:=by
   intro j;unfold Addr.add;split<;>simp_all
  rw[e]at z B;exact⟨z,by rw[anK];exact B⟩
def jV(w:World)(l:List UInt8)(e:Ending)(w':World):Prop:=
 match jU l with
 |none=>e=.returned (.tuple #[.slice none 0 0,.iface 24 (.int .i64 3)])/\Gr w w'
 |some xs=>∃v,e=.returned (.tuple #[v,.nilIface])/\cS w w' v xs/\Gr w w'
theorem and_one(n:Nat)(h:n<9223372036854775808):bits anM anv (n:Int) 1=((n % 2:Nat):Int):=by
 show anv.wrap ((anp 64 (n:Int)&&&anp 64 ((1:Nat):Int)).toNat:Int)=_;rw[BitVec.toNat_and,et _ (by omega),et _ (by omega),Nat.and_two_pow_sub_one_eq_mod n 1];rw[anF];omega
theorem qU{l r:List UInt8}{n:Nat}(h:fB 5 l=some (n,r)):kJ l=.tuple #[.int .i64 (n:Int),.string ⟨r.toArray⟩,.bool true]:=by
 unfold kJ Bb;rw[h]
theorem wy{l:List UInt8}(h:fB 5 l=none):kJ l=.tuple #[.int .i64 0,.string ⟨#[]⟩,.bool false]:=by
 unfold kJ Bb;rw[h]
theorem IF{l:List UInt8}(h:la (0,0) l=none):jU l=none:=by unfold jU;rw[h]
theorem sC{P:Program}{a0 w:World}{y:Array Oper}{rest:List Oper}{o:Oper}{a:Act}{Q:Exit->Act->World->Prop}(G:o.guard=none)(s x:Operand)(t:TypeId)
  (S:o.op=.call {callee:=.builtin .append,args:=#[s,x],argTypes:=#[t,t]}) (e:TypeId) (i:TypeInfo) (z:Value) (size bytes:Nat) (U:P.underlying t=some (.slice e)) (hi:P.info? e=some i)
  (V:i.zero=some z) (q:i.size=size) (I:i.bytes=bytes) (J:z.cells.size=size) (L:0<size) (v:Value) (n:Nat) (xs:List Value) (hs:a.eval s=v) (B:w.ownsRow a0.heap.size e size v n xs)
  (us:List Value) (M:us.length=size) (Y:∀u∈us,u.oneCell'=true) (H:Nat) (Z:w.heap.size=H) (hx:a.eval x=.slice (some ⟨H,0,none⟩) 1 1) (hg:Gr a0 w) (O:n+1<=4611686018427387904) (b:(n+1)*bytes<=140737488355328)
  (h:∀D w',w'.ownsRow a0.heap.size e size D (n+1) (xs++us)->Gr a0 w'->kI v D w w'->wpList P y Q rest (a.put o.dst D) w'):wpList P y Q (o::rest) a (w.alloc (.cells us.toArray e)):=by
 subst Z;exact pL G s x t S e i z size bytes U hi V q I J L v n xs hs B us M Y hx hg O b h
def Vp(w:World)(L:Nat)(s:ByteArray)(x u:Value)(w':World):Prop:=
 ∃(t:ByteArray) (us:List aa) (a:aa),x=.string t/\t.size+us.length<=s.size/\Gr w w'/\cS w w' u us/\u.ownBlock≠some L/\L<w'.heap.size/\
  (w'.cell? ⟨L,0,none⟩=some (.int .i64 a.1)/\w'.cell? ⟨L,1,none⟩=some (.int .i64 a.2)/\∀o,w'.frozen? ⟨L,o,none⟩=false)/\
  (0<=a.1/\a.1<=34359738368*us.length/\0<=a.2/\a.2<=34359738368*(us.length+1))/\la (0,0) s.data.toList=(la a t.data.toList).map (us++·)
theorem QS{l t r:List UInt8}{us:List aa}{b q:Int}{n:Nat}(h:la (0,0) l=(la (b,q) t).map (us++·))(s:fB 5 t=some (n,r))(y:n % 2=0):
  la (0,0) l=(la (b,q+(n:Int)/2) r).map ((us++[(b,q+(n:Int)/2)])++·):=by
 rw[h,DY s y,anu,show((n/2:Nat):Int)=(n:Int)/2 by omega];refine ano fun x _=>?_;simp
theorem SZ{l t r q:List UInt8}{us:List aa}{b y:Int}{n m:Nat}(h:la (0,0) l=(la (b,y) t).map (us++·))(z:fB 5 t=some (n,r))(B:¬n % 2=0)(s:fB 5 r=some (m,q)):
  la (0,0) l=(la (b+(n:Int)/2,(m:Int)) q).map ((us++[(b+(n:Int)/2,(m:Int))])++·):=by
 rw[h,IE z B s,anu,show((n/2:Nat):Int)=(n:Int)/2 by omega];refine ano fun x _=>?_;simp
theorem M_{l t:List UInt8}{us:List aa}{a:aa}(h:la (0,0) l=(la a t).map (us++·))(b:la a t=none):jU l=none:=by
 apply IF;rw[h,b];rfl
theorem S6(s:ByteArray)(hs:s.size<=1000000)(w:World):Calls amP 70 #[.string s] w (jV w s.data.toList):=by
 obtain⟨i0,hi,c4,c5,c6⟩:=info_parts lV;go_enter Tryz.func70,Tryz.ntmps70;go_wp2_with fail
 have e3:=(Gr.refl w).alloc (.cells #[.int .i64 0,.int .i64 0] 104);have q0:(w.alloc (.cells #[.int .i64 0,.int .i64 0] 104)).cell? ⟨w.heap.size,0,none⟩=some (.int .i64 0):=by rw[amS];rfl
 have q1:(w.alloc (.cells #[.int .i64 0,.int .i64 0] 104)).cell? ⟨w.heap.size,1,none⟩=some (.int .i64 0):=by rw[amS];rfl
 have z0:∀o,(w.alloc (.cells #[.int .i64 0,.int .i64 0] 104)).frozen? ⟨w.heap.size,o,none⟩=false:=fun o=>by simp
 have c7:w.heap.size<(w.alloc (.cells #[.int .i64 0,.int .i64 0] 104)).heap.size:=by simp
 generalize(w.alloc (.cells #[.int .i64 0,.int .i64 0] 104))=W0 at*;generalize c8:w.heap.size=L at c7 q0 q1 z0⊢;have S:w.heap.size<=L:=Nat.le_of_eq c8;clear c8;have HQ:=amO (And.intro q0 (And.intro q1 z0));clear q0 q1 z0;go_loopw [6,4] (fun x u w'=>Vp w L s x u w') (fun x _ _=>lenOf x)
 case atStart=>exact⟨s,[],(0,0),rfl,by simp,e3,⟨rfl,.inl ⟨rfl,rfl⟩⟩,by simp[anI],c7,HQ.out,by simp,by simp⟩
 case round=>
  obtain⟨t,us,⟨G,a2⟩,rfl,e4,hg,ho,B,c9,⟨q0,q1,z⟩,e5,d0⟩:=hrel;have HO:=amO ho;have HR:=amO d0;clear ho d0;simp only at q0 q1 e5;by_cases M:t.data.toList=[]
  ·have hb:(!t.toList.isEmpty)=false:=by rw[ane,M];rfl
   have HT:=amO M;clear M;rw[HT.out]at HR;have d2:la (0,0) s.data.toList=some us:=by rw[HR.out,ID];simp
   have b3:=amO d2;clear d2;obtain⟨ao,bb,cc,rfl,d3,d4⟩:=cS.places HO.out;have HA:=amO d3;have HP:=amO d4;clear d3 d4;go_wp2_with fail
   refine(Ba us bb 0 cc ao HA.out (by omega) _ HP.out).mono ?_;rintro e Q ⟨rfl,b⟩;cases U:eR us
   ·have H:jU s.data.toList=none:=by unfold jU;rw[b3.out];simp[U]
    have Y:=amO H;unfold yN wS;simp only[U];clear U H;go_wp2_with fail
    refine amT (v:=.tuple #[.slice none 0 0,.iface 24 (.int .i64 3)]) (by simp[ana,am8,go_sem]) rfl ?_;unfold jV;rw[Y.out];exact⟨rfl,hg.trans b⟩
   ·have b4:(wS us)=bV us:=by unfold wS;rw[U];rfl
    have b5:yN us=.nilIface:=by unfold yN;rw[U];rfl
    rw[b4,b5];cases hw:bV us==s.data.toList
    ·have H:jU s.data.toList=none:=by unfold jU;rw[b3.out];simp[U,hw]
     have Y:=amO H;clear U H b4 b5;have h9:(bV us==s.toList)=false:=by rw[ane];exact hw
     clear hw;go_wp2_with fail
     refine amT (v:=.tuple #[.slice none 0 0,.iface 24 (.int .i64 3)]) (by simp[ana,am8,go_sem]) rfl ?_;unfold jV;rw[Y.out];exact⟨rfl,hg.trans b⟩
    ·have H:jU s.data.toList=some us:=by unfold jU;rw[b3.out];simp[U,hw]
     have Y:=amO H;have d5:(⟨(bV us).toArray⟩:ByteArray)=s:=by apply bz;simpa using hw
     rw[d5];clear U H b4 b5 d5;go_wp2_with fail
     refine amT (v:=.tuple #[.slice ao us.length cc,.nilIface]) (by simp[ana,am8,go_sem]) rfl ?_;unfold jV;rw[Y.out];exact⟨_,rfl,aL (cS.row HO.out) b,hg.trans b⟩
  ·have hb:(!t.toList.isEmpty)=true:=by rw[ane];simpa using M
   have HT:=amO M;clear M;cases O:fB 5 t.data.toList with
   |none=>
    have HG:=amO O;clear O;go_wp2_with fail
    refine(FQ t (by omega) _).mono ?_;rintro e Q ⟨rfl,b⟩;rw[wy HG.out];go_wp2_with fail
    refine amT (v:=.tuple #[.slice none 0 0,.iface 24 (.int .i64 3)]) (by simp[ana,am8,go_sem]) rfl ?_;unfold jV;rw[M_ HR.out (On HT.out HG.out)];exact⟨rfl,hg.trans b⟩
   |some nr=>
    obtain⟨n,r⟩:=nr;have HG:=amO O;have e6:=IB 5 _ _ _ O;have d6:=wq 5 _ _ _ O;rw[show 128^5=34359738368 by decide]at e6;rw[<-size_data]at d6;have b1:=and_one n (by omega);obtain⟨R,rfl⟩:∃R:ByteArray,R.data.toList=r:=⟨⟨r.toArray⟩,rfl⟩;rw[<-size_data]at d6;clear O;by_cases a4:n % 2=0
    ·have I:((n % 2:Nat):Int)=0:=by omega
     rw[I]at b1;go_wp2_with fail
     refine(FQ t (by omega) _).mono ?_;rintro e Q ⟨rfl,b⟩;rw[qU HG.out];have b6:=b.keeps q0;have b7:=b.keeps q1;have z':=fun o=>(b.frozen o c9).trans (z o);have e7:=z' 0;have e8:=z' 1;have b8:=cq (aL (cS.row HO.out) b) (a:=⟨L,1,none⟩) (u:=.int .i64 (a2+(n:Int)/2)) B;have b9:=(hg.trans b).setCell (p:=⟨L,1,none⟩) S (.int .i64 (a2+(n:Int)/2));have c0:(Q.setCell ⟨L,1,none⟩ (.int .i64 (a2+(n:Int)/2))).cell? ⟨L,0,none⟩=some (.int .i64 G):=(ank _ _ _ _ (by simp)).trans b6;have c1:(Q.setCell ⟨L,1,none⟩ (.int .i64 (a2+(n:Int)/2))).cell? ⟨L,1,none⟩=some (.int .i64 (a2+(n:Int)/2)):=ann _ _ _ b7;have i1:=b.size;go_wp2_with(at_builtin;refine sC (a0:=w) rfl _ _ 57 rfl 104 i0 (.agg #[.int .i64 0,.int .i64 0]) 2 16 am1 hi c4 c5 c6 rfl (by decide) _ _ _ rfl b8 [_,_] rfl (mF _ _) Q.heap.size (by simp) rfl b9 (by omega) (by omega) ?_;intro v4 w4 J c2 q)
     have Z:=q.2 L (by simp;omega) B;refine⟨⟨R,us++[(G,a2+(n:Int)/2)],(G,a2+(n:Int)/2),rfl,by rw[amR];simp only[am4,am7];omega,c2,vg (x:=(G,a2+(n:Int)/2)) J,Z.1,by have:=q.1;simp at this;omega,⟨q.keeps B c0,q.keeps B c1,fun o=>(Z.2 o).2.trans (by simpa using z' o)⟩,?_,QS HR.out HG.out a4⟩,?_⟩
     ·rw[amR];simp only[am4,am7];omega
     ·show R.size<t.size;omega
    ·have I:((n % 2:Nat):Int)=1:=by omega
     rw[I]at b1;go_wp2_with fail
     refine(FQ t (by omega) _).mono ?_;rintro e Q ⟨rfl,b⟩;rw[qU HG.out];have b6:=b.keeps q0;have b7:=b.keeps q1;have z':=fun o=>(b.frozen o c9).trans (z o);have e7:=z' 0;have e8:=z' 1;have i2:=b.size;have d7:=((hg.trans b).setCell (p:=⟨L,0,none⟩) S (.int .i64 (G+(n:Int)/2))).setCell (p:=⟨L,1,none⟩) S (.int .i64 0);have tw:=AA (u:=.int .i64 (G+(n:Int)/2)) (v:=.int .i64 0) b6 b7;have e9:=cq (cq (aL (cS.row HO.out) b) (a:=⟨L,0,none⟩) (u:=.int .i64 (G+(n:Int)/2)) B) (a:=⟨L,1,none⟩) (u:=.int .i64 0) B;have c3:∀o,((Q.setCell ⟨L,0,none⟩ (.int .i64 (G+(n:Int)/2))).setCell ⟨L,1,none⟩ (.int .i64 0)).frozen? ⟨L,o,none⟩=false:=fun o=>by simpa using z' o
     have e4:((Q.setCell ⟨L,0,none⟩ (.int .i64 (G+(n:Int)/2))).setCell ⟨L,1,none⟩ (.int .i64 0)).heap.size=Q.heap.size:=by simp
     go_wp2_with fail
     generalize((Q.setCell ⟨L,0,none⟩ (.int .i64 (G+(n:Int)/2))).setCell ⟨L,1,none⟩ (.int .i64 0))=V at*;refine(FQ R (by omega) _).mono ?_;rintro e w2 ⟨rfl,y⟩;cases D:fB 5 R.data.toList with
     |none=>
      have a3:=amO D;clear D;rw[wy a3.out];have y0:=y.keeps tw.1;have y1:=y.keeps tw.2;have yz:=(y.frozen 1 (by omega)).trans (c3 1);go_wp2_with fail
      refine amT (v:=.tuple #[.slice none 0 0,.iface 24 (.int .i64 3)]) (by simp[ana,am8,go_sem]) rfl ?_;unfold jV;rw[M_ HR.out (C_ HG.out a4 a3.out)];exact⟨rfl,(d7.trans y).setCell (p:=⟨L,1,none⟩) S _⟩
     |some g0=>
      obtain⟨m,r2⟩:=g0;have a3:=amO D;have d9:=IB 5 _ _ _ D;have b2:=wq 5 _ _ _ D;rw[show 128^5=34359738368 by decide]at d9;rw[<-size_data]at b2;obtain⟨R2,rfl⟩:∃R:ByteArray,R.data.toList=r2:=⟨⟨r2.toArray⟩,rfl⟩;rw[<-size_data]at b2;clear D;rw[qU a3.out];have y0:=y.keeps tw.1;have y1:=y.keeps tw.2;have yz:=(y.frozen 1 (by omega)).trans (c3 1);have b8:=cq (aL e9 y) (a:=⟨L,1,none⟩) (u:=.int .i64 (m:Int)) B;have b9:=(d7.trans y).setCell (p:=⟨L,1,none⟩) S (.int .i64 (m:Int));have c0:(w2.setCell ⟨L,1,none⟩ (.int .i64 (m:Int))).cell? ⟨L,0,none⟩=some (.int .i64 (G+(n:Int)/2)):=(ank _ _ _ _ (by simp)).trans y0;have c1:(w2.setCell ⟨L,1,none⟩ (.int .i64 (m:Int))).cell? ⟨L,1,none⟩=some (.int .i64 (m:Int)):=ann _ _ _ y1;have i3:=y.size;have g3:=fun o=>(y.frozen o (by omega)).trans (c3 o);go_wp2_with(at_builtin;refine sC (a0:=w) rfl _ _ 57 rfl 104 i0 (.agg #[.int .i64 0,.int .i64 0]) 2 16 am1 hi c4 c5 c6 rfl (by decide) _ _ _ rfl b8 [_,_] rfl (mF _ _) w2.heap.size (by simp) rfl b9 (by omega) (by omega) ?_;intro v4 w4 J c2 q)
      have Z:=q.2 L (by simp;omega) B;refine⟨⟨R2,us++[(G+(n:Int)/2,(m:Int))],(G+(n:Int)/2,(m:Int)),rfl,by rw[amR];simp only[am4,am7];omega,c2,vg (x:=(G+(n:Int)/2,(m:Int))) J,Z.1,by have:=q.1;simp at this;omega,⟨q.keeps B c0,q.keeps B c1,fun o=>(Z.2 o).2.trans (by simpa using g3 o)⟩,?_,SZ HR.out HG.out a4 a3.out⟩,?_⟩
      ·rw[amR];simp only[am4,am7];omega
      ·show R2.size<t.size;omega
end
section
open Go Go.RowKit Go.Shelf Go.Lib Go.Sort
def mG(w:World)(v:Value)(xs:List aa):Prop:=(v=.slice none 0 0/\xs=[])\/∃b q c,v=.slice (some ⟨b,q,none⟩) xs.length c/\b<w.heap.size/\bC w b q xs
theorem mG.gr{w w':World}{v:Value}{xs:List aa}(h:mG w v xs)(g:Gr w w'):mG w' v xs:=by
 rcases h with h|⟨b,q,c,s,y,z⟩
 ·exact .inl h
 ·exact .inr ⟨b,q,c,s,amX y g.size,z.gr g⟩
theorem kK(xs b:List aa):cO (xs++b)=cO xs++cO b:=by
 unfold cO;rw[anw]
theorem kg:∀xs:List aa,(cO xs).length=xs.length*2
 |[]=>rfl
 |x::xs=>by
  have:=kg xs;unfold cO at*;rw[anA,amR,this];simp only[am4,am7];omega
theorem yP:∀(xs:List aa),∀u∈cO xs,u.oneCell'=true:=by
 intro xs u hu;unfold cO at hu;rw[List.mem_flatMap]at hu;obtain⟨p,_,h⟩:=hu;exact mF _ _ u h
theorem bC.cells{w:World}{b q:Nat}{xs:List aa}(h:bC w b q xs):∀j u,(cO xs)[j]?=some u->w.cell? ((⟨b,q,none⟩:Addr).add j)=some u:=by
 intro j u s;have B:j<xs.length*2:=by
  rw[<-kg];exact(List.getElem?_eq_some_iff.1 s).1
 have ha:(⟨b,q,none⟩:Addr).add j=⟨b,q+j,none⟩:=by
  unfold Addr.add
  split<;>simp_all
 have y:=lW xs (j/2) (by omega);have z:=h (j/2) (by omega);rw[ha];rcases Nat.mod_two_eq_zero_or_one j with e|e
 ·rw[show j/2*2=j by omega]at y z;rw[y.1]at s;rw[z.1,amU s]
 ·rw[show j/2*2+1=j by omega]at y;rw[show q+j/2*2+1=q+j by omega]at z;rw[y.2]at s;rw[z.2,amU s]
theorem nY{a0 w:World}{B:Array Oper}{rest:List Oper}{o:Oper}{a:Act}{Q:Exit->Act->World->Prop}(D:o.guard=none)(s x:Operand)
  (O:o.op=.call {callee:=.builtin .append,args:=#[s,x],argTypes:=#[57,57]}) (v:Value) (us:List aa) (hs:a.eval s=v) (q:cS a0 w v us)
  (vs:Value) (xs:List aa) (S:a.eval x=vs) (hi:mG w vs xs) (hl:us.length+xs.length<=1000000) (H:Gr a0 w)
  (h:∀G w',cS a0 w' G (us++xs)->Gr a0 w'->wpList amP B Q rest (a.put o.dst G) w'):wpList amP B Q (o::rest) a w:=by
 obtain⟨y,z,U⟩:∃y,amP.info? 104=some y/\(y.zero,y.size,y.bytes)=(some (.agg #[.int .i64 0,.int .i64 0]),2,16):=by
  have h:=lV;cases V:amP.info? 104 with
  |none=>rw[V]at h;cases h
  |some y=>rw[V]at h;exact⟨y,rfl,amU h⟩
 simp only[am9]at U;obtain⟨I,J,L⟩:=U;rcases hi with⟨rfl,rfl⟩|⟨b,M,c,rfl,hb,Y⟩
 ·rw[List.append_nil]at h;exact ans w D s x 57 57 O v (.slice none 0 0) hs S v w (run_append_owned_none w a0.heap.size 57 o.type 104 y 2 am1 z v us.length (cO us) q) (h v w q H)
 ·refine wpList_append_own w D s x 57 O a0.heap.size 104 y (.agg #[.int .i64 0,.int .i64 0]) 2 16 am1 z I J L rfl (by decide) v us.length (cO us) hs q ⟨b,M,none⟩ xs.length c (cO xs) S (kg xs) Y.cells (yP xs) (by unfold maxLen;omega) (by omega) H.size
   (fun G w' Z h2 _=>h G w' ?_ (iM H h2 (aP q)))
  unfold cS;rw[amR,kK];exact Z
theorem cS.sD{a0 w:World}{v:Value}{xs:List aa}(h:cS a0 w v xs):(v=.slice none 0 0/\xs=[])\/∃B cap,v=.slice (some ⟨B,0,none⟩) xs.length cap/\xs.length<=cap/\a0.heap.size<=B/\B<w.heap.size/\iV w B xs:=by
 have hc:=fun g b=>anc (g:=g) h.row b;rcases h.row.2 with⟨rfl,D⟩|⟨g,cap,H,rfl,G,q,s,_⟩
 ·exact .inl ⟨rfl,anb D⟩
 ·refine .inr ⟨g,cap,rfl,s,G,(ang.1 q).1,fun i hi=>?_⟩;have b:=lW xs i hi;have y:=hc g rfl _ _ b.1;have z:=hc g rfl _ _ b.2;have e:∀j,(⟨g,0,none⟩:Addr).add j=⟨g,j,none⟩:=by
   intro j;unfold Addr.add;split<;>simp_all
  rw[e]at y z;exact⟨⟨y,anh q _⟩,⟨z,anh q _⟩⟩
theorem S7(n:Nat)(hn:n<=1000000)(w:World):
  Calls amP 148 #[.slice none 0 0,.int .i64 n] w fun e w'=>∃v,e=.returned v/\cS w w' v []/\Gr w w':=by
 obtain⟨b,hi,B⟩:∃b,amP.info? 104=some b/\(b.zero,b.size,b.bytes)=(some (.agg #[.int .i64 0,.int .i64 0]),2,16):=by
  have h:=lV;cases q:amP.info? 104 with
  |none=>rw[q]at h;cases h
  |some b=>rw[q]at h;exact⟨b,rfl,amU h⟩
 simp only[am9]at B;obtain⟨s,H,z⟩:=B;have y:=amO s;have J:¬(n:Int)<0:=by omega
 clear s;by_cases q:n=0
 ·subst q;go_enter anP,anL;go_wp2_with fail
  go_ret;exact⟨_,rfl,anB _ _ _ _,Gr.refl _⟩
 ·have g1:0<(n:Int):=by omega
  go_enter anP,anL;have D:∀W:World,(Builtin.append_ #[57,3] 57 #[.slice none 0 0,.int .i64 n]).run amP W=_:=fun W=>Lib.run_append_nil_zeros (P:=amP) (ty:=57) W 57 3 104 b (.agg #[.int .i64 0,.int .i64 0]) .i64 .i64 am1 Tryz.underlying3 hi y.out n (by omega) (by omega) (by omega) (by rw[z];omega);go_wp2_with(at_builtin;refine ans _ rfl _ _ _ _ rfl _ _ rfl rfl _ _ (D _) ?_)
  go_ret;refine⟨_,rfl,?_,((Gr.refl w).alloc _).drew⟩;have I:=grownCap_ge w n 0 104;have G:=grownCap_le_maxLen w n 0 104 (by unfold maxLen;omega);exact World.ownsRow_made (base:=w.heap.size) (size:=2) (e:=104) w _ _ (anm _) G (by
   simp only[anC,size_zeroCells];show n*2+(_-n)*2=_;omega)
theorem Ov(xs s:List aa)(M O:Value)(B c:Nat)(w:World)(Q:mG w M xs)(S:mG w O s)(hl:xs.length+s.length<=1000000)(U:w.cell? ⟨B,0,none⟩=some M)(V:w.cell? ⟨B,1,none⟩=some O):
  Calls amP 96 #[.slice (some ⟨B,0,none⟩) 2 c] w fun e w'=>∃v,e=.returned v/\cS w w' v (xs++s)/\Gr w w':=by
 have HX:=amO Q;have HY:=amO S;obtain⟨ao,ca,rfl⟩:∃ao ca,M=.slice ao xs.length ca:=by
  rcases Q with⟨rfl,rfl⟩|⟨b,Y,c,rfl,_⟩
  ·exact⟨none,0,rfl⟩
  ·exact⟨_,c,rfl⟩
 obtain⟨bo,cb,rfl⟩:∃bo cb,O=.slice bo s.length cb:=by
  rcases S with⟨rfl,rfl⟩|⟨b,Y,c,rfl,_⟩
  ·exact⟨none,0,rfl⟩
  ·exact⟨_,c,rfl⟩
 clear Q S;go_enter Tryz.func96,Tryz.ntmps96;go_wp2_with fail
 go_loop [3,11] (fun J y=>(y=.int .i64 0/\J=.int .i64 0)\/(y=.int .i64 1/\J=.int .i64 xs.length)\/(y=.int .i64 2/\J=.int .i64 ((xs.length:Int)+s.length))) (fun _ y=>2-(intOf y).toNat)
 case atStart=>exact .inl ⟨rfl,rfl⟩
 case round=>
  rcases hrel with⟨rfl,rfl⟩|⟨rfl,rfl⟩|⟨rfl,rfl⟩
  ·have g1:¬(xs.length:Int)<0:=by omega
   go_wp2_with fail
   exact⟨.inr (.inl ⟨rfl,by go_num⟩),by simp[intOf]⟩
  ·have g1:¬(xs.length:Int)+s.length<0:=by omega
   go_wp2_with fail
   exact⟨.inr (.inr ⟨rfl,by go_num⟩),by simp[intOf]⟩
  ·have L:=S7 (xs.length+s.length) hl w;rw[amZ]at L;go_wp2_with fail
   refine L.mono ?_;rintro e w1 ⟨v,rfl,z,q⟩;have HO:=amO z;have c0:=q.keeps U;have c1:=q.keeps V;have b7:=q.size;have HG:=amO q;clear z q;go_wp2_with fail
   go_loopw [6,27] (fun J y w'=>∃(i:Nat) (us:List aa),y=.int .i64 i/\cS w w' J us/\Gr w w'/\((i=0/\us=[])\/(i=1/\us=xs)\/(i=2/\us=xs++s))) (fun _ y _=>2-(intOf y).toNat)
   case atStart=>exact⟨0,[],rfl,HO.out,HG.out,.inl ⟨rfl,rfl⟩⟩
   case round=>
    obtain⟨i,us,rfl,ho,q,Z⟩:=hrel;have d0:=q.keeps U;have d1:=q.keeps V;have D:=amO ho;have G:=amO q;have a1:=amO (HX.out.gr q);have a2:=amO (HY.out.gr q);clear ho q c0 c1 U V;rcases Z with⟨rfl,rfl⟩|⟨rfl,rfl⟩|⟨rfl,rfl⟩
    ·go_wp2_with(at_builtin;refine nY (a0:=w) rfl _ _ rfl _ [] rfl D.out _ xs rfl a1.out (by simp;omega) G.out ?_;intro v3 w3 H I)
     exact⟨⟨1,xs,by go_num,H,I,.inr (.inl ⟨rfl,rfl⟩)⟩,by simp[intOf]⟩
    ·go_wp2_with(at_builtin;refine nY (a0:=w) rfl _ _ rfl _ us rfl D.out _ s rfl a2.out hl G.out ?_;intro v3 w3 H I)
     exact⟨⟨2,us++s,by go_num,H,I,.inr (.inr ⟨rfl,rfl⟩)⟩,by simp[intOf]⟩
    ·go_wp2_with fail
     go_ret;exact⟨_,rfl,D.out,G.out⟩
def dj(a0 w:World)(v:Value)(xs:List aa):Prop:=(v=.slice none 0 0/\xs=[])\/∃B cap,v=.slice (some ⟨B,0,none⟩) xs.length cap/\xs.length<=cap/\a0.heap.size<=B/\B<w.heap.size/\iV w B xs
theorem cS.own{a0 w:World}{v:Value}{xs:List aa}(h:cS a0 w v xs):dj a0 w v xs:=h.sD
theorem dj.gr{a0 w w':World}{v:Value}{xs:List aa}(h:dj a0 w v xs)(g:Gr w w'):dj a0 w' v xs:=by
 rcases h with h|⟨B,cap,q,s,y,b,z⟩
 ·exact .inl h
 ·exact .inr ⟨B,cap,q,s,y,amX b g.size,z.gr g b⟩
theorem dj.lp{a0 w:World}{v:Value}{xs:List aa}(h:dj a0 w v xs):mG w v xs:=by
 rcases h with h|⟨B,cap,b,y,z,q,s⟩
 ·exact .inl h
 ·refine .inr ⟨B,0,cap,b,q,fun i hi=>?_⟩;have:=s i hi;rw[Nat.zero_add];exact⟨this.1.1,this.2.1⟩
theorem dj.back{a0 b w:World}{v:Value}{xs:List aa}(h:dj b w v xs)(g:Gr a0 b):dj a0 w v xs:=by
 rcases h with h|⟨B,cap,q,s,y,z,D⟩
 ·exact .inl h
 ·exact .inr ⟨B,cap,q,s,anq g.size y,z,D⟩
theorem FU(w:World):
  Calls amP 98 #[.slice none 0 0] w (ar w (.slice none 0 0)):=by
 go_enter Tryz.func98,Tryz.ntmps98;go_wp2_with fail
 go_ret;exact ar.mk rfl (Gr.refl _)
theorem Ow(w:World)(b:Value):
  Calls amP 97 #[.slice none 0 0,b] w (ar w (.tuple #[])):=by
 exact ar.of_same (AnyF.slices_SortFunc_none Tryz.yD none 0 b w)
theorem mG.form{w:World}{v:Value}{xs:List aa}(h:mG w v xs):∃q c,v=.slice q xs.length c:=by
 rcases h with⟨rfl,rfl⟩|⟨b,s,c,rfl,_⟩
 ·exact⟨none,0,rfl⟩
 ·exact⟨_,c,rfl⟩
theorem dj.form{a0 w:World}{v:Value}{xs:List aa}(h:dj a0 w v xs):∃b c,v=.slice b xs.length c:=h.lp.form
theorem Ox(a0 w:World)(v:Value)(xs:List aa)(h:dj a0 w v xs)(y:Gr a0 w)(H:xs.length<=1000000):
  Calls amP 97 #[v,.func (.func 71) #[] #[]] w fun e w'=>
   e=.returned (.tuple #[])/\∃b:List aa,b.Perm xs/\oV ae b/\dj a0 w' v b/\Gr a0 w':=by
 rcases h with⟨rfl,rfl⟩|⟨B,cap,rfl,I,z,D,J⟩
 ·refine(Ow w _).mono ?_;rintro e w' ⟨rfl,s⟩;exact⟨rfl,[],anJ _,anD,.inl ⟨rfl,rfl⟩,y.trans s⟩
 ·refine(FN xs B cap w J D H).mono ?_;rintro e w' ⟨rfl,b,q,hw,L,G⟩;refine⟨rfl,b,q,hw,.inr ⟨B,cap,by rw[q.length_eq],by rw[q.length_eq];exact I,z,amX D G.2.2.2.1,L⟩,G.gr y (fun k M=>by rw[M];exact z)⟩
theorem FV(a0 w:World)(v:Value)(xs:List aa)(h:dj a0 w v xs)(q:Gr a0 w)(H:xs.length<=1000000):
  Calls amP 98 #[v] w fun e w'=>∃s,e=.returned s/\dj a0 w' s (aw xs)/\Gr a0 w':=by
 rcases h with⟨rfl,rfl⟩|⟨B,cap,rfl,y,z,D,I⟩
 ·refine(FU w).mono ?_;rintro e w' ⟨rfl,b⟩;exact⟨_,rfl,.inl ⟨rfl,rfl⟩,q.trans b⟩
 ·refine(K_ xs B cap H y w I D).mono ?_;rintro e w' ⟨rfl,J,G⟩;exact⟨_,rfl,.inr ⟨B,cap,rfl,anq (jq xs) y,z,amX D G.2.2.2.1,J⟩,G.gr q (fun k L=>by rw[L];exact z)⟩
theorem wz(xs b:List aa)(O Q:Value)(w:World)(G:mG w O xs)(H:mG w Q b)(S:xs.length+b.length<=1000000):
  Calls amP 48 #[O,Q] w fun e w'=>∃v,e=.returned v/\dj w w' v (setOf ae (xs++b))/\Gr w w':=by
 have HX:=amO G;have HY:=amO H;obtain⟨ao,ca,rfl⟩:=G.form;obtain⟨bo,cb,rfl⟩:=H.form;clear G H;go_enter Tryz.func48,Tryz.ntmps48;go_wp2_with fail
 refine(Ov xs b (.slice ao xs.length ca) (.slice bo b.length cb) w.heap.size 2 _ (HX.out.gr ((Gr.refl w).alloc _)) (HY.out.gr ((Gr.refl w).alloc _)) S (by rw[amS];rfl) (by rw[amS];rfl)).mono ?_;rintro e U ⟨v,rfl,V,Y⟩;have I:Gr w U:=((Gr.refl w).alloc _).trans Y;have s:=amO (V.own.back ((Gr.refl w).alloc _));clear V Y;have q:(xs++b).length<=1000000:=by rw[amR];exact S
 obtain⟨L,Z⟩:∃L,Hid (L=xs++b):=⟨_,amO rfl⟩;rw[<-Z.out]at s q;obtain⟨vo,vc,rfl⟩:=s.out.form;go_wp2_with fail
 refine(Ox w U _ _ s.out I q).mono ?_;rintro e w2 ⟨rfl,zs,hp,hw,y,J⟩;have z:=amO y;have HP:=amO hp;have HW:=amO hw;clear y hp hw s;go_wp2_with fail
 refine(FV w w2 _ _ z.out J (by rw[HP.out.length_eq];exact q)).mono ?_;rintro e w3 ⟨v3,rfl,B,M⟩;have D:=amO B;clear B z;have hs:aw zs=setOf ae (xs++b):=qR bw HW.out (fun x=>by rw[<-Z.out];exact HP.out.mem_iff);rw[hs]at D;have HS:=amO hs;clear hs;go_wp2_with fail
 go_ret;exact⟨_,rfl,D.out,M⟩
theorem xJ(b:List Int):anS b=aw b:=by
 have y:∀m,m<=b.length->Lib.compactUpTo b.toArray m=aw (b.take m):=by
  intro m
  induction m with
  |zero=>intro _;rfl
  |succ m D=>
   intro G;rw[Lib.compactUpTo_succ,D (by omega)];have I:∀j,j<b.length->b.toArray[j]! =b.getD j 0:=fun j H=>by simp[anf,H]
   rcases Nat.eq_zero_or_pos m with rfl|z
   ·have:Lib.keeps b.toArray 0=true:=by simp[Lib.keeps]
    rw[this,if_pos rfl]
    match b,G with
    |a::t,_=>simp[aw]
   ·rw[lN b m z (by omega)];have s:b.toArray[m]! =b[m]:=by simp[show m<b.length by omega]
    have B:b.toArray[m-1]! =b[m-1]'(by omega):=by simp[show m-1<b.length by omega]
    by_cases q:b[m]=b[m-1]'(by omega)
    ·rw[if_pos q,Lib.keeps_neg z (by rw[s,B];exact q)];simp
    ·rw[if_neg q,Lib.keeps_pos (by rw[s,B];exact q),if_pos rfl,s]
 unfold anS;rw[y _ (anm _),am5]
def oX(a0 w:World)(v:Value)(b:List Int):Prop:=(v=.slice none 0 0/\b=[])\/∃B cap,v=.slice (some ⟨B,0,none⟩) b.length cap/\b.length<=cap/\a0.heap.size<=B/\B<w.heap.size/\Holds (amW .i64) w B 0 b.toArray
theorem oX.back{a0 b w:World}{v:Value}{q:List Int}(h:oX b w v q)(g:Gr a0 b):oX a0 w v q:=by
 rcases h with h|⟨B,cap,s,y,z,D,G⟩
 ·exact .inl h
 ·exact .inr ⟨B,cap,s,y,anq g.size z,D,G⟩
theorem oX.form{a0 w:World}{v:Value}{b:List Int}(h:oX a0 w v b):∃q c,v=.slice q b.length c:=by
 rcases h with⟨rfl,rfl⟩|⟨B,cap,rfl,_⟩
 ·exact⟨none,0,rfl⟩
 ·exact⟨_,cap,rfl⟩
def rQ(a0 w:World)(v:Value)(b:List Int):Prop:=w.ownsRow a0.heap.size 3 1 v b.length (b.map (amW .i64))
theorem rQ.own{a0 w:World}{v:Value}{b:List Int}(h:rQ a0 w v b):oX a0 w v b:=by
 have hc:=fun g B=>anc (g:=g) h B;rcases h.2 with⟨rfl,D⟩|⟨g,cap,I,rfl,G,y,s,_⟩
 ·exact .inl ⟨rfl,anb D⟩
 ·refine .inr ⟨g,cap,rfl,s,G,(ang.1 y).1,fun j H=>?_⟩;have q:j<b.length:=by simpa using H
  have z:=hc g rfl j (.int .i64 b[j]) (by simp[q]);have e:(⟨g,0,none⟩:Addr).add j=⟨g,0+j,none⟩:=by
   unfold Addr.add;split<;>simp_all
  rw[e]at z;refine⟨?_,anh y _⟩;rw[z];simp[q]
theorem FX(s:List Int):oV bU (s.mergeSort fun x y=>decide (x<=y)):=by
 have h:=List.pairwise_mergeSort (le:=fun x y:Int=>decide (x<=y)) (by
  intro a b c z B;simp only[decide_eq_true_eq]at*;omega) (by
  intro a b;simp only[Bool.or_eq_true,decide_eq_true_eq];omega) s
 exact h.imp fun{x y} q=>by
  simp only[decide_eq_true_eq]at q;simp only[bU,decide_eq_false_iff_not];omega
theorem vh(w:World)(b q:Nat)(d:Array Int)(k:Nat)(h:k≠b):(putRow (amW .i64) w b q d).heap[k]?=w.heap[k]?:=by
 unfold putRow mapBlock;simp[Array.getElem?_modify,Ne.symm h]
theorem size_putRow(w:World)(b q:Nat)(d:Array Int):(putRow (amW .i64) w b q d).heap.size=w.heap.size:=by
 unfold putRow mapBlock;simp
theorem D2(w:World)(B n:Nat)(q b:List Int)(os:Array Obj)(h:Holds (amW .i64) w B 0 q.toArray)(y:B<w.heap.size)(z:b.length=q.length):
  Holds (amW .i64) (anN (putRow (amW .i64) (anz w n) B 0 b.toArray) os) B 0 b.toArray/\ag (fun i=>i=B) w (anN (putRow (amW .i64) (anz w n) B 0 b.toArray) os):=by
 have hs:(putRow (amW .i64) (anz w n) B 0 b.toArray).heap.size=w.heap.size:=by
  rw[size_putRow]
  rfl
 refine⟨?_,rfl,rfl,rfl,?_,fun k D s=>?_⟩
 ·have G:=holds_putRow (amW .i64) (anz w n) B 0 q.toArray b.toArray (holds_ahead _ _ n _ _ _ h) (by simp[z]);exact holds_grow _ _ os B 0 _ (by rw[hs];exact y) G
 ·simp only[anN,anC];omega
 ·rw[heap_grow_old _ os (by rw[hs];exact D),vh _ _ _ _ _ s]
  rfl
theorem Bc(a0 w:World)(v:Value)(b:List Int)(h:oX a0 w v b)(D:Gr a0 w)(M:b.length<=1000000):
  Calls amP 127 #[v] w fun e w'=>e=.returned (.tuple #[])/\∃s:List Int,s.Perm b/\oV bU s/\oX a0 w' v s/\Gr a0 w':=by
 rcases h with⟨rfl,rfl⟩|⟨B,cap,rfl,I,G,z,H⟩
 ·refine(Tryz.slices_Sort_int_none none 0 w).mono ?_;rintro e w' ⟨rfl,rfl⟩;exact⟨rfl,[],anJ _,anD,.inl ⟨rfl,rfl⟩,D⟩
 ·refine(Tryz.slices_Sort_int B 0 cap b w H z (by omega)).mono ?_;rintro e w' ⟨rfl,n,J,rfl⟩;have q:=List.mergeSort_perm b (fun x y=>decide (x<=y));obtain⟨r1,r2⟩:=D2 w B n b _ J H z q.length_eq;exact⟨rfl,_,q,FX b,.inr ⟨B,cap,by rw[q.length_eq],by rw[q.length_eq];exact I,G,amX z r2.2.2.2.1,r1⟩,r2.gr D (fun k L=>by rw[L];exact G)⟩
theorem uG(a0 w:World)(v:Value)(b:List Int)(h:oX a0 w v b)(y:Gr a0 w)(M:b.length<=1000000):
  Calls amP 128 #[v] w fun e w'=>∃z,e=.returned z/\oX a0 w' z (aw b)/\Gr a0 w':=by
 rcases h with⟨rfl,rfl⟩|⟨B,cap,rfl,D,G,H,I⟩
 ·refine(Tryz.slices_Compact_int_empty none 0 w).mono ?_;rintro e w' ⟨rfl,rfl⟩;exact⟨_,rfl,.inl ⟨rfl,rfl⟩,y⟩
 ·refine(Tryz.slices_Compact_int B 0 cap b w I (by omega) D).mono ?_;rintro e w' ⟨rfl,n,rfl⟩;rw[xJ];have s:=jq b;obtain⟨r1,r2⟩:=D2 w B n b (aw b++List.replicate (b.length-(aw b).length) 0) #[] I H (by simp;omega);rw[grow_empty]at r1 r2;refine⟨_,rfl,.inr ⟨B,cap,rfl,anq s D,G,amX H r2.2.2.2.1,fun j J=>?_⟩,r2.gr y (fun k L=>by rw[L];exact G)⟩;have q:j<(aw b).length:=by simpa using J
  have:=r1 j (by simp;omega);refine⟨this.1.trans ?_,this.2⟩;simp[q,show j<(aw b).length+(b.length-(aw b).length)by omega,List.getElem_append_left q]
theorem Oy:(amP.info? 3).map (fun i=>(i.zero,i.size,i.bytes))=some (some (.int .i64 0),1,8):=by kernel_rfl
theorem Lc{a0 w:World}{v:Value}{b:List Int}{x:Int}(h:w.ownsRow a0.heap.size 3 1 v (b.length+1) (b.map (amW .i64)++[.int .i64 x])):rQ a0 w v (b++[x]):=by
 unfold rQ;rw[amR,anG];exact h
theorem yQ{a0 w:World}{y:Array Oper}{rest:List Oper}{o:Oper}{a:Act}{Q:Exit->Act->World->Prop}(H:o.guard=none)(s x:Operand)
  (S:o.op=.call {callee:=.builtin .append,args:=#[s,x],argTypes:=#[49,49]}) (v:Value) (q:List Int) (n:Int) (hs:a.eval s=v) (D:rQ a0 w v q) (B:Nat) (U:B=w.heap.size) (V:a.eval x=.slice (some ⟨B,0,none⟩) 1 1) (hl:q.length<=1000000) (Y:Gr a0 w)
  (h:∀z w',rQ a0 w' z (q++[n])->Gr a0 w'->wpList amP y Q rest (a.put o.dst z) w'):wpList amP y Q (o::rest) a (w.alloc (.cells #[.int .i64 n] 3)):=by
 obtain⟨b,G,M⟩:∃b,amP.info? 3=some b/\(b.zero,b.size,b.bytes)=(some (.int .i64 0),1,8):=by
  have h:=Oy;cases O:amP.info? 3 with
  |none=>rw[O]at h;cases h
  |some b=>rw[O]at h;exact⟨b,rfl,amU h⟩
 subst U;simp only[am9]at M;obtain⟨I,J,L⟩:=M;exact dK (a0:=a0) H s x 49 S 3 b (.int .i64 0) 1 8 Tryz.underlying49 G I J L rfl (by decide) v q.length (q.map (amW .i64)) hs D [.int .i64 n] rfl (by intro u hu;simp at hu;rw[hu];rfl) V Y (by omega) (by omega) (fun z w' Z h2=>h z w' (Lc Z) h2)
theorem Na(xs:List aa)(v:Value)(w:World)(J:mG w v xs)(hl:xs.length<=1000000):
  Calls amP 73 #[v] w fun e w'=>∃v',e=.returned v'/\oX w w' v' (setOf bU (xs.map (·.1)))/\Gr w w':=by
 have HX:=amO J;obtain⟨ao,ca,rfl⟩:=J.form;clear J;go_enter Tryz.func73,Tryz.ntmps73;go_wp2_with fail
 go_loopw [3,8] (fun kv Q w'=>∃i:Nat,i<=xs.length/\Q=.int .i64 i/\rQ w w' kv ((xs.take i).map (·.1))/\Gr w w') (fun _ Q _=>xs.length-(intOf Q).toNat)
 case atStart=>exact⟨0,anQ _,rfl,anB _ _ _ _,Gr.refl _⟩
 case round=>
  obtain⟨i,hi,rfl,M,B⟩:=hrel;have S:=amO M;have HG:=amO B;by_cases q:i<xs.length
  ·obtain⟨b,s,rfl,hb,z⟩:∃b s,ao=some ⟨b,s,none⟩/\b<w.heap.size/\bC w b s xs:=by
    rcases HX.out with⟨_,e2⟩|⟨b,s,c,e,hb,z⟩
    ·rw[e2]at q;exact absurd q (by simp)
    ·cases e;exact⟨b,s,rfl,hb,z⟩
   have c8:(i:Int)<(xs.length:Int):=by omega
   have c1:=B.keeps (z i q).1;have c2:=B.keeps (z i q).2;have D:(xs.take (i+1)).map (·.1)=(xs.take i).map (·.1)++[xs[i].1]:=by
    rw[List.take_succ_eq_append_getElem q,anG]
    rfl
   generalize J:xs[i]=x at*;obtain⟨U,x2⟩:=x;simp only at c1 c2 D;have HN:=amO D;have Y:((xs.take i).map (·.1)).length<=1000000:=by
    rw[anH,List.length_take];omega
   have Z:=amO (B.alloc (.cells #[.int .i64 U,.int .i64 x2] 104));have y:rQ w (wr.alloc (.cells #[.int .i64 U,.int .i64 x2] 104)) u3 ((xs.take i).map (·.1)):=anT M _;have G:=amO y;clear y;clear M B D;go_wp2_with(at_builtin;refine yQ (a0:=w) rfl _ _ rfl u3 _ U rfl G.out _ (by simp) rfl Y Z.out ?_;intro v3 w3 a1 a2)
   go_roundw
   case measure=>
    simp[intOf];omega
   case rel=>
    have a3:rQ w w3 v3 ((xs.take (i+1)).map (·.1)):=by
     rw[HN.out];exact a1
    exact⟨i+1,by omega,by go_num,a3,a2⟩
  ·have a4:i=xs.length:=by omega
   subst a4;rw[am5]at S;obtain⟨L,V⟩:∃L,Hid (L=xs.map (·.1)):=⟨_,amO rfl⟩;have H:oX w wr u3 L:=by
    rw[V.out];exact S.out.own
   have O:L.length<=1000000:=by
    rw[V.out,anH];exact hl
   have a5:=amO H;obtain⟨uo,uc,rfl⟩:=H.form;clear M B H S;go_wp2_with fail
   refine(Bc w wr _ L a5.out HG.out O).mono ?_;rintro e w1 ⟨rfl,ys,z,hw,y,a6⟩;have G:=amO y;have HP:=amO z;have HW:=amO hw;clear y z hw;go_wp2_with fail
   refine(uG w w1 _ ys G.out a6 (by rw[HP.out.length_eq];exact O)).mono ?_;rintro e w2 ⟨v2,rfl,I,a7⟩;have hs:aw ys=setOf bU (xs.map (·.1)):=qR qS HW.out (fun x=>by rw[<-V.out];exact HP.out.mem_iff);rw[hs]at I;have a8:=amO I;have HS:=amO hs;clear I hs;go_wp2_with fail
   go_ret;exact⟨_,rfl,a8.out,a7⟩
theorem QT(xs:List aa)(v:Value)(w:World)(h:mG w v xs)(O:xs.length<=1000000):
  Calls amP 112 #[v] w fun e w'=>∃s,e=.returned s/\dj w w' s xs/\Gr w w':=by
 obtain⟨q,hi,G⟩:∃q,amP.info? 104=some q/\(q.zero,q.size,q.bytes)=(some (.agg #[.int .i64 0,.int .i64 0]),2,16):=by
  have h:=lV;cases H:amP.info? 104 with
  |none=>rw[H]at h;cases h
  |some q=>rw[H]at h;exact⟨q,rfl,amU h⟩
 simp only[am9]at G;obtain⟨y,z,B⟩:=G;rcases h with⟨rfl,rfl⟩|⟨b,D,c,rfl,Q,I⟩
 ·refine anr (AnyE.slices_Clone_nil Tryz.wg 0 0 w) ?_;rintro e w' ⟨rfl,rfl⟩;exact⟨_,rfl,.inl ⟨rfl,rfl⟩,Gr.refl _⟩
 ·refine anr (AnyE.slices_Clone Tryz.wg q (.agg #[.int .i64 0,.int .i64 0]) 2 16 hi y z B rfl (by decide) ani b D xs.length c (cO xs) w (kg xs) (by unfold maxLen;omega) (by omega) (fun j u J=>by
   have:=I.cells j u J;rwa [Addr.add_lit]at this) (yP xs)) ?_
  rintro e w' ⟨s,rfl,L,_,M⟩;exact⟨s,rfl,cS.own L,M⟩
theorem qV{w:World}{b q:Nat}{xs:List aa}(h:bC w b q xs):∀j,j<xs.length->∀i v,(iR xs[j]!)[i]?=some v->w.cell? ⟨b,q+j*2+i,none⟩=some v:=by
 intro j s i v hi;have y:=h j s;have z:xs[j]! =xs[j]:=by simp[s]
 rw[z]at hi
 match i,hi with
 |0,hi=>
  have:=amU hi;rw[<-this];exact y.1
 |1,hi=>
  have:=amU hi;rw[<-this];exact y.2
 |i+2,hi=>simp[iR]at hi
theorem vi(w:World)(b:Value):
  Calls amP 85 #[.slice none 0 0,b] w (ar w (.int .i64 (-1))):=by
 go_enter Tryz.func85,Tryz.ntmps85;go_wp2_with fail
 go_loop [8] (fun i=>i=.int .i64 0) (fun _=>1)
 case atStart=>rfl
 case round=>
  subst hrel;go_wp2_with fail
  go_ret;exact ar.mk rfl (Gr.refl _)
theorem IG(xs:List aa)(v:Value)(g:Nat)(lb:Array Value)(q:aa->Bool)(w:World)(h:mG w v xs)(J:xs.length<=1000000)(B:∀args w,(callFunc g args).run amP w=.ok (.enter g args) w)
  (D:∀(W:World) (x:aa),Gr w W->Calls amP g (#[x.val]++lb) W (ar W (.bool (q x)))):
  Calls amP 85 #[v,.func (.func g) #[] lb] w (ar w (.int .i64 (Lib.idxBy (fun _ y=>q y) xs default))):=by
 rcases h with⟨rfl,rfl⟩|⟨b,s,c,rfl,G,H⟩
 ·exact vi w _
 ·refine anr (AnyQ.slices_IndexFunc Tryz.zW 2 anx ani iR (fun _=>rfl) q g lb B b s xs.length c xs w (fun W x z=>(D W x z).mono fun e w' h=>⟨h.1,Gr.trans z h.2⟩) (anm _) (by omega) G (qV H)) ?_;rintro e w' ⟨rfl,I⟩;rw[am5];exact ar.mk rfl I
theorem IH(w:World)(x:aa):
  Calls amP 214 #[.slice none 0 0,x.val] w (ar w (.int .i64 (-1))):=by
 unfold aa.val;go_enter Tryz.func214,Tryz.ntmps214;go_wp2_with fail
 go_loop [8] (fun i=>i=.int .i64 0) (fun _=>1)
 case atStart=>rfl
 case round=>
  subst hrel;go_wp2_with fail
  go_ret;exact ar.mk rfl ((by repeat(first|exact Gr.refl _|refine Gr.alloc ?_ _|refine Gr.drew ?_)))
theorem contains_nil(w:World)(x:aa):
  Calls amP 153 #[.slice none 0 0,x.val] w (ar w (.bool false)):=by
 have b:=fun W=>IH W x;unfold aa.val at*;go_enter Tryz.func153,Tryz.ntmps153;go_wp2_with fail
 refine(b _).mono ?_;rintro e s ⟨rfl,q⟩;go_wp2_with fail
 go_ret;refine ar.mk (by first|rfl|simp) ?_;refine Gr.trans ?_ q
 repeat(first|exact Gr.refl _|refine Gr.alloc ?_ _|refine Gr.drew ?_)
theorem Bd(w:World)(q:Value):
  Calls amP 42 #[.slice none 0 0,q] w (ar w (.bool false)):=by
 have b:=fun W=>vi W q;go_enter Tryz.func42,Tryz.ntmps42;go_wp2_with fail
 refine(b _).mono ?_;rintro e y ⟨rfl,s⟩;go_wp2_with fail
 go_ret;refine ar.mk (by first|rfl|simp) ?_;refine Gr.trans ?_ s
 repeat(first|exact Gr.refl _|refine Gr.alloc ?_ _|refine Gr.drew ?_)
theorem II(xs:List aa)(v:Value)(x:aa)(w:World)(h:mG w v xs)(H:xs.length<=1000000):
  Calls amP 153 #[v,x.val] w (ar w (.bool (decide (x∈xs)))):=by
 rcases h with⟨rfl,rfl⟩|⟨b,s,c,rfl,I,q⟩
 ·simpa using contains_nil w x
 ·refine anr (AnyQ.slices_Contains Tryz.Ay 2 anx ani iR (fun _=>rfl) (fun a b=>a.1==b.1&&a.2==b.2) ?_ b s xs.length c xs x w (anm _) (by omega) (qV q)) ?_
  ·refine⟨fun x y W=>?_,GuardAt.agg (fun x=>(iR x).toArray) (by kernel_rfl)⟩;have h:=jd x.1 x.2 y.1 y.2 W;rw[run_eql_struct];show Result.andThen ((Op.equalIn 10000 104 (.agg #[.int .i64 x.1,.int .i64 x.2]) (.agg #[.int .i64 y.1,.int .i64 y.2])).run amP W) _=_;rw[h]
   rfl
  ·rintro e w' ⟨rfl,z⟩;rw[am5];refine ar.mk ?_ z
   congr 1
   rw[Bool.eq_iff_iff];simp only[List.any_eq_true,decide_eq_true_eq,Bool.and_eq_true,beq_iff_eq]
   constructor
   ·rintro⟨y,B,D,G⟩;have:x=y:=Prod.ext D G;rw[this];exact B
   ·intro q;exact⟨x,q,rfl,rfl⟩
theorem wA(xs:List aa)(v:Value)(g:Nat)(lb:Array Value)(q:aa->Bool)(w:World)(h:mG w v xs)(I:xs.length<=1000000)(z:∀args w,(callFunc g args).run amP w=.ok (.enter g args) w)
  (B:∀(W:World) (x:aa),Gr w W->Calls amP g (#[x.val]++lb) W (ar W (.bool (q x)))):
  Calls amP 42 #[v,.func (.func g) #[] lb] w (ar w (.bool (xs.any q))):=by
 rcases h with⟨rfl,rfl⟩|⟨b,s,c,rfl,D,G⟩
 ·exact Bd w _
 ·refine anr (AnyQ.slices_ContainsFunc Tryz.uV 2 anx ani iR (fun _=>rfl) q g lb z b s xs.length c xs w (fun W x y=>(B W x y).mono fun e w' h=>⟨h.1,Gr.trans y h.2⟩) (anm _) (by omega) D (qV G)) ?_;rintro e w' ⟨rfl,H⟩;rw[am5];exact ar.mk rfl H
