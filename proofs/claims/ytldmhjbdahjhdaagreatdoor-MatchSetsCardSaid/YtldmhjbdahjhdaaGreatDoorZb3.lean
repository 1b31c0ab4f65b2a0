/-
  Part 3 of the proof.
-/
import Derived.Test.YtldmhjbdahjhdaaGreatDoorZb2
import Derived.Deep.RegionHeld3
import Derived.Shelf.SlIterI.Nil
import Derived.Shelf.SortM.Plain
import Derived.Shelf.SortM.SortNone
import Derived.Shelf.SlMaps.Clone
open Go.Lib renaming hid->ad6
open Go.Proofs.Tryz renaming prog->ad7,zeroCells156->aei,underlying156->aeu,underlying3->aez,ntmps223->aeJ,ntmps170->aeK,ntmps251->aeL,ntmps204->aeM,ntmps202->aeN,ntmps199->aeO,func223->aeR,func170->aeS,func251->aeT,func204->aeU,func202->aeV,func199->aeW
open List renaming take_succ_eq_append_getElem->ad8,range->ad_,length_append->aea,take_of_length_le->aeb,mem_range->aec,contains_iff_mem->aed,getElem?_eq_some_iff->aeg,append_assoc->aeh,length_take->aek,length_filter_le->aeo,range_eq_range'->aeq,getElem?_range->aer,mem_singleton->aet,find?_eq_none->aev,mem_map->aex,cons_append->aey,getElem_mem->aeB,mem_append->aeF,of_mem_zip->aeG
open Go.Instr renaming index->ad9
open Nat renaming zero_le->aee,zero_add->aef,lt_succ_self->aej,le_trans->ael,pow_le_pow_right->aep,le_refl->aeD
open Go.Value renaming string->aem,int->aeP
open Go.World renaming frozen?_setCells->aen
open Go.ResultVar renaming tmp->aes
open BitVec renaming ofInt->aew
open Bool renaming and_eq_true->aeA
open Go.RowKit.Below renaming trans->aeC,cell->aeI
open Int renaming le_refl->aeE
open Option.some renaming inj->aeH
open Go renaming Operand->aeQ
open Go.IntKind renaming i64->aeX,u8->ae0
open List.Pairwise renaming filter->aeY,imp->ae2
open Go.World.ownsRow renaming alloc->aeZ
open Go.Lit renaming int->ae1
set_option maxRecDepth 100000
set_option maxHeartbeats 100000000
set_option linter.all false
namespace Go.Proofs.YtldmhjbdahjhdaaGreatDoor
section
open Go Go.RowKit
theorem y_{b:Nat}{w w':World}{h:Head}(a:aK w b 0 h)(g:Below (b+1) w w'):aK w' b 0 h:=
 ⟨fun i hi=>by rw[aeI (p:=⟨b,0+i,none⟩) g (aej b)];exact a.used i hi,fun i hi=>by rw[aeI (p:=⟨b,0+2000+i,none⟩) g (aej b)];exact a.root i hi,fun i hi=>by rw[aeI (p:=⟨b,0+2008+i,none⟩) g (aej b)];exact a.note i hi⟩
theorem Q0(x k:Nat)(q:x<2^k)(s:k<8):bits BinOp.or ae0 (x:Int) ((2^k:Nat):Int)=((x+2^k:Nat):Int):=by
 show ae0.wrap ((aew 8 (x:Int)|||aew 8 ((2^k:Nat):Int)).toNat:Int)=_;have y:2^k<=128:=by
  have:(2:Nat)^k<=2^7:=aep (by omega) (by omega);omega
 have e:∀m:Nat,m<256->(aew 8 (m:Int)).toNat=m:=fun m z=>by
  rw[BitVec.toNat_ofInt];omega
 rw[BitVec.toNat_or,e x (by omega),e _ (by omega)];have h:=Nat.two_pow_add_eq_or_of_lt (i:=k) (b:=x) q 1;rw[Nat.mul_one]at h;rw[Nat.or_comm,<-h];show((2^k+x:Nat):Int) % 256=_;omega
theorem Lj(u:Nat->Bool){m:Nat}(b:m<250):(kh u).take (m+1)=(kh u).take m++[(lq u (8*m) 8).toUInt8]:=by
 rw[ad8 (by rw[iO];exact b)];simp[kh]
theorem Gh(h:Head)(n:Nat):jr h (n+1)=jr h n++(fC (h.roots n)++fC (h.notes n)):=by
 unfold jr;rw[List.range_succ,List.flatMap_append];simp
theorem Gi(f:Nat->Int)(W:World):(ad9 154 (.agg #[.int .i64 (f 0),.int .i64 (f 1),.int .i64 (f 2),.int .i64 (f 3),.int .i64 (f 4),.int .i64 (f 5),.int .i64 (f 6),.int .i64 (f 7)]) (.int .i64 0)).run ad7 W=.ok (.int .i64 (f 0)) W:=by kernel_rfl
theorem Gj(f:Nat->Int)(W:World):(ad9 154 (.agg #[.int .i64 (f 0),.int .i64 (f 1),.int .i64 (f 2),.int .i64 (f 3),.int .i64 (f 4),.int .i64 (f 5),.int .i64 (f 6),.int .i64 (f 7)]) (.int .i64 1)).run ad7 W=.ok (.int .i64 (f 1)) W:=by kernel_rfl
theorem Gk(f:Nat->Int)(W:World):(ad9 154 (.agg #[.int .i64 (f 0),.int .i64 (f 1),.int .i64 (f 2),.int .i64 (f 3),.int .i64 (f 4),.int .i64 (f 5),.int .i64 (f 6),.int .i64 (f 7)]) (.int .i64 2)).run ad7 W=.ok (.int .i64 (f 2)) W:=by kernel_rfl
theorem Gl(f:Nat->Int)(W:World):(ad9 154 (.agg #[.int .i64 (f 0),.int .i64 (f 1),.int .i64 (f 2),.int .i64 (f 3),.int .i64 (f 4),.int .i64 (f 5),.int .i64 (f 6),.int .i64 (f 7)]) (.int .i64 3)).run ad7 W=.ok (.int .i64 (f 3)) W:=by kernel_rfl
theorem Gm(f:Nat->Int)(W:World):(ad9 154 (.agg #[.int .i64 (f 0),.int .i64 (f 1),.int .i64 (f 2),.int .i64 (f 3),.int .i64 (f 4),.int .i64 (f 5),.int .i64 (f 6),.int .i64 (f 7)]) (.int .i64 4)).run ad7 W=.ok (.int .i64 (f 4)) W:=by kernel_rfl
theorem Gn(f:Nat->Int)(W:World):(ad9 154 (.agg #[.int .i64 (f 0),.int .i64 (f 1),.int .i64 (f 2),.int .i64 (f 3),.int .i64 (f 4),.int .i64 (f 5),.int .i64 (f 6),.int .i64 (f 7)]) (.int .i64 5)).run ad7 W=.ok (.int .i64 (f 5)) W:=by kernel_rfl
theorem Gp(f:Nat->Int)(W:World):(ad9 154 (.agg #[.int .i64 (f 0),.int .i64 (f 1),.int .i64 (f 2),.int .i64 (f 3),.int .i64 (f 4),.int .i64 (f 5),.int .i64 (f 6),.int .i64 (f 7)]) (.int .i64 6)).run ad7 W=.ok (.int .i64 (f 6)) W:=by kernel_rfl
theorem Gq(f:Nat->Int)(W:World):(ad9 154 (.agg #[.int .i64 (f 0),.int .i64 (f 1),.int .i64 (f 2),.int .i64 (f 3),.int .i64 (f 4),.int .i64 (f 5),.int .i64 (f 6),.int .i64 (f 7)]) (.int .i64 7)).run ad7 W=.ok (.int .i64 (f 7)) W:=by kernel_rfl
theorem Gs(f:Nat->Int)(m:Nat)(b:m<8):∀W,(ad9 154 (.agg #[.int .i64 (f 0),.int .i64 (f 1),.int .i64 (f 2),.int .i64 (f 3),.int .i64 (f 4),.int .i64 (f 5),.int .i64 (f 6),.int .i64 (f 7)]) (.int .i64 (m:Int))).run ad7 W=.ok (.int .i64 (f m)) W:=by
 intro W;have:m=0\/m=1\/m=2\/m=3\/m=4\/m=5\/m=6\/m=7:=by omega
 rcases this with rfl|rfl|rfl|rfl|rfl|rfl|rfl|rfl
 ·exact Gi f W
 ·exact Gj f W
 ·exact Gk f W
 ·exact Gl f W
 ·exact Gm f W
 ·exact Gn f W
 ·exact Gp f W
 ·exact Gq f W
theorem IW{w wr W b:World}{h:Head}(y:Gr w wr)(s:w.heap.size+1<=wr.heap.size)(ha:aK wr w.heap.size 0 h)(g:Gr wr W)(q:Below (w.heap.size+1) W b):aK b w.heap.size 0 h/\w.heap.size+1<=b.heap.size/\Gr w b:=
 ⟨y_ (ha.gr g) q,ael s (ael g.size q.size),aeC (y.trans g) (q.mono (by omega))⟩
theorem Ta(h:Head)(w:World):Calls ad7 190 #[.agg h.cells.toArray] w (ar w (.string ⟨(sG h).toArray⟩)):=by
 go_enter Tryz.func190,Tryz.ntmps190;go_wp2_with fail
 have z0:aK ((w.alloc (.cells h.cells.toArray 156)).alloc (.cells #[.pointer none,.slice none 0 0] 274)) w.heap.size 0 h:=(aK.box w h _).gr ((Gr.refl _).alloc _);have z1:l_ (w.heap.size+1) (w.heap.size+1) [] ((w.alloc (.cells h.cells.toArray 156)).alloc (.cells #[.pointer none,.slice none 0 0] 274)):=by
  have:=l_.new (w.alloc (.cells h.cells.toArray 156));simpa using this
 have a9:Gr w ((w.alloc (.cells h.cells.toArray 156)).alloc (.cells #[.pointer none,.slice none 0 0] 274)):=((Gr.refl w).alloc _).alloc _;have b0:w.heap.size+1<=((w.alloc (.cells h.cells.toArray 156)).alloc (.cells #[.pointer none,.slice none 0 0] 274)).heap.size:=by simp
 generalize((w.alloc (.cells h.cells.toArray 156)).alloc (.cells #[.pointer none,.slice none 0 0] 274))=w0 at*;go_loopw [4] (fun s w'=>∃m:Nat,m<=250/\s=.int .i64 (8*(m:Int))/\l_ (w.heap.size+1) (w.heap.size+1) ((kh h.used).take m) w'/\aK w' w.heap.size 0 h/\w.heap.size+1<=w'.heap.size/\Gr w w') (fun s _=>2000-(intOf s).toNat)
 case atStart=>exact⟨0,aee _,rfl,z1,z0,b0,a9⟩
 case round=>
  obtain⟨m,hm,rfl,Q,ha,b,S⟩:=hrel;have U:=ad6 Q;clear Q;by_cases D:m<250
  ·have c8:8*(m:Int)<2000:=by omega
   go_wp2_with fail
   go_loopw [13,5] (fun s cv w'=>∃k:Nat,k<=8/\s=.int .i64 k/\cv=.int .u8 (lq h.used (8*m) k:Nat)/\w'=wr) (fun s _ _=>8-(intOf s).toNat)
   case atStart=>exact⟨0,aee _,rfl,rfl,rfl⟩
   case round=>
    obtain⟨k,hk,rfl,rfl,rfl⟩:=hrel;by_cases b1:k<8
    ·have I:=ha.used (8*m+k) (by omega);rw[aef]at I;have a4:=xL h.used (8*m) k;have ho:=Q0 _ k a4 b1;have hp:((2:Int)^k) % 256=((2^k:Nat):Int):=by
      have h1:(2:Nat)^k<=2^7:=aep (by omega) (by omega);have h2:((2^k:Nat):Int)=(2:Int)^k:=by push_cast;rfl
      rw[<-h2];omega
     rw[<-hp]at ho;have HO:=ad6 ho;have hn:lq h.used (8*m) (k+1)=lq h.used (8*m) k+if h.used (8*m+k)then 2^k else 0:=rfl
     have HN:=ad6 hn;clear ho hn hp;cases hu:h.used (8*m+k)
     ·rw[hu]at I;have HU:=ad6 hu;clear hu;go_wp2_with fail
      refine⟨⟨k+1,by omega,by go_num,?_,trivial⟩,by simp[intOf];omega⟩;rw[HN.out,HU.out]
      rfl
     ·rw[hu]at I;have HU:=ad6 hu;clear hu;go_wp2_with fail
      refine⟨⟨k+1,by omega,by go_num,?_,trivial⟩,by simp[intOf];omega⟩;rw[HN.out,HU.out,HO.out]
      rfl
    ·obtain rfl:k=8:=by omega
     have V:((lq h.used (8*m) 8:Nat):Int)=(((lq h.used (8*m) 8).toUInt8.toNat:Nat):Int):=by
      have:=xL h.used (8*m) 8;show _=((lq h.used (8*m) 8 % 256:Nat):Int);omega
     have Y:=Lj h.used D;generalize b2:(lq h.used (8*m) 8).toUInt8=c at*;rw[V];have G:=ad6 Y;clear Y V b2;have Z:((kh h.used).take m).length=m:=by rw[aek,iO];omega
     go_wp2_with fail
     refine(Gg _ _ _ c wr U.out (by omega) b).mono ?_;rintro e J ⟨rfl,M,q⟩;rw[<-G.out]at M;have b3:=y_ ha q;have O:Gr w J:=aeC S (q.mono (by omega));have a5:w.heap.size+1<=J.heap.size:=ael b q.size;have b4:=ad6 M;clear q M G;go_wp2_with fail
     exact⟨⟨m+1,by omega,by go_num,b4.out,b3,a5,O⟩,by simp[intOf];omega⟩
  ·obtain rfl:m=250:=by omega
   have a0:wr.rangeAt w.heap.size 2000 ((ad_ 8).map (fun i=>aeP .i64 (h.roots i))):=fun j v hv=>by
    have hj:j<8:=by simpa using(aeg.1 hv).1
    have b5:v=.int .i64 (h.roots j):=by simpa[hj]using hv.symm
    rw[b5];have:=ha.root j hj;rw[aef]at this;exact this
   have b6:=ad6 a0;clear a0;go_wp2_with(refine wpList_load_mid rfl 154 _ rfl w.heap.size 2000 rfl _ _ b6.out Tryz.underlying154 rfl (by kernel_rfl) ?_)
   try go_frame
   go_loopw [31] (fun s w'=>∃m:Nat,m<=8/\s=.int .i64 m/\l_ (w.heap.size+1) (w.heap.size+1) (kh h.used++jr h m) w'/\aK w' w.heap.size 0 h/\w.heap.size+1<=w'.heap.size/\Gr w w') (fun s _=>8-(intOf s).toNat)
   case atStart=>
    refine⟨0,aee _,rfl,?_,ha,b,S⟩;have:=U.out;rw[aeb (by rw[iO];exact aeD _)]at this;simpa[jr]using this
   case round=>
    obtain⟨m,hm,rfl,Q,ha,b,S⟩:=hrel;have U:=ad6 Q;clear Q;by_cases D:m<8
    ·have d7:=Gs h.roots m D;have I:=ha.note m D;rw[aef]at I;have G:=ad6 (Gh h m);generalize h.roots m=H at*;generalize h.notes m=B at*;have Z:(kh h.used++jr h m).length=250+4*m:=by rw[aea,iO,sF]
     have c9:=lu (fC H) (fC B) (by simp[fC]);have a1:(fC H++fC B).length=8-4:=by simp[fC]
     have d8:(⟨(fC H++fC B).toArray⟩:ByteArray).size=4:=by rw[kF,a1]
     have b7:=fun(W:World) (g:Gr wr W)=>nZ (w.heap.size+1) (w.heap.size+1) (kh h.used++jr h m) ⟨(fC H++fC B).toArray⟩ W (U.out.gr g) (by omega) (ael b g.size);clear a1;have b8:=Li H;have b9:=Li B;generalize fC H=t0 at*;generalize fC B=t1 at*;go_wp2_with fail
     go_region_with(first
      |( go_at_call_of 189 (aeP aeX H);refine(b8 _).mono ?_;rintro e J ⟨rfl,y⟩;first|(have k0:=y.keeps (show World.cell? _ _=some (.int .i64 B)by simpa using I))|skip)
      |( go_at_call_of 189 (aeP aeX B);refine(b9 _).mono ?_;rintro e w3 ⟨rfl,z⟩)
      |( go_at_call 195;refine(b7 _ (by
        first
          |(refine Gr.trans ?_ z;repeat(with_reducible first|refine Gr.drew ?_|refine Gr.alloc ?_ _)
            refine Gr.trans ?_ y;repeat(with_reducible first|refine Gr.drew ?_|refine Gr.alloc ?_ _);exact Gr.refl _)
          |(refine Gr.trans ?_ y;repeat(with_reducible first|refine Gr.drew ?_|refine Gr.alloc ?_ _)
            refine Gr.trans ?_ z;repeat(with_reducible first|refine Gr.drew ?_|refine Gr.alloc ?_ _);exact Gr.refl _))).mono ?_;rintro e w4 ⟨rfl,a2,L⟩))
     all_goals
      obtain⟨c1,a6,c2⟩:=IW S b ha (by
        first
          |(refine Gr.trans ?_ z;repeat(with_reducible first|refine Gr.drew ?_|refine Gr.alloc ?_ _)
            refine Gr.trans ?_ y;repeat(with_reducible first|refine Gr.drew ?_|refine Gr.alloc ?_ _);exact Gr.refl _)
          |(refine Gr.trans ?_ y;repeat(with_reducible first|refine Gr.drew ?_|refine Gr.alloc ?_ _)
            refine Gr.trans ?_ z;repeat(with_reducible first|refine Gr.drew ?_|refine Gr.alloc ?_ _);exact Gr.refl _)) L
      rw[aeh,<-G.out]at a2;clear L y z;go_wp2_with fail
      go_roundw
      case rel=>
        exact⟨m+1,by omega,by go_num,a2,c1,a6,c2⟩
      case measure=>
        simp[intOf];omega
    ·obtain rfl:m=8:=by omega
     have Z:(kh h.used++jr h 8).length=282:=by rw[aea,iO,sF]
     have c3:=Tryz.Builder_String_any (w.heap.size+1) (w.heap.size+1) _ wr U.out b;have c4:Hid (sG h=lr (kh h.used++jr h 8)):=ad6 rfl;generalize kh h.used++jr h 8=l at*;go_wp2_with fail
     refine c3.mono ?_;rintro e J ⟨rfl,q⟩;have O:Gr w J:=aeC S (q.mono (by omega));have a3:=Ge ⟨l.toArray⟩ (by rw[kF];omega);rw[tP,<-c4.out]at a3;clear q;go_wp2_with fail
     refine(a3 J).mono ?_;rintro e w3 ⟨rfl,c5⟩;go_wp2_with fail
     go_ret;exact ar.mk rfl (O.trans c5)
def jt(b:List Nat):Head:=⟨fun j=>b.contains j,fun _=>0,fun _=>0⟩
theorem Gt(b:List Nat)(i:Nat)(h:i<b.length):((jt (b.take i)).put b[i] true).same (jt (b.take (i+1))):=by
 have q:∀j,j∈b.take (i+1)↔j∈b.take i\/j=b[i]:=fun j=>by rw[ad8 h,aeF,aet]
 refine⟨fun j _=>?_,fun _ _=>⟨rfl,rfl⟩⟩;show(if j=b[i]then true else(b.take i).contains j)=(b.take (i+1)).contains j;by_cases e:j=b[i]
 ·rw[if_pos e,eq_comm,aed,q];exact .inr e
 ·rw[if_neg e,Bool.eq_iff_iff,aed,aed,q];exact⟨.inl,fun h=>h.elim id (fun h=>absurd h e)⟩
theorem IX(h:Head):(sG h).take 250=kh h.used:=by
 unfold sG lr;rw[aeh,List.take_append_of_le_length (by rw[iO];exact aeD _),aeb (by rw[iO];exact aeD _)]
theorem Tb(q:List Nat)(l:List ByteArray)(pv lv:Value)(w:World)(S:jB yV w pv q)(U:jB aem w lv l)(d3:q.length<=100000)(G:∀i (h:i<q.length),q[i]<2000)(d4:l.length<=100000)(H:∀i (h:i<l.length),l[i].size<=1000000):
  Calls ad7 136 #[pv,lv] w (ar w (.string ⟨(Ga q (gI l)).toArray⟩)):=by
 have HP:=ad6 S;have HL:=ad6 U;have a1:=ad6 G;have a2:=ad6 H;obtain⟨po,pc,rfl⟩:=S.form;obtain⟨lo,lc,rfl⟩:=U.form;clear S U G H;go_enter Tryz.func136,Tryz.ntmps136;go_wp2_with fail
 have z0:=xO w;have f0:∀j,(w.alloc (.cells aei 156)).frozen? ⟨w.heap.size,j,none⟩=false:=fun j=>by simp
 have a3:Gr w (w.alloc (.cells aei 156)):=(Gr.refl w).alloc _;generalize(w.alloc (.cells aei 156))=w0 at*;go_loopw [11] (fun V w'=>∃i:Nat,i<=q.length/\V=.int .i64 i/\aK w' w.heap.size 0 (jt (q.take i))/\(∀j,w'.frozen? ⟨w.heap.size,j,none⟩=false)/\Gr w w') (fun V _=>q.length-(intOf V).toNat)
 case atStart=>exact⟨0,aee _,rfl,z0.same ⟨fun j _=>by simp[jt,lx],fun _ _=>⟨rfl,rfl⟩⟩,f0,a3⟩
 case round=>
  obtain⟨i,hi,rfl,ha,hf,Y⟩:=hrel;by_cases z:i<q.length
  ·obtain⟨b,d5,rfl,hc⟩:=(HP.out.gr Y).at z;have c0:=hc i z;have hk:=a1.out i z;have a4:=ad6 (Gt q i z);clear hc;generalize q[i]=k at*;unfold yV at c0;have d0:=ha.used k hk;have d1:=hf k;rw[aef]at d0;go_wp2_with fail
   refine⟨⟨i+1,by omega,by go_num,?_,fun j=>by simpa using hf j,Y.setCell (by simp) _⟩,by simp[intOf];omega⟩;have:=ha.put hk true;rw[aef]at this;exact this.same a4.out
  ·obtain rfl:i=q.length:=by omega
   rw[List.take_length]at ha;have a5:=Ta (jt q);have a6:=Li (q.length:Int);have a7:=ha.range;have I:∀W,(∃p:Regrown,W=Sort.grow (redrawn wr p.d) p.os)->W.rangeAt w.heap.size 0 (jt q).cells:=fun W h=>(ha.gr (cg h)).range;have J:=ad6 I;clear I;have c2:=lu (fC (q.length:Int)) (kh (jt q).used) (by rw[iO];simp[fC]);have d6:(⟨(sG (jt q)).toArray⟩:ByteArray).size=1024:=by rw[kF,Lg]
   have d7:(⟨(sG (jt q)).toArray⟩:ByteArray).extract 0 250=⟨(kh (jt q).used).toArray⟩:=by
    apply qj;rw[Lib.extract_data,tP,tP,List.drop_zero,IX]
   go_wp2_with fail
   have L:Hid (qi q=fC (q.length:Int)++kh (jt q).used):=ad6 rfl;generalize fC (q.length:Int)=s at*;generalize kh (jt q).used=y at*;generalize(⟨(sG (jt q)).toArray⟩:ByteArray)=tx at*;clear a7;refine wp_region_quiet_below (by kernel_rfl) (by kernel_rfl) ?_
   repeat(first
    |( go_big_quiet_want;refine zZ 156 _ rfl w.heap.size 0 rfl _ _ J.out aeu rfl (by rw[ly,Head.fJ]) ?_;(try simp only[Act.put,List.setIfInBounds_toArray,List.set_cons_zero,List.set_cons_succ]);go_big_quiet_on)
    |go_big_quiet_step (first|(go_at_call 189;exact ar.sr (a6 _))|(go_at_call 190;exact ar.sr (a5 _))))
   refine wpQuiet_nil ?_;intro D M;have O:=Y.trans (cg M);have a8:=ad6 ((HL.out.gr O).gr ((Gr.refl D).alloc (.cells #[.string ⟨(s++y).toArray⟩] 9)));have a9:=ad6 (OD aem D ⟨(s++y).toArray⟩ 9);clear M J;have b0:(s++y).length=252:=by rw[<-L.out,Dc]
   have b1:Hid (∀(B:Value) (w':World),fU aem 9 D w' B ([⟨(s++y).toArray⟩]++l)->Calls ad7 191 #[B] w' (ar w' (.string ⟨(Bj ((s++y)::gI l)).toArray⟩))):=ad6 fun B w' ho=>by
    have:=Ux ([⟨(s++y).toArray⟩]++l) B w' ho.row (by simp;omega) (fun i hi=>by
      cases i with
      |zero=>
        show(⟨(s++y).toArray⟩:ByteArray).size<=_;rw[kF,b0];omega
      |succ i=>
        have:=a2.out i (by simpa using hi);simpa using this)
    have e:gI ([⟨(s++y).toArray⟩]++l)=(s++y)::gI l:=by
      show(⟨(s++y).toArray⟩:ByteArray).data.toList::gI l=_;rw[tP]
    rw[e]at this;exact this
   have c3:(Bj ((s++y)::gI l)).length=8:=tN _ 8;have b2:Hid (Ga q (gI l)=lr ((s++y)++Bj ((s++y)::gI l))):=ad6 (by rw[<-L.out];rfl);generalize Bj ((s++y)::gI l)=Z at*;have c1:=lu (s++y) Z (by omega);have Q:=Ge ⟨((s++y)++Z).toArray⟩ (by rw[kF,aea];omega);rw[tP,<-b2.out]at Q;generalize(⟨((s++y)++Z).toArray⟩:ByteArray)=u2 at*;generalize(⟨(s++y).toArray⟩:ByteArray)=u1 at*;go_wp2_with(at_builtin;refine IN (a0:=D) rfl _ _ 22 9 (.string ⟨#[]⟩) 16 Tryz.underlying22 D4 rfl (fun _=>rfl) (by omega) rfl _ [u1] rfl a9.out _ l rfl a8.out (by simp;omega) ((Gr.refl D).alloc _) ?_)
   intro B w4 b3 b4 _;go_wp2_with fail
   refine(b1.out B w4 b3).mono ?_;rintro e w5 ⟨rfl,b5⟩;go_wp2_with fail
   refine(Q _).mono ?_;rintro e w6 ⟨rfl,b6⟩;go_wp2_with fail
   go_ret;exact ar.mk rfl (((O.trans b4).trans b5).trans b6)
structure Dk where
 pg:Nat->ByteArray
 cut:Bool
 left:Int
 torn:Int
def Dk.on(d:Dk):Bool:=QY d.cut d.left
def Dk.whole(d:Dk):Prop:=∀k,k<4001->(bO d.pg k).size=1024
theorem n_:eC.size=1024:=by
 show(List.toArray _).size=1024;rw[List.size_toArray,Lib.repeatL_length]
 rfl
theorem wG{pg:Nat->ByteArray}{k:Nat}{s:ByteArray}(hs:s.size=1024)(i:Nat):bO (mH pg k s) i=if i=k then s else bO pg i:=by
 unfold bO mH;by_cases e:i=k
 ·rw[if_pos e,if_pos e,if_neg];intro h;rw[ByteArray.toList_eq]at h;have b:s.data.toList.length=1024:=by rw[<-size_data];exact hs
  rw[List.isEmpty_iff]at h;rw[h]at b;simp at b
 ·rw[if_neg e,if_neg e]
theorem OI{s old:ByteArray}(hs:s.size=1024)(b:old.size=1024)(n:Nat)(hn:n<=1024):(Gd s old n).size=1024:=by
 have q:s.data.toList.length=1024:=by rw[<-size_data];exact hs
 have y:old.data.toList.length=1024:=by rw[<-size_data];exact b
 rw[size_data];show(Bk s old n).toArray.toList.length=1024;simp only[Bk,List.toList_toArray,aea,aek,List.length_drop];omega
theorem Lm(t:Int):mX t<=1024:=by unfold mX;omega
def iY(d:Dk)(k:Nat)(s:ByteArray):Bool×Dk:=
 if d.on then(true,{d with pg:=mH d.pg k s,left:=d.left-1})else(false,{d with pg:=mH d.pg k (Gd s (bO d.pg k) (mX d.torn)),torn:=0})
def fu:Dk->List (Nat×ByteArray)->Bool×Dk
 |d,[]=>(true,d)
 |d,x::l=>if(iY d x.1 x.2).1 then fu (iY d x.1 x.2).2 l else(false,(iY d x.1 x.2).2)
theorem xP(d:Dk):fu d []=(true,d):=rfl
theorem jY(d:Dk)(x:Nat×ByteArray)(l:List (Nat×ByteArray)):fu d (x::l)=if(iY d x.1 x.2).1 then fu (iY d x.1 x.2).2 l else(false,(iY d x.1 x.2).2):=rfl
theorem mY:∀(a b:List (Nat×ByteArray)) (d:Dk),fu d (a++b)=if(fu d a).1 then fu (fu d a).2 b else(false,(fu d a).2)
 |[],b,d=>by rw[List.nil_append,xP];rfl
 |x::a,b,d=>by
  rw[aey,jY,jY];cases(iY d x.1 x.2).1
  ·rfl
  ·exact mY a b _
theorem Ln{d:Dk}(h:d.whole)(k:Nat){s:ByteArray}(hs:s.size=1024):(iY d k s).2.whole:=by
 intro i hi;unfold iY
 split
 ·show(bO (mH d.pg k s) i).size=1024;rw[wG hs]
  split
  ·exact hs
  ·exact h i hi
 ·by_cases y:k<4001
  ·have q:=OI hs (h k y) _ (Lm d.torn);show(bO (mH d.pg k _) i).size=1024;rw[wG q]
   split
   ·exact q
   ·exact h i hi
  ·show(bO (mH d.pg k _) i).size=1024;have b:i≠k:=by omega
   unfold bO mH;rw[if_neg b];exact h i hi
def Lo(l:List (Nat×ByteArray)):Prop:=∀x∈l,x.1<4001/\x.2.size=1024
theorem IY{a b:List (Nat×ByteArray)}(ha:Lo a)(q:Lo b):Lo (a++b):=fun x s=>(aeF.1 s).elim (ha x) (q x)
theorem sI:∀(l:List (Nat×ByteArray)) {d:Dk},d.whole->Lo l->(fu d l).2.whole
 |[],_,h,_=>h
 |x::l,d,h,b=>by
  have q:=Ln h x.1 (b x (by simp)).2;rw[jY];cases(iY d x.1 x.2).1
  ·exact q
  ·exact sI l q (fun y s=>b y (by simp[s]))
theorem OJ(d:Dk)(k:Nat)(s:ByteArray):d.left-1<=(iY d k s).2.left/\(iY d k s).2.left<=d.left:=by
 unfold iY
 split
 ·exact⟨aeE _,by show d.left-1<=d.left;omega⟩
 ·exact⟨by show d.left-1<=d.left;omega,aeE _⟩
theorem Bn:∀(l:List (Nat×ByteArray)) (d:Dk),d.left-l.length<=(fu d l).2.left/\(fu d l).2.left<=d.left
 |[],d=>⟨by simp[fu],aeE _⟩
 |x::l,d=>by
  have b:=OJ d x.1 x.2;have q:=Bn l (iY d x.1 x.2).2;rw[jY,List.length_cons];cases(iY d x.1 x.2).1
  ·exact⟨by show _<=(iY d x.1 x.2).2.left;omega,b.2⟩
  ·exact⟨by show _<=(fu (iY d x.1 x.2).2 l).2.left;omega,by show(fu (iY d x.1 x.2).2 l).2.left<=_;omega⟩
theorem Lp{d e:Dk}{l:List (Nat×ByteArray)}{i:Nat}(hi:i<l.length)(h:fu d (l.take i)=(true,e))(b:(iY e l[i].1 l[i].2).1=true):fu d (l.take (i+1))=(true,(iY e l[i].1 l[i].2).2):=by
 rw[ad8 hi,mY,h,if_pos rfl,jY,if_pos b,xP]
theorem Lq{d e:Dk}{l m:List (Nat×ByteArray)}{i:Nat}(hi:i<l.length)(h:fu d (l.take i)=(true,e))(b:(iY e l[i].1 l[i].2).1=false):fu d (l++m)=(false,(iY e l[i].1 l[i].2).2):=by
 have q:l++m=l.take i++(l[i]::(l.drop (i+1)++m)):=by
  rw[<-aey,<-aeh,<-List.drop_eq_getElem_cons hi,List.take_append_drop]
 rw[q,mY,h,if_pos rfl,jY,b]
 rfl
def vp(b:List Nat)(l:List ByteArray):ByteArray:=⟨(Ga b (gI l)).toArray⟩
def Lr(F:Int->Option ByteArray):List Nat:=(ad_ 2000).filter fun(k:Nat)=>(F k).isSome
theorem IZ{F:Int->Option ByteArray}{k:Nat}:k∈Lr F↔k<2000/\(F k).isSome:=by simp[Lr]
theorem Q2(F:Int->Option ByteArray):(Lr F).length<=2000:=by
 have:=aeo (fun(k:Nat)=>(F k).isSome) (ad_ 2000);simpa[Lr]using this
def sJ(F:Int->Option ByteArray):Prop:=∀k s,F k=some s->1<=k/\k<2000/\s.size=1024
def kL(b:List Nat)(l:List ByteArray):List (Nat×ByteArray):=b.zip l++[(2000,eC)]
theorem I0{b:List Nat}{l:List ByteArray}(y:∀k∈b,k<2000)(hs:∀s∈l,s.size=1024):Lo (kL b l):=by
 refine IY (fun x q=>?_) (fun x q=>?_)
 ·obtain⟨z,B⟩:=aeG (show(x.1,x.2)∈b.zip l from q);exact⟨by have:=y _ z;omega,hs _ B⟩
 ·rw[aet.1 q];exact⟨by show 2000<4001;omega,n_⟩
def iW(l:List UInt8)(k:Nat):Bool:=(l.getD (2+k/8) 0).toNat/2^(k % 8) % 2==1
def od(pg:Nat->ByteArray):List Nat:=(ad_ 2000).filter (iW (bO pg 2000).data.toList)
def xQ(pg:Nat->ByteArray):List ByteArray:=(ad_ (od pg).length).map fun i=>bO pg (2001+i)
def eE(pg:Nat->ByteArray):List Nat:=if vp (od pg) (xQ pg)=bO pg 2000 then od pg else[]
def je(pg:Nat->ByteArray):List ByteArray:=if vp (od pg) (xQ pg)=bO pg 2000 then xQ pg else[]
theorem I1(pg:Nat->ByteArray):(eE pg).length=(je pg).length:=by
 unfold eE je
 split
 ·simp[xQ]
 ·rfl
theorem Bo(pg:Nat->ByteArray):(od pg).length<=2000:=by
 have:=aeo (iW (bO pg 2000).data.toList) (ad_ 2000);simpa[od]using this
theorem za(pg:Nat->ByteArray):∀k∈eE pg,k<2000:=by
 intro k b;unfold eE at b
 split at b
 ·exact aec.1 (List.mem_filter.1 b).1
 ·cases b
theorem zb{d:Dk}(h:d.whole):∀s∈je d.pg,s.size=1024:=by
 intro s hs;unfold je at hs
 split at hs
 ·obtain⟨i,hi,rfl⟩:=aex.1 hs;have:=aec.1 hi;have:=Bo d.pg;exact h _ (by omega)
 ·cases hs
def jZ(pg:Nat->ByteArray):List (Nat×ByteArray):=if eE pg=[]then[]else kL (eE pg) (je pg)
theorem OK{d:Dk}(h:d.whole):Lo (jZ d.pg):=by
 unfold jZ
 split
 ·intro x b;cases b
 ·exact I0 (za d.pg) (zb h)
def headD(pg:Nat->ByteArray):Head:=mV (bO pg 0).data.toList
end
section
open Go Go.RowKit Go.Maps
theorem MapAt.drop{w:World}{M n:Nat}{F:Int->Option ByteArray}(h:MapAt w M n F){k:Int}(y:-9223372036854775808<=k/\k<=9223372036854775807)(ty:TypeId):
  ∃w',(Builtin.delete_ #[152,3] ty #[.map (some M),.int .i64 k]).run ad7 w=.ok (.tuple #[]) w'/\MapAt w' M n (fun i=>if i=k then none else F i)/\w.grownBy w' (some M):=by
 obtain⟨D,B,s⟩:=h;obtain⟨w',q,G,H⟩:=B.drop (t:=152) (e:=9) IT Tryz.underlying152 (keyOf_int_mk aez (QZ y)) ty;refine⟨w',q,⟨_,G,fun i hi=>?_⟩,H.grown⟩;by_cases e:i=k
 ·subst e;simp only[if_true];exact⟨Maps.has_del_same,fun z=>Maps.atKey_del_same z⟩
 ·have b:(ae1 .i64 i)≠(ae1 .i64 k):=by
   intro h;injection h with _ h
   exact e h
  simp only[if_neg e];rw[Maps.has_del_other b];exact⟨(s i hi).1,fun z=>by rw[Maps.atKey_del_other b];exact(s i hi).2 z⟩
def kM(F:Int->Option ByteArray)(k:Int)(s:Option ByteArray):Int->Option ByteArray:=fun i=>if i=k then s else F i
theorem MapAt.Nf{w:World}{M n:Nat}{F:Int->Option ByteArray}(h:MapAt w M n F)(hn:n<1000000){k:Int}(b:-9223372036854775808<=k/\k<=9223372036854775807)(s:ByteArray)(hs:s.size<=9223372036854775807):
 ∃w',(Instr.mapUpdate 152 (.map (some M)) (.int .i64 k) (.string s)).run ad7 w=.ok () w'/\MapAt w' M (n+1) (kM F k (some s))/\w.grownBy w' (some M):=h.store hn b s hs
theorem I2{b:Array Oper}{rest:List Oper}{o:Oper}{a:Act}{Q:Exit->Act->World->Prop}{w:World}(z:o.guard=none)(m x:aeQ)(s:o.op=Op.call {callee:=Callee.builtin Builtin.delete,args:=#[m,x],argTypes:=#[152,3]})
  {M n:Nat} {F:Int->Option ByteArray} (h:MapAt w M n F) (B:a.eval m=.map (some M)) {k:Int} (D:a.eval x=.int .i64 k) (G:-9223372036854775808<=k/\k<=9223372036854775807)
  (H:∀w',MapAt w' M n (kM F k none)->w.grownBy w' (some M)->wpList ad7 b Q rest (a.put o.dst (.tuple #[])) w'):wpList ad7 b Q (o::rest) a w:=by
 refine wpList_plain z fun I y=>?_;obtain⟨w',q,r1,r2⟩:=h.drop G o.type;unfold Oper.wp;simp[execOp,s,resolve,invoke,builtin,B,D,q,Result.andThen];exact y _ _ (H w' r1 r2)
end
section
open Go Go.RowKit
structure aF(w:World)(PB DB M n:Nat)(h sv:Head)(F:Int->Option ByteArray)(down:Bool)(times:Int):Prop where
 oY:w.cell? ⟨PB,0,none⟩=some (.pointer (some ⟨DB,0,none⟩))
 head:aK w PB 1 h
 map:w.cell? ⟨PB,2017,none⟩=some (.map (some M))
 saved:aK w PB 2018 sv
 down:w.cell? ⟨PB,4034,none⟩=some (.bool down)
 times:w.cell? ⟨PB,4035,none⟩=some (.int .i64 times)
 free:∀o,w.frozen? ⟨PB,o,none⟩=false
 g_:MapAt w M n F
 ne:PB≠M
theorem aF.gr{w w':World}{PB DB M n:Nat}{h s:Head}{F:Int->Option ByteArray}{q:Bool}{b:Int}(p:aF w PB DB M n h s F q b)(g:Gr w w'):aF w' PB DB M n h s F q b:=
 ⟨g.keeps p.oY,p.head.gr g,g.keeps p.map,p.saved.gr g,g.keeps p.down,g.keeps p.times,fun o=>(g.frozen o (ad p.oY)).trans (p.free o),p.g_.gr g,p.ne⟩
theorem aF.aC{S:Nat->Prop}{w w':World}{PB DB M n:Nat}{h y:Head}{F:Int->Option ByteArray}{s:Bool}{b:Int}(p:aF w PB DB M n h y F s b)(g:ag S w w')(q:¬S PB)(z:¬S M):aF w' PB DB M n h y F s b:=
 ⟨g.keeps q p.oY,p.head.aC g q,g.keeps q p.map,p.saved.aC g q,g.keeps q p.down,g.keeps q p.times,fun o=>(g.frozen o (ad p.oY) q).trans (p.free o),p.g_.aC g z,p.ne⟩
theorem aF.lt{w:World}{PB DB M n:Nat}{h s:Head}{F:Int->Option ByteArray}{q:Bool}{b:Int}(p:aF w PB DB M n h s F q b):PB<w.heap.size:=ad p.oY
theorem aF.Ls{w w':World}{PB DB M n z:Nat}{h B:Head}{F D:Int->Option ByteArray}{y:Bool}{b:Int}(p:aF w PB DB M n h B F y b)(g:w.grownBy w' (some M))(G:MapAt w' M z D):aF w' PB DB M z h B D y b:=by
 have q:ag (fun k=>k=M) w w':=ag.fY g rfl;have s:¬(fun k=>k=M) PB:=p.ne;exact⟨q.keeps s p.oY,p.head.aC q s,q.keeps s p.map,p.saved.aC q s,q.keeps s p.down,q.keeps s p.times,fun o=>(q.frozen o (ad p.oY) s).trans (p.free o),G,p.ne⟩
theorem MapAt.dT{w:World}{M n:Nat}{F:Int->Option ByteArray}(h:MapAt w M n F){B:Nat}(b:B≠M)(o:Nat)(u:Value):MapAt (w.setCell ⟨B,o,none⟩ u) M n F:=h.block (Below.heap_setCell _ _ _ _ (fun e=>b e.symm))
theorem aF.put{w:World}{PB DB M n:Nat}{h y:Head}{F:Int->Option ByteArray}{s:Bool}{q:Int}(p:aF w PB DB M n h y F s q){k:Nat}(z:k<2000)(b:Bool):aF (w.setCell ⟨PB,1+k,none⟩ (.bool b)) PB DB M n (h.put k b) y F s q:=
 ⟨aX (by omega) p.oY,p.head.put z b,aX (by omega) p.map,p.saved.dT _ _ (by omega),aX (by omega) p.down,aX (by omega) p.times,fun o=>by simpa using p.free o,p.g_.dT p.ne _ _,p.ne⟩
theorem aF.lY{w:World}{PB DB M n:Nat}{h s:Head}{F:Int->Option ByteArray}{q:Bool}{b:Int}(p:aF w PB DB M n h s F q b){k:Nat}(y:k<8)(r:Int):aF (w.setCell ⟨PB,2001+k,none⟩ (.int .i64 r)) PB DB M n (h.lY k r) s F q b:=
 ⟨aX (by omega) p.oY,p.head.lY y r,aX (by omega) p.map,p.saved.dT _ _ (by omega),aX (by omega) p.down,aX (by omega) p.times,fun o=>by simpa using p.free o,p.g_.dT p.ne _ _,p.ne⟩
theorem aF.lZ{w:World}{PB DB M n:Nat}{h s:Head}{F:Int->Option ByteArray}{q:Bool}{b:Int}(p:aF w PB DB M n h s F q b){k:Nat}(y:k<8)(r:Int):aF (w.setCell ⟨PB,2009+k,none⟩ (.int .i64 r)) PB DB M n (h.lZ k r) s F q b:=
 ⟨aX (by omega) p.oY,p.head.lZ y r,aX (by omega) p.map,p.saved.dT _ _ (by omega),aX (by omega) p.down,aX (by omega) p.times,fun o=>by simpa using p.free o,p.g_.dT p.ne _ _,p.ne⟩
def d_(h:Head)(k:Int):Bool:=decide (1<=k)&&decide (k<2000)&&h.used k.toNat
def q_(h:Head)(b:Bool)(k:Int):Value:=if d_ h k then if b then .iface 24 (.int .i64 6)else .nilIface else .iface 24 (.int .i64 2)
theorem re{h:Head}{b:Bool}{k:Int}(hu:d_ h k=false):q_ h b k=.iface 24 (.int .i64 2):=by
 unfold q_;rw[hu]
 rfl
theorem vq{h:Head}{k:Int}(hu:d_ h k=true):q_ h false k=.nilIface:=by
 unfold q_;rw[hu]
 rfl
theorem gJ{h:Head}{k:Int}:d_ h k=true↔∃m:Nat,k=m/\1<=m/\m<2000/\h.used m=true:=by
 unfold d_
 constructor
 ·intro e;simp only[aeA,decide_eq_true_eq]at e;exact⟨k.toNat,by omega,by omega,by omega,e.2⟩
 ·rintro⟨m,rfl,q,s,b⟩;simp only[aeA,decide_eq_true_eq];exact⟨⟨by omega,by omega⟩,by simpa using b⟩
theorem nu(PB DB M n:Nat)(h z:Head)(F:Int->Option ByteArray)(b:Bool)(q:Int)(k:Int)(w:World)(p:aF w PB DB M n h z F b q):
  Calls ad7 223 #[.pointer (some ⟨PB,0,none⟩),.int .i64 k] w (ar w (q_ h b k)):=by
 have P:=ad6 p;have H:=p.down;clear p;by_cases y:1<=k/\k<2000
 ·obtain⟨m,rfl⟩:=Int.eq_ofNat_of_zero_le (show 0<=k by omega);have B:m<2000:=by omega
  have I:=P.out.head.used m B;have s:d_ h (m:Int)=h.used m:=by
   unfold d_;rw[decide_eq_true y.1,decide_eq_true y.2];simp
  have hv:Hid (q_ h b (m:Int)=if h.used m then if b then .iface 24 (.int .i64 6)else .nilIface else .iface 24 (.int .i64 2)):=ad6 (by unfold q_;rw[s]);clear s;rw[hv.out];generalize h.used m=u at*;obtain⟨D,G⟩:=y;cases u<;>cases b<;>
   (go_enter aeR,aeJ
    go_wp2_with fail
    all_goals first|omega|skip
    all_goals
     go_ret;exact ar.mk rfl (Gr.refl _))
 ·have hu:d_ h k=false:=by
   rw[Bool.eq_false_iff];intro e;obtain⟨m,rfl,J,L,_⟩:=gJ.1 e;omega
  rw[re hu];clear hu;go_enter aeR,aeJ;go_wp2_with fail
  all_goals first|omega|skip
  all_goals
   go_ret;exact ar.mk rfl (Gr.refl _)
def eT(pg:Nat->ByteArray)(F:Int->Option ByteArray)(k:Nat):ByteArray:=match F k with|some s=>s|none=>bO pg k
theorem Gu(PB DB M n:Nat)(h y:Head)(F:Int->Option ByteArray)(q:Bool)(b:Int)(k:Int)(w:World)(p:aF w PB DB M n h y F q b)(hu:d_ h k=false):
  Calls ad7 170 #[.pointer (some ⟨PB,0,none⟩),.int .i64 k] w (ar w (.tuple #[.string ⟨#[]⟩,.iface 24 (.int .i64 2)])):=by
 have P:=ad6 p;have z:=ad6 hu;clear p hu;go_enter aeS,aeK;go_wp2_with fail
 refine(nu PB DB M n h y F q b k w P.out).mono ?_;rintro e B ⟨rfl,s⟩;rw[re z.out];go_wp2_with fail
 go_ret2;exact ar.mk rfl s
theorem Q3(PB DB M n:Nat)(h J:Head)(F:Int->Option ByteArray)(b:Int)(pg:Nat->ByteArray)(cut:Bool)(left torn:Int)(k:Nat)(w:World)(p:aF w PB DB M n h J F false b)(d:dH w DB pg cut left torn)(hu:d_ h k=true):
  Calls ad7 170 #[.pointer (some ⟨PB,0,none⟩),.int .i64 k] w (ar w (.tuple #[.string (eT pg F k),.nilIface])):=by
 obtain⟨m,L,U,V,G⟩:=gJ.1 hu;obtain rfl:k=m:=by omega
 have P:=ad6 p;have O:=ad6 d;have Q:=ad6 hu;clear p d hu L G;go_enter aeS,aeK;go_wp2_with fail
 refine(nu PB DB M n h J F false b k w P.out).mono ?_;rintro e S ⟨rfl,q⟩;rw[vq Q.out];have B:=ad6 (P.out.gr q);have H:=ad6 (O.out.gr q);have Y:=B.out.oY;have Z:=B.out.map;have z:=B.out.g_.look (k:=(k:Int)) (by omega);cases y:F (k:Int)with
 |none=>
  rw[y]at z;simp only[Option.isSome_none,Option.getD_none]at z;have D:Hid (eT pg F k=bO pg k):=ad6 (by unfold eT;rw[y]);clear y;go_wp2_with fail
  refine(qZ DB pg cut left torn k (by omega) S H.out).mono ?_;rintro e w2 ⟨rfl,I⟩;go_wp2_with fail
  go_ret2;refine ar.mk ?_ (q.trans I);rw[D.out]
  rfl
 |some s=>
  rw[y]at z;simp only[Option.isSome_some,Option.getD_some]at z;have D:Hid (eT pg F k=s):=ad6 (by unfold eT;rw[y]);clear y;go_wp2_with fail
  go_ret2;refine ar.mk ?_ q;rw[D.out]
  rfl
theorem Dg(PB DB M n:Nat)(h z:Head)(F:Int->Option ByteArray)(q:Bool)(b:Int)(k:Int)(s:ByteArray)(w:World)(p:aF w PB DB M n h z F q b)(hu:d_ h k=false):
  Calls ad7 251 #[.pointer (some ⟨PB,0,none⟩),.int .i64 k,.string s] w (ar w (.iface 24 (.int .i64 2))):=by
 have P:=ad6 p;have B:=ad6 hu;clear p hu;go_enter aeT,aeL;go_wp2_with fail
 refine(nu PB DB M n h z F q b k w P.out).mono ?_;rintro e D ⟨rfl,y⟩;rw[re B.out];go_wp2_with fail
 go_ret;exact ar.mk rfl y
theorem OL(PB DB M n:Nat)(h G:Head)(F:Int->Option ByteArray)(q:Int)(k:Int)(s:ByteArray)(hs:s.size=1024)(hn:n<1000000)(w:World)(p:aF w PB DB M n h G F false q)(hu:d_ h k=true):
  Calls ad7 251 #[.pointer (some ⟨PB,0,none⟩),.int .i64 k,.string s] w fun e w'=>e=.returned .nilIface/\aF w' PB DB M (n+1) h G (kM F k (some s)) false q/\ag (fun b=>b=PB\/b=M) w w':=by
 have z:-9223372036854775808<=k/\k<=9223372036854775807:=by
  obtain⟨m,Z,S,U,V⟩:=gJ.1 hu;omega
 have P:=ad6 p;have O:=ad6 hu;have I:=ad6 z;clear p hu z;have Y:((s.size:Int) !=1024)=false:=by simp;omega
 go_enter aeT,aeL;go_wp2_with fail
 refine(nu PB DB M n h G F false q k w P.out).mono ?_;rintro e w1 ⟨rfl,B⟩;rw[vq O.out];have H:=ad6 (P.out.gr B);have c1:=H.out.map;obtain⟨w2,L,D,y⟩:=H.out.g_.Nf hn I.out s (by omega);have J:=ad6 (H.out.Ls y D);have Q:=ad6 y;clear D y;go_wp2_with fail
 go_ret;exact⟨rfl,J.out,(ag.ak B).trans (ag.fY Q.out (.inr rfl))⟩
theorem Gv(PB DB M n:Nat)(h y:Head)(F:Int->Option ByteArray)(q:Bool)(b:Int)(k:Int)(w:World)(p:aF w PB DB M n h y F q b)(hu:d_ h k=false):
  Calls ad7 204 #[.pointer (some ⟨PB,0,none⟩),.int .i64 k] w (ar w (.iface 24 (.int .i64 2))):=by
 have P:=ad6 p;have z:=ad6 hu;clear p hu;go_enter aeU,aeM;go_wp2_with fail
 refine(nu PB DB M n h y F q b k w P.out).mono ?_;rintro e B ⟨rfl,s⟩;rw[re z.out];go_wp2_with fail
 go_ret;exact ar.mk rfl s
theorem Q4(PB DB M n:Nat)(h B:Head)(F:Int->Option ByteArray)(q:Int)(k:Nat)(w:World)(p:aF w PB DB M n h B F false q)(hu:d_ h k=true):
  Calls ad7 204 #[.pointer (some ⟨PB,0,none⟩),.int .i64 k] w fun e w'=>e=.returned .nilIface/\aF w' PB DB M n (h.put k false) B (kM F k none) false q/\ag (fun b=>b=PB\/b=M) w w':=by
 obtain⟨m,J,Q,S,H⟩:=gJ.1 hu;obtain rfl:k=m:=by omega
 have P:=ad6 p;have L:=ad6 hu;clear p hu H J;go_enter aeU,aeM;go_wp2_with fail
 refine(nu PB DB M n h B F false q k w P.out).mono ?_;rintro e U ⟨rfl,y⟩;rw[vq L.out];have D:=ad6 (P.out.gr y);have V:=D.out.head.used k (by omega);have Y:=D.out.free (1+k);have G:=ad6 (D.out.put (show k<2000 by omega) false);have Z:=G.out.map;go_wp2_with(at_delete;refine I2 rfl _ _ rfl G.out.g_ rfl rfl (by omega) ?_)
 intro w2 z s;have I:=ad6 (G.out.Ls s z);have O:=ad6 s;clear z s;go_wp2_with fail
 go_ret;exact⟨rfl,I.out,((ag.ak y).trans (ag.setCell _ _ (.inl rfl))).trans (ag.fY O.out (.inr rfl))⟩
theorem Lt:sJ fun _=>none:=fun _ _ h=>by cases h
theorem Bp{F:Int->Option ByteArray}(h:sJ F){k:Int}(b:1<=k/\k<2000){s:ByteArray}(hs:s.size=1024):sJ (kM F k (some s)):=fun i u e=>by
 unfold kM at e
 split at e
 ·injection e with e
  subst e;rename_i hi
  subst hi;exact⟨b.1,b.2,hs⟩
 ·exact h i u e
theorem Lu{F:Int->Option ByteArray}(h:sJ F)(k:Int):sJ (kM F k none):=fun i u e=>by
 unfold kM at e
 split at e
 ·cases e
 ·exact h i u e
def bZ(h:Head):Option Nat:=(ad_ 2000).find? fun i=>!h.used i
theorem wH{h:Head}(hf:h.aA){k:Nat}(e:bZ h=some k):1<=k/\k<2000/\h.used k=false/\∀i,i<k->h.used i=true:=by
 unfold bZ at e;obtain⟨y,q,z,s,B⟩:=List.find?_eq_some_iff_append.1 e;have D:k<2000:=aec.1 (List.mem_of_find?_eq_some e);have hu:h.used k=false:=by simpa using y
 have J:k≠0:=fun G=>by rw[G,hf.zero]at hu;cases hu
 refine⟨by omega,D,hu,fun i hi=>?_⟩;have L:q.length=k:=by
  have b:(ad_ 2000)[q.length]?=some k:=by rw[s];simp
  have H:q.length<2000:=by
   have:=(aeg.1 b).1;simpa using this
  rw[aer H]at b;exact aeH b
 have I:i∈q:=by
  have b:(q++k::z)[i]?=some i:=by rw[<-s,aer (by omega)]
  rw[List.getElem?_append_left (by omega)]at b;exact List.mem_of_getElem? b
 simpa using B i I
theorem Ec{h:Head}(hf:h.aA){k:Nat}(q:1<=k)(b:Bool):(h.put k b).aA:=
 ⟨by show(if 0=k then b else h.used 0)=true;rw[if_neg (by omega)];exact hf.zero,hf.root,hf.note⟩
theorem Ed{h:Head}(hf:h.aA)(i:Nat){p n:Int}(q:0<=p/\p<2000)(hn:0<=n/\n<65536):(h.dE i p n).aA:=
 ⟨hf.zero,fun j b=>by
  show 0<=(if j=i then p else h.roots j)/\(if j=i then p else h.roots j)<2000
  split
  ·exact q
  ·exact hf.root j b,fun j b=>by
  show 0<=(if j=i then n else h.notes j)/\(if j=i then n else h.notes j)<65536
  split
  ·exact hn
  ·exact hf.note j b⟩
structure Ch where
 h:Head
 F:Int->Option ByteArray
structure Ch.aA(c:Ch):Prop where
 head:c.h.aA
 g_:sJ c.F
def Ch.alloc(c:Ch):Ch:=match bZ c.h with|none=>c|some k=>⟨c.h.put k true,kM c.F k (some eC)⟩
def Ch.free(c:Ch)(k:Int):Ch:=if d_ c.h k then⟨c.h.put k.toNat false,kM c.F k none⟩else c
def Ch.write(c:Ch)(k:Int)(s:ByteArray):Ch:=if d_ c.h k then⟨c.h,kM c.F k (some s)⟩else c
def Ch.new(h:Head):Ch:=⟨h,fun _=>none⟩
theorem Ch.aA.oZ{c:Ch}(h:c.aA):c.alloc.aA:=by
 unfold Ch.alloc
 split
 ·exact h
 ·rename_i k e
  obtain⟨b,q,_,_⟩:=wH h.head e;exact⟨Ec h.head b _,Bp h.g_ (by omega) n_⟩
theorem Ch.aA.oe{c:Ch}(h:c.aA)(k:Int):(c.free k).aA:=by
 unfold Ch.free
 split
 ·rename_i hu
  obtain⟨m,rfl,b,q,_⟩:=gJ.1 hu;exact⟨Ec h.head (by simpa using b) _,Lu h.g_ _⟩
 ·exact h
theorem Ch.aA.sK{c:Ch}(h:c.aA)(k:Int){s:ByteArray}(hs:s.size=1024):(c.write k s).aA:=by
 unfold Ch.write
 split
 ·rename_i hu
  obtain⟨m,rfl,b,q,_⟩:=gJ.1 hu;exact⟨h.head,Bp h.g_ (by omega) hs⟩
 ·exact h
theorem Ch.xR{h:Head}(hf:h.aA):(Ch.new h).aA:=⟨hf,Lt⟩
def iJ(w:World)(B:Nat)(d:Dk):Prop:=dH w B d.pg d.cut d.left d.torn
theorem iJ.gr{w w':World}{B:Nat}{d:Dk}(h:iJ w B d)(g:Gr w w'):iJ w' B d:=dH.gr h g
theorem iJ.aC{S:Nat->Prop}{w w':World}{B:Nat}{d:Dk}(h:iJ w B d)(g:ag S w w')(hs:¬S B):iJ w' B d:=dH.aC h g hs
theorem iJ.lt{w:World}{B:Nat}{d:Dk}(h:iJ w B d):B<w.heap.size:=ad h.2.1
def Ei(b:Bool):Value:=if b then .nilIface else .iface 24 (.int .i64 14)
theorem Ej(B:Nat)(d:Dk)(k:Nat)(s:ByteArray)(w:World)(y:k<4001)(hs:s.size=1024)(hw:d.whole)(G:-1000000<=d.left/\d.left<=1000000)(h:iJ w B d):
  Calls ad7 137 #[.pointer (some ⟨B,0,none⟩),.int .i64 k,.string s] w fun e w'=>e=.returned (Ei (iY d k s).1)/\iJ w' B (iY d k s).2/\ag (fun b=>b=B) w w':=by
 unfold iY
 split
 ·rename_i q
  refine(OE B d.pg d.cut d.left d.torn k y s hs q (by omega) w h).mono ?_;rintro e w' ⟨rfl,z,D⟩;exact⟨rfl,z,ag.fY D rfl⟩
 ·rename_i q
  refine(Lh B d.pg d.cut d.left d.torn k y s hs (Bool.not_eq_true _▸q:d.on=false) (hw k y) w h).mono ?_;rintro e w' ⟨rfl,z,D⟩;exact⟨rfl,z,ag.fY D rfl⟩
def Ek(v:Value)(B:Nat):Prop:=∀b q n c,v=.slice (some ⟨b,q,none⟩) n c->b≠B
theorem jB.wrote{q:Type}{enc:q->Value}{w w':World}{v:Value}{xs:List q}{B:Nat}(h:jB enc w v xs)(s:Ek v B)(g:ag (fun b=>b=B) w w'):jB enc w' v xs:=h.aC g s
theorem Q_(w:World):Calls ad7 138 #[.string ⟨#[]⟩] w (ar w (.string eC)):=by
 have:=Ge ⟨#[]⟩ (by decide) w;have e:(⟨(lr (⟨#[]⟩:ByteArray).data.toList).toArray⟩:ByteArray)=eC:=qj (by rw[wB,tP]);rw[e]at this;exact this
theorem OQ(B:Nat)(d:Dk)(q:List Nat)(L:List ByteArray)(pv lv:Value)(w:World)(hp:jB yV w pv q)(hl:jB aem w lv L)(U:Ek pv B)(V:Ek lv B)(G:q.length=L.length)(M:∀k∈q,k<2000)(O:∀s∈L,s.size=1024)(hn:q.length<=2000)
  (hd:iJ w B d) (hw:d.whole) (e7:-900000<=d.left/\d.left<=1000000):
  Calls ad7 80 #[.pointer (some ⟨B,0,none⟩),pv,lv] w fun e w'=>e=.returned (Ei (fu d (kL q L)).1)/\iJ w' B (fu d (kL q L)).2/\ag (fun b=>b=B) w w':=by
 obtain⟨po,pc,rfl⟩:=hp.form;obtain⟨lo,lc,rfl⟩:=hl.form;have HP:=ad6 hp;have HL:=ad6 hl;have c4:=ad6 U;have c5:=ad6 V;have HW:=ad6 hw;have HD:=ad6 hd;have c6:=ad6 M;have c7:=ad6 O;have e8:(q.zip L).length=q.length:=by rw[List.length_zip];omega
 have Y:Lo (q.zip L):=fun x H=>by
  obtain⟨S,h2⟩:=aeG (show(x.1,x.2)∈q.zip L from H);exact⟨by have:=M _ S;omega,O _ h2⟩
 have c8:=ad6 Y;have Z:=ad6 G;clear hp hl U V hw hd M O Y G;go_enter Tryz.func80,Tryz.ntmps80;go_wp2_with fail
 go_loopw [12] (fun kv w'=>∃(i:Nat) (e:Dk),i<=q.length/\kv=.int .i64 i/\fu d ((q.zip L).take i)=(true,e)/\iJ w' B e/\ag (fun b=>b=B) w w') (fun kv _=>q.length-(intOf kv).toNat)
 case atStart=>exact⟨0,d,aee _,rfl,rfl,HD.out,ag.refl _ _⟩
 case round=>
  obtain⟨i,e,hi,rfl,he,a1,hg⟩:=hrel;have HE:=ad6 he;have a3:e.whole:=by
   have:=sI ((q.zip L).take i) HW.out (fun x H=>c8.out x (List.mem_of_mem_take H));rw[he]at this;exact this
  have e9:d.left-i<=e.left/\e.left<=d.left:=by
   have h3:=Bn ((q.zip L).take i) d;rw[he]at h3;have h4:d.left-(((q.zip L).take i).length:Int)<=e.left/\e.left<=d.left:=h3;rw[aek]at h4;omega
  have a4:=ad6 a3;have a5:=ad6 a1;clear he a3 a1;by_cases y:i<q.length
  ·obtain⟨b,g0,rfl,hc⟩:=(HP.out.wrote c4.out hg).at y;obtain⟨b2,d6,rfl,a6⟩:=(HL.out.wrote c5.out hg).at (i:=i) (by rw[<-Z.out];exact y);have c0:=hc i y;have I:i<L.length:=by rw[<-Z.out];exact y
   have c1:=a6 i I;have a7:i<(q.zip L).length:=by omega
   have H:(q.zip L)[i]=(q[i],L[i]):=by rw[List.getElem_zip]
   have HX:=ad6 H;have hk:=c6.out _ (aeB y);have hs:=c7.out _ (aeB I);have c9:Hid (∀e',(iY e q[i] L[i]).1=true->(iY e q[i] L[i]).2=e'->fu d ((q.zip L).take (i+1))=(true,e')):=ad6 fun e' S h2=>by
    have:=Lp a7 HE.out (by rw[HX.out];exact S);rw[this,HX.out];show(true,(iY e q[i] L[i]).2)=_;rw[h2]
   have d0:Hid ((iY e q[i] L[i]).1=false->fu d (kL q L)=(false,(iY e q[i] L[i]).2)):=ad6 fun S=>by
    have:=Lq (m:=[(2000,eC)]) a7 HE.out (by rw[HX.out];exact S);rw[HX.out]at this;exact this
   unfold yV at c0;clear hc a6 H;generalize q[i]=k at*;generalize L[i]=s at*;go_wp2_with fail
   refine(Ej B e k s _ (by omega) hs a4.out (by omega) a5.out).mono ?_;rintro e1 w1 ⟨rfl,Q,z⟩;have a9:=ad6 Q;have b0:=hg.trans z;cases D:(iY e k s).1
   ·have d1:=ad6 (d0.out D);clear Q D;unfold Ei;go_wp2_with fail
    go_ret;rw[d1.out];exact⟨rfl,a9.out,b0⟩
   ·have d2:=ad6 (c9.out _ D rfl);clear Q D;unfold Ei;go_wp2_with fail
    go_roundw
    case rel=>
     exact⟨i+1,_,by omega,by go_num,d2.out,a9.out,b0⟩
    case measure=>
     simp[intOf];omega
  ·obtain rfl:i=q.length:=by omega
   have J:(q.zip L).take q.length=q.zip L:=aeb (by omega);have b3:Hid (fu d (kL q L)=iY e 2000 eC):=ad6 (by
    unfold kL;have:=HE.out;rw[J]at this;rw[mY,this,if_pos rfl,jY];show(if(iY e 2000 eC).1 then fu (iY e 2000 eC).2 []else(false,(iY e 2000 eC).2))=_;cases h:(iY e 2000 eC).1
    ·exact Prod.ext h.symm rfl
    ·exact Prod.ext h.symm rfl)
   clear J;go_wp2_with fail
   refine(Q_ _).mono ?_;rintro e1 w1 ⟨rfl,z⟩;have b4:=ad6 (a5.out.gr z);go_wp2_with fail
   refine(Ej B e 2000 eC _ (by omega) n_ a4.out (by omega) b4.out).mono ?_;rintro e2 w2 ⟨rfl,b1,d3⟩;have d4:=ad6 b1;clear b1;go_wp2_with fail
   go_ret;rw[b3.out];exact⟨rfl,d4.out,(hg.trans (ag.ak z)).trans d3⟩
theorem results_tmp3{P:Program}{q:Func}{a b c:Nat}{tmps:Array Value}{w:World}(s:q.results=#[aes a,aes b,aes c]):
  (results q tmps).run P w=.ok (.tuple #[tmps.getD a undef,tmps.getD b undef,tmps.getD c undef]) w:=by
 simp[results,s]
theorem Ra(PB DB M n:Nat)(h y:Head)(F:Int->Option ByteArray)(q:Bool)(b:Int)(k:Nat)(s:k<8)(w:World)(p:aF w PB DB M n h y F q b):
  Calls ad7 83 #[.pointer (some ⟨PB,0,none⟩),.int .i64 k] w (ar w (.tuple #[.int .i64 (h.roots k),.int .i64 (h.notes k),.nilIface])):=by
 have z:=p.head.root k s;have B:=p.head.note k s;clear p;generalize h.roots k=r0 at*;generalize h.notes k=r1 at*;go_enter Tryz.func83,Tryz.ntmps83;go_wp2_with fail
 go_region
 all_goals
  go_wp2_with fail
  refine bodyPost_ret (results_tmp3 rfl) rfl ?_;refine ar.mk rfl ?_
  repeat(with_reducible first|refine Gr.drew ?_|refine Gr.alloc ?_ _)
  exact Gr.refl _
theorem Aa(PB DB M n:Nat)(h s:Head)(F:Int->Option ByteArray)(q:Bool)(b:Int)(i k t:Int)(y:i<0\/8<=i\/k<0\/2000<=k\/t<0\/65536<=t)(w:World)(_:aF w PB DB M n h s F q b):
  Calls ad7 202 #[.pointer (some ⟨PB,0,none⟩),.int .i64 i,.int .i64 k,.int .i64 t] w (ar w (.iface 24 (.int .i64 2))):=by
 go_enter aeV,aeN;go_wp2_with fail
 all_goals first|omega|skip
 all_goals
  go_ret;exact ar.mk rfl (Gr.refl _)
theorem I6(PB DB M n:Nat)(h s:Head)(F:Int->Option ByteArray)(q:Int)(i:Nat)(k t:Int)(hi:i<8)(y:0<=k/\k<2000)(z:0<=t/\t<65536)(w:World)(p:aF w PB DB M n h s F false q):
  Calls ad7 202 #[.pointer (some ⟨PB,0,none⟩),.int .i64 i,.int .i64 k,.int .i64 t] w fun e w'=>e=.returned .nilIface/\aF w' PB DB M n (h.dE i k t) s F false q/\ag (fun b=>b=PB\/b=M) w w':=by
 have B:=p.head.root i hi;have D:=p.head.note i hi;have G:=p.down;have H:=p.free (2001+i);have I:=p.free (2009+i);have P:=ad6 p;clear p;go_enter aeV,aeN;go_wp2_with fail
 all_goals first|omega|skip
 go_region
 all_goals
  go_wp2_with fail
  go_ret;refine⟨rfl,aF.gr (w:=(w.setCell ⟨PB,2001+i,none⟩ (.int .i64 k)).setCell ⟨PB,2009+i,none⟩ (.int .i64 t)) ?_ ?_,?_⟩
  ·exact(P.out.lY hi k).lZ hi t
  ·exact(Gr.refl _).drew
  ·exact((ag.setCell _ _ (.inl rfl)).trans (ag.setCell _ _ (.inl rfl))).trans (ag.drew _)
theorem Di{h:Head}{k:Nat}(y:k<2000)(b:∀j,j<k->h.used j=true)(q:h.used k=false):bZ h=some k:=by
 unfold bZ;have e:ad_ 2000=ad_ k++k::List.range' (k+1) (1999-k):=by
  rw[aeq,aeq,show 2000=k+(1999-k+1)by omega,<-List.range'_append_1,List.range'_succ];simp
 rw[e,List.find?_append,aev.2 (fun j s=>by rw[b j (aec.1 s)];decide),Option.none_or,List.find?_cons_of_pos (by rw[q];rfl)]
theorem GA{h:Head}(b:∀j,j<2000->h.used j=true):bZ h=none:=
 aev.2 fun j q=>by rw[b j (aec.1 q)];decide
def wM(h:Head):Int:=match bZ h with|none=>-1|some k=>k
theorem I7(B:Nat)(h:Head)(w:World)(a:aK w B 1 h):
  Calls ad7 250 #[.slice (some ⟨B,1,none⟩) 2000 2000,.bool false] w (ar w (.int .i64 (wM h))):=by
 have I:=ad6 a;clear a;go_enter Tryz.func250,Tryz.ntmps250;go_wp2_with fail
 go_loopw [8] (fun s w'=>∃i:Nat,i<=2000/\s=.int .i64 i/\(∀j,j<i->h.used j=true)/\w'=w) (fun s _=>2000-(intOf s).toNat)
 case atStart=>exact⟨0,aee _,rfl,fun j b=>absurd b (Nat.not_lt_zero _),rfl⟩
 case round=>
  obtain⟨i,hi,rfl,b,rfl⟩:=hrel;have y:=ad6 b;clear b;by_cases q:i<2000
  ·have G:=I.out.used i q;cases hu:h.used i
   ·rw[hu]at G;have z:Hid (wM h=(i:Int)):=ad6 (by unfold wM;rw[Di q y.out hu]);clear hu;go_wp2_with fail
    go_ret;rw[z.out];exact ar.mk rfl (Gr.refl _)
   ·rw[hu]at G;have D:Hid (∀j,j<i+1->h.used j=true):=ad6 fun j b=>by
     rcases Nat.lt_or_ge j i with H|H
     ·exact y.out j H
     ·obtain rfl:j=i:=by omega
      exact hu
    clear hu;go_wp2_with fail
    refine⟨⟨i+1,by omega,by go_num,D.out,trivial⟩,by simp[intOf];omega⟩
  ·obtain rfl:i=2000:=by omega
   have z:Hid (wM h=-1):=ad6 (by unfold wM;rw[GA y.out]);go_wp2_with fail
   go_ret;rw[z.out];exact ar.mk rfl (Gr.refl _)
theorem Br(PB DB M n:Nat)(h B:Head)(F:Int->Option ByteArray)(q:Int)(w:World)(p:aF w PB DB M n h B F false q)(ha:bZ h=none):
  Calls ad7 199 #[.pointer (some ⟨PB,0,none⟩)] w (ar w (.tuple #[.int .i64 0,.iface 24 (.int .i64 12)])):=by
 have D:=p.down;have b:=I7 PB h w p.head;have z:wM h=-1:=by unfold wM;rw[ha]
 rw[z]at b;have s:=ad6 b;clear b z ha p;go_enter aeW,aeO;go_wp2_with fail
 refine s.out.mono ?_;rintro e G ⟨rfl,y⟩;go_wp2_with fail
 go_ret2;exact ar.mk rfl y
theorem OR(PB DB M n:Nat)(h S:Head)(F:Int->Option ByteArray)(q:Int)(hn:n<1000000)(w:World)(p:aF w PB DB M n h S F false q){k:Nat}(U:k<2000)(ha:bZ h=some k):
  Calls ad7 199 #[.pointer (some ⟨PB,0,none⟩)] w fun e w'=>e=.returned (.tuple #[.int .i64 k,.nilIface])/\aF w' PB DB M (n+1) (h.put k true) S (kM F k (some eC)) false q/\ag (fun b=>b=PB\/b=M) w w':=by
 have cd:=p.down;have s:=I7 PB h w p.head;have V:wM h=k:=by unfold wM;rw[ha]
 rw[V]at s;have L:=ad6 s;have P:=ad6 p;clear s V ha p;go_enter aeW,aeO;go_wp2_with fail
 refine L.out.mono ?_;rintro e Y ⟨rfl,z⟩;have H:=ad6 (P.out.gr z);have c0:=H.out.head.used k U;have z0:=H.out.free (1+k);have I:=ad6 (H.out.put U true);have Z:=I.out.map;have O:=fun J (hg:Gr (Y.setCell ⟨PB,1+k,none⟩ (.bool true)).drew J)=>(I.out.gr ((Gr.refl _).drew.trans hg)).g_.Nf hn (k:=(k:Int)) (by omega) eC (by rw[n_];omega);go_wp2_with fail
 go_region_with(first
  |(go_at_call 138;refine(Q_ _).mono ?_;rintro e J ⟨rfl,y⟩;have k0:=y.keeps ((Gr.refl _).drew.keeps Z);obtain⟨w5,a1,B,D⟩:=O J y;have Q:=ad6 B;have G:=ad6 y;clear B))
 all_goals
  go_wp2_with fail
  go_ret2;exact⟨rfl,(I.out.gr ((Gr.refl _).drew.trans G.out)).Ls D Q.out,((((ag.ak z).trans (ag.setCell _ _ (.inl rfl))).trans (ag.drew _)).trans (ag.ak G.out)).trans (ag.fY D (.inr rfl))⟩
theorem aF.Tf{w:World}{PB DB M n:Nat}{h s:Head}{F:Int->Option ByteArray}{q:Bool}{b:Int}(p:aF w PB DB M n h s F q b)(g:Head):aF (w.setCells PB 1 g.cells) PB DB M n g s F q b:=by
 have y:ag (fun k=>k=PB) w (w.setCells PB 1 g.cells):=f_ PB g.cells 1 w;have z:¬(fun k=>k=PB) M:=fun e=>p.ne e.symm;exact⟨dg p.oY g (by omega),p.head.over p.free g,dg p.map g (by omega),p.saved.IU 1 g (by omega),dg p.down g (by omega),dg p.times g (by omega),fun o=>by rw[aen];exact p.free o,p.g_.aC y z,p.ne⟩
theorem aF.Tg{w:World}{PB DB M n:Nat}{h s:Head}{F:Int->Option ByteArray}{q:Bool}{b:Int}(p:aF w PB DB M n h s F q b)(g:Head):aF (w.setCells PB 2018 g.cells) PB DB M n h g F q b:=by
 have y:ag (fun k=>k=PB) w (w.setCells PB 2018 g.cells):=f_ PB g.cells 2018 w;have z:¬(fun k=>k=PB) M:=fun e=>p.ne e.symm;exact⟨dg p.oY g (by omega),p.head.IU 2018 g (by omega),dg p.map g (by omega),p.saved.over p.free g,dg p.down g (by omega),dg p.times g (by omega),fun o=>by rw[aen];exact p.free o,p.g_.aC y z,p.ne⟩
theorem pn{q:Array Oper}{rest:List Oper}{op:Oper}{a:Act}{w:World}{Q:Exit->Act->World->Prop}(s:op.guard=none)(x:aeQ)(y:op.op=.load 156 x)(b o:Nat)(h:Head)
  (z:a.eval x=.pointer (some ⟨b,o,none⟩)) (ha:aK w b o h) (B:∀A:Array Value,Hid (A=h.cells.toArray)->wpList ad7 q Q rest (a.put op.dst (.agg A)) w):wpList ad7 q Q (op::rest) a w:=
 wpList_load_mid s 156 x y b o z _ _ ha.range aeu rfl (by rw[ly,Head.fJ]) (B _ (ad6 rfl))
theorem ij{q:Array Oper}{rest:List Oper}{op:Oper}{a:Act}{w:World}{Q:Exit->Act->World->Prop}(s:op.guard=none)(x y:aeQ)(z:op.op=.store 156 x y)(b o:Nat)(h B:Head)(A:Array Value)
  (D:a.eval x=.pointer (some ⟨b,o,none⟩)) (G:a.eval y=.agg A) (hv:A=h.cells.toArray) (ha:aK w b o B) (hf:∀j,w.frozen? ⟨b,j,none⟩=false)
  (H:∀w',Hid (w'=w.setCells b o h.cells)->wpList ad7 q Q rest (a.put op.dst undef) w'):wpList ad7 q Q (op::rest) a w:=by
 subst hv;refine wpList_store_mid s 156 x y z b o _ D G ?_ (by rw[ly,Head.wC]) (all_oneCell_toArray (Head.cells_one _)) ?_
 ·rw[Head.wC];exact ha.there hf
 ·exact H _ (ad6 rfl)
theorem Bs{w w':World}{PB DB M n:Nat}{h s:Head}{F:Int->Option ByteArray}{q:Bool}{b:Int}{g:Head}(hw:Hid (w'=w.setCells PB 1 g.cells))(p:aF w PB DB M n h s F q b):aF w' PB DB M n g s F q b/\ag (fun k=>k=PB) w w':=by
 rw[hw.out];exact⟨p.Tf g,f_ PB g.cells 1 w⟩
theorem Bt{w w':World}{PB DB M n:Nat}{h s:Head}{F:Int->Option ByteArray}{q:Bool}{b:Int}{g:Head}(hw:Hid (w'=w.setCells PB 2018 g.cells))(p:aF w PB DB M n h s F q b):aF w' PB DB M n h g F q b/\ag (fun k=>k=PB) w w':=by
 rw[hw.out];exact⟨p.Tg g,f_ PB g.cells 2018 w⟩
end
section
open Go Go.RowKit Go.Maps Go.Sort Go.Shelf
theorem MapAt.keys{w:World}{M n:Nat}{F:Int->Option ByteArray}(h:MapAt w M n F)(Z:sJ F):
  ∃D:DataW Unit,w.ownsMap ad7 3 (plainElem ad7 9) M n D/\((Lr F).map fun(k:Nat)=>(k:Int)).Perm (intKeys D):=by
 obtain⟨D,H,U⟩:=h;refine⟨D,H,?_⟩;obtain⟨V,Y,I,_⟩:=H.entries IT;obtain⟨J,B,L⟩:=H.keysOf;obtain rfl:V=J:=by rw[Y]at B;simpa using B
 subst Y;have y:∀p∈V,∃x:Int,p.1=.int .i64 x/\(ae1 .i64 x).wf=true:=fun p z=>by
  obtain⟨v,hv⟩:=L p z;obtain⟨x,_,q,hw⟩:=Maps.keyOf_i64 aez hv;exact⟨x,q,hw⟩
 have O:((Lr F).map fun(k:Nat)=>(k:Int)).Nodup:=by
  show List.Pairwise _ _;rw[List.pairwise_map];refine ae2 (fun{a b} (a1:a≠b)=>?_) (aeY _ List.nodup_range);show(a:Int)≠(b:Int);omega
 refine perm_intKeys I (fun p z=>by obtain⟨x,q,_⟩:=y p z;exact⟨x,q⟩) O fun x=>?_
 constructor
 ·intro q;obtain⟨k,hk,rfl⟩:=aex.1 q;obtain⟨a2,Q⟩:=IZ.1 hk;rw[(U (k:Int) (QZ (by omega))).1];exact Q
 ·intro q;have G:=q;rw[has_eq,List.any_eq_true]at G;obtain⟨p,z,hs⟩:=G;obtain⟨a,ha,hw⟩:=y p z;rw[ha]at hs;have S:x=a:=by simpa[Lit.sameKey,eq_comm]using hs
  subst S;rw[(U x hw).1]at q;obtain⟨s,hs⟩:=Option.isSome_iff_exists.1 q;obtain⟨f1,f2,_⟩:=Z _ _ hs;refine aex.2 ⟨x.toNat,IZ.2 ⟨by omega,?_⟩,by omega⟩;rw[show((x.toNat:Nat):Int)=x by omega,hs]
  rfl
end
section
open Go Go.RowKit
def Nh(v b:Value)(w w':World):Prop:=w.heap.size<=w'.heap.size/\∀k,k<w.heap.size->v.ownBlock≠some k->b.ownBlock≠some k/\w'.heap[k]?=w.heap[k]?
theorem fU.Rb{z:Type}{enc:z->Value}{e:TypeId}{a0 w w':World}{u v B:Value}{D:List z}(h:fU enc e a0 w u D)(hd:∀b,u.ownBlock=some b->v.ownBlock≠some b)(m:Nh v B w w'):fU enc e a0 w' u D/\∀b,u.ownBlock=some b->B.ownBlock≠some b:=by
 have q:=ba h;obtain⟨G,s⟩:=h
 constructor
 ·refine⟨G,?_⟩;rcases s with s|⟨b,cap,y,hv,H,I,r⟩
  ·exact .inl s
  ·have e:u.ownBlock=some b:=by rw[hv];rfl
   exact .inr ⟨b,cap,y,hv,H,by rw[(m.2 b (q b e) (hd b e)).2];exact I,r⟩
 ·intro b e;exact(m.2 b (q b e) (hd b e)).1
theorem El{L:Type}{enc:L->Value}{a0 w:World}{H:Array Oper}{rest:List Oper}{o:Oper}{a:Act}{Q:Exit->Act->World->Prop}(S:o.guard=none)(s x:aeQ)(t e:TypeId)(z:Value)(I:Nat)
  (ht:ad7.underlying t=some (.slice e)) (b:(ad7.info? e).map (fun i=>(i.zero,i.size,i.bytes))=some (some z,1,I)) (U:z.cells.size=1) (V:I<=16)
  (ho:o.op=.call {callee:=.builtin .append,args:=#[s,x],argTypes:=#[t,t]}) (v:Value) (us:List L) (hs:a.eval s=v) (B:fU enc e a0 w v us) (y:L) (M:(enc y).oneCell'=true)
  (hx:a.eval x=.slice (some ⟨w.heap.size,0,none⟩) 1 1) (hl:us.length<=1000000) (hg:Gr a0 w)
  (h:∀D w',fU enc e a0 w' D (us++[y])->Gr a0 w'->Nh v D w w'->wpList ad7 H Q rest (a.put o.dst D) w'):wpList ad7 H Q (o::rest) a (w.alloc (.cells #[enc y] e)):=by
 obtain⟨i0,b,Y,Z,a1⟩:=info_parts b;have q:(us.length+1)*I<=140737488355328:=by
  have:=Nat.mul_le_mul (show us.length+1<=1000001 by omega) V;omega
 refine wpList_append_own_at _ S s x t ho a0.heap.size e i0 z 1 I ht b Y Z a1 U (by decide) v us.length (us.map enc) hs (aeZ B _) ⟨w.heap.size,0,none⟩ 1 1 [enc y] hx rfl ?_ (by simpa using M) (by unfold maxLen;omega) q (by have:=hg.size;simp;omega)
  (fun D w' M O _ G=>h D w' (fU.snoc M) (iM (hg.alloc _) O (aP B)) ⟨by have:=O.size;simp at this;omega,fun k hk J=>⟨fun e=>by
   rcases G with G|G
   ·exact J (G.symm.trans e)
   ·rw[G]at e;have:=aeH e;simp at this;omega,(O.block k (by simp;omega) (fun e=>J e.symm)).trans (Below.heap_alloc _ _ _ hk)⟩⟩)
 intro j u hj;have he:(⟨w.heap.size,0,none⟩:Addr).add j=⟨w.heap.size,j,none⟩:=by
  unfold Addr.add
  split
  ·rename_i h0;rw[h0]
  ·simp
 rw[he,World.cell?_alloc_new];simpa using hj
