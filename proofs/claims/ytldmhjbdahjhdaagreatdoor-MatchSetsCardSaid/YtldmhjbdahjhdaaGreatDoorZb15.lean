/-
  Part 15 of the proof.
-/
import Derived.Test.YtldmhjbdahjhdaaGreatDoorZb14
open Go.Lib renaming hid->anV,idxByFrom->an2,idxBy->aoj
open Go.World renaming cell?_alloc_new->anW
open Go.Proofs.Tryz renaming prog->anX,ntmps111->an9,func111->an_,func151->aoa,ntmps151->aog,func152->aom
open List renaming length_cons->anY,take_succ_eq_append_getElem->an0,length_filter_le->an1,filter_congr->an5,getElem?_eq_getElem->an6,filter_cons->an7,replicate->an8,length_take->aob,cons_append->aoc,length_set->aoe,length_map->aof,mem_cons->aoh
open Bool renaming false_eq_true->anZ,false_or->aoi
open Go.IntKind renaming i64->an3
open Nat renaming mod_two_eq_zero_or_one->an4,le_refl->aod,zero_add->aok,le_trans->aol
open Go.World.ownsRow renaming alloc->aon
open List.Pairwise renaming nil->aoo
open Option.some renaming inj->aop
set_option maxRecDepth 100000
set_option maxHeartbeats 100000000
set_option linter.all false
namespace Go.Proofs.YtldmhjbdahjhdaaGreatDoor
section
open Go Go.RowKit Go.Shelf Go.Lib Go.Sort
theorem Be(b:aa->Bool):∀(xs:List aa) (i:Nat),(an2 (fun _ y=>b y) default xs i=-1/\xs.filter (fun x=>!b x)=xs)\/∃k,∃h:k<xs.length,an2 (fun _ y=>b y) default xs i=((i+k:Nat):Int)/\b xs[k]=true/\(xs.take k).filter (fun x=>!b x)=xs.take k
 |[],i=>.inl ⟨rfl,rfl⟩
 |x::xs,i=>by
  by_cases s:b x=true
  ·exact .inr ⟨0,by simp,by simp[an2,s],by simpa using s,by simp⟩
  ·have q:b x=false:=by simpa using s
   rcases Be b xs (i+1)with⟨z,B⟩|⟨k,D,z,B,G⟩
   ·exact .inl ⟨by simp[an2,q,z],by simp[q,B]⟩
   ·refine .inr ⟨k+1,by simpa using D,?_,by simpa using B,by simp[q,G]⟩;simp only[an2,q,z];simp;omega
theorem qW{b:Type}(f:b->Bool)(l:List b)(k:Nat)(q:k<l.length):(l.take (k+1)).filter f=if f l[k]then(l.take k).filter f++[l[k]]else(l.take k).filter f:=by
 rw[an0 q,List.filter_append];by_cases h:f l[k]=true<;>simp[h]
theorem IJ(a0 w:World)(xs:List aa)(B cap g:Nat)(lb:Array Value)(O:aa->Bool)(hl:xs.length<=1000000)(h3:xs.length<=cap)(h:iV w B xs)(hB:B<w.heap.size)(b5:a0.heap.size<=B)(hg:Gr a0 w)
  (eg:∀args w,(callFunc g args).run anX w=.ok (.enter g args) w) (hp:∀(W:World) (x:aa),Gr a0 W->Calls anX g (#[x.val]++lb) W (ar W (.bool (O x)))):
  Calls anX 111 #[.slice (some ⟨B,0,none⟩) xs.length cap,.func (.func g) #[] lb] w fun e w'=>
   e=.returned (.slice (some ⟨B,0,none⟩) (xs.filter (fun x=>!O x)).length cap)/\iV w' B (xs.filter (fun x=>!O x))/\Gr a0 w'/\w.heap.size<=w'.heap.size:=by
 have a5:=IG xs (.slice (some ⟨B,0,none⟩) xs.length cap) g lb O w (.inr ⟨B,0,cap,rfl,hB,fun i hi=>by
  have:=h i hi;rw[aok];exact⟨this.1.1,this.2.1⟩⟩) hl eg (fun W x hW=>hp W x (hg.trans hW))
 have H:=anV h;have HP:=anV hp;have HG:=anV hg;clear h hp hg;rcases Be O xs 0 with⟨e1,e2⟩|⟨k,hk,e1,e2,e3⟩
 ·have a6:aoj (fun _ y=>O y) xs default=-1:=e1;rw[a6]at a5;rw[e2];go_enter an_,an9;go_wp2_with fail
  refine a5.mono ?_;rintro e w1 ⟨rfl,M⟩;go_wp2_with fail
  go_ret;exact⟨rfl,H.out.gr M hB,HG.out.trans M,M.size⟩
 ·have a6:aoj (fun _ y=>O y) xs default=(k:Int):=by
   have:aoj (fun _ y=>O y) xs default=((0+k:Nat):Int):=e1;rwa [aok]at this
  rw[a6]at a5;have h4:¬(k:Int)=-1:=by omega
  have E2:=anV e2;have E3:=anV e3;clear e1 a6 e2 e3;go_enter an_,an9;go_wp2_with fail
  refine a5.mono ?_;rintro e w1 ⟨rfl,M⟩;have e8:=anV (H.out.gr M hB);have e9:=M.size;have g0:=anV (HG.out.trans M);clear M;go_wp2_with fail
  go_loopw [5,6] (fun kv jv w'=>∃(q j:Nat) (b:List aa),k+1<=j/\j<=xs.length/\kv=.int .i64 q/\jv=.int .i64 j/\q<j/\b.length=xs.length/\(∀i,j<=i->b[i]?=xs[i]?)/\(xs.take j).filter (fun x=>!O x)=b.take q/\iV w' B b/\Gr a0 w'/\w.heap.size<=w'.heap.size) (fun _ jv _=>xs.length-(intOf jv).toNat)
  case atStart=>
   refine⟨k,k+1,xs,aod _,hk,rfl,by go_num,by omega,rfl,fun _ _=>rfl,?_,e8.out,g0.out,e9⟩;rw[qW _ _ _ hk,E2.out];exact E3.out
  case round=>
   obtain⟨q,j,b,i6,i7,rfl,rfl,i9,I,c6,c7,a8,c8,g3⟩:=hrel;have L:=anV a8;have c9:=anV c7;have s:=anV c6;have b6:=anV c8;have g4:B<wr.heap.size:=by omega
   clear a8 c7 c6 c8;by_cases d0:j<xs.length
   ·have j0:(j:Int)<(xs.length:Int):=by omega
    have d3:b[j]'(by omega)=xs[j]:=by
     have:=s.out j (aod _);rw[an6 (by omega),an6 d0]at this;exact aop this
    have hr:=L.out j (by omega);have d4:=L.out q (by omega);rw[d3]at hr;have b7:=qW (fun x=>!O x) xs j d0;rw[c9.out]at b7;have g5:=HP.out;generalize j1:xs[j]=x at*;obtain⟨U,V⟩:=x;have j2:(q:Int)<(xs.length:Int):=by omega
    have c1:=hr.1.1;have c2:=hr.2.1;simp only at c1 c2;have g6:=anV hr;have j3:=anV d4;have d5:=anV b7;clear hr d4 b7 d3;go_wp2_with fail
    refine(g5 (wr.alloc (.cells #[.int .i64 U,.int .i64 V] 104)) (U,V) (b6.out.alloc _)).mono ?_;rintro e w4 ⟨rfl,a7⟩;have d6:Gr wr (wr.alloc (.cells #[.int .i64 U,.int .i64 V] 104)):=(Gr.refl wr).alloc _;have b1:w4.cell? ⟨wr.heap.size,0,none⟩=some (.int .i64 U):=a7.keeps (by rw[anW];rfl);have b2:w4.cell? ⟨wr.heap.size,1,none⟩=some (.int .i64 V):=a7.keeps (by rw[anW];rfl);have Q:=d6.trans a7;have Y:=b6.out.trans Q;have J:=L.out.gr Q g4;have h5:=Q.size;clear c1 c2 g6 d6 a7;by_cases b8:O (U,V)=true
    ·have S:=d5.out;simp only[b8,Bool.not_true,anZ,if_false]at S;rw[b8];have z:=anV S;have D:=anV J;have G:=anV Y;clear S J Y Q;go_wp2_with fail
     go_roundw
     case measure=>
      simp[intOf];omega
     case rel=>
      first|exact⟨_,_,_,_,_,_,_,_,_,_,_,_,_,_,_,_,_,_,_,_,_,_,_,⟨q,j+1,b,by omega,by omega,rfl,by go_num,by omega,I,fun i hi=>s.out i (by omega),z.out,D.out,G.out,by omega⟩,rfl⟩|exact⟨_,_,_,_,_,_,_,_,_,_,_,_,_,_,_,_,_,_,_,_,_,_,⟨q,j+1,b,by omega,by omega,rfl,by go_num,by omega,I,fun i hi=>s.out i (by omega),z.out,D.out,G.out,by omega⟩,rfl⟩|exact⟨_,_,_,_,_,_,_,_,_,_,_,_,_,_,_,_,_,_,_,_,_,⟨q,j+1,b,by omega,by omega,rfl,by go_num,by omega,I,fun i hi=>s.out i (by omega),z.out,D.out,G.out,by omega⟩,rfl⟩|exact⟨_,_,_,_,_,_,_,_,_,_,_,_,_,_,_,_,_,_,_,_,⟨q,j+1,b,by omega,by omega,rfl,by go_num,by omega,I,fun i hi=>s.out i (by omega),z.out,D.out,G.out,by omega⟩,rfl⟩|exact⟨_,_,_,_,_,_,_,_,_,_,_,_,_,_,_,_,_,_,_,⟨q,j+1,b,by omega,by omega,rfl,by go_num,by omega,I,fun i hi=>s.out i (by omega),z.out,D.out,G.out,by omega⟩,rfl⟩|exact⟨_,_,_,_,_,_,_,_,_,_,_,_,_,_,_,_,_,_,⟨q,j+1,b,by omega,by omega,rfl,by go_num,by omega,I,fun i hi=>s.out i (by omega),z.out,D.out,G.out,by omega⟩,rfl⟩|exact⟨_,_,_,_,_,_,_,_,_,_,_,_,_,_,_,_,_,⟨q,j+1,b,by omega,by omega,rfl,by go_num,by omega,I,fun i hi=>s.out i (by omega),z.out,D.out,G.out,by omega⟩,rfl⟩|exact⟨_,_,_,_,_,_,_,_,_,_,_,_,_,_,_,_,⟨q,j+1,b,by omega,by omega,rfl,by go_num,by omega,I,fun i hi=>s.out i (by omega),z.out,D.out,G.out,by omega⟩,rfl⟩|exact⟨_,_,_,_,_,_,_,_,_,_,_,_,_,_,_,_,_,_,_,_,_,_,_,_,⟨q,j+1,b,by omega,by omega,rfl,by go_num,by omega,I,fun i hi=>s.out i (by omega),z.out,D.out,G.out,by omega⟩,rfl⟩
    ·have a9:O (U,V)=false:=by simpa using b8
     have S:=d5.out;simp only[a9,Bool.not_false,if_true]at S;rw[a9];have a3:=J q (by omega);have d1:=a3.1.1;have d2:=a3.2.1;have z1:=a3.1.2;have z2:=a3.2.2;have z:=anV S;have D:=anV J;have G:=anV Y;clear S J Y Q a3;go_wp2_with fail
     go_roundw
     case measure=>
      simp[intOf];omega
     case rel=>
      have d8:∀i,j+1<=i->(b.set q (U,V))[i]?=xs[i]?:=fun i hi=>by
       rw[List.getElem?_set_ne (by omega)];exact s.out i (by omega)
      have d9:(xs.take (j+1)).filter (fun x=>!O x)=(b.set q (U,V)).take (q+1):=by
       rw[z.out,an0 (by rw[aoe];omega),List.take_set_of_le (aod q)];simp
      have c0:=D.out.set (i:=q) (by omega) U V;have e0:=(G.out.setCell (p:=⟨B,q*2,none⟩) b5 (.int .i64 U)).setCell (p:=⟨B,q*2+1,none⟩) b5 (.int .i64 V);exact⟨_,_,_,_,_,_,_,_,_,_,_,_,_,_,_,_,_,_,_,_,_,_,_,⟨q+1,j+1,b.set q (U,V),by omega,by omega,by go_num,by go_num,by omega,by rw[aoe];exact I,d8,d9,c0,e0,by simp;omega⟩,rfl⟩
   ·have h6:j=xs.length:=by omega
    have a4:=c9.out;rw[List.take_of_length_le (by omega)]at a4;have j4:q<xs.length:=by omega
    have j5:=oW wr 0 B (q*2) (xs.length-q) (cap-q) (by omega) (fun j hj=>by
     have Z:=L.out (q+j/2) (by omega);rcases an4 j with e|e
     ·rw[show q*2+j=(q+j/2)*2 by omega,Z.1.1]
      rfl
     ·rw[show q*2+j=(q+j/2)*2+1 by omega,Z.2.1]
      rfl) (fun j hj=>by
     have Z:=L.out (q+j/2) (by omega);rcases an4 j with e|e
     ·rw[show q*2+j=(q+j/2)*2 by omega,Z.1.2]
     ·rw[show q*2+j=(q+j/2)*2+1 by omega,Z.2.2])
    have HX:=anV a4;clear a4;go_wp2_with fail
    go_ret;have b0:(b.take q).length=q:=by
     rw[aob];omega
    have b3:=World.cell?_setCells_out B (an8 ((xs.length-q)*2) (.int .i64 0)) (q*2) wr;have b4:=World.frozen?_setCells B (an8 ((xs.length-q)*2) (.int .i64 0)) (q*2) wr;have d7:ag (fun i=>i=B) wr (wr.setCells B (q*2) (an8 ((xs.length-q)*2) (.int .i64 0))):=ag.setCells B _ _ wr rfl;refine⟨by rw[HX.out,b0];rfl,?_,d7.gr b6.out (fun k hk=>by rw[hk];exact b5),aol g3 d7.2.2.2.1⟩;rw[HX.out];intro i hi;rw[b0]at hi;have Z:=L.out i (by omega);rw[List.getElem_take];exact⟨⟨(b3 _ (fun _ _=>Or.inl (by show i*2<q*2;omega))).trans Z.1.1,(b4 _).trans Z.1.2⟩,⟨(b3 _ (fun _ _=>Or.inl (by show i*2+1<q*2;omega))).trans Z.2.1,(b4 _).trans Z.2.2⟩⟩
theorem IK(w:World)(q:Value)(b:Calls anX 85 #[.slice none 0 0,q] w (ar w (.int .i64 (-1)))):
  Calls anX 111 #[.slice none 0 0,q] w (ar w (.slice none 0 0)):=by
 go_enter an_,an9;go_wp2_with fail
 refine b.mono ?_;rintro e y ⟨rfl,s⟩;go_wp2_with fail
 go_ret;exact ar.mk rfl s
theorem IL(a0 w:World)(v:Value)(xs:List aa)(g:Nat)(lb:Array Value)(q:aa->Bool)(h:dj a0 w v xs)(I:xs.length<=1000000)(y:Gr a0 w)
  (J:∀args w,(callFunc g args).run anX w=.ok (.enter g args) w) (L:∀(W:World) (x:aa),Gr a0 W->Calls anX g (#[x.val]++lb) W (ar W (.bool (q x)))):
  Calls anX 111 #[v,.func (.func g) #[] lb] w fun e w'=>∃z,e=.returned z/\dj a0 w' z (xs.filter (fun x=>!q x))/\Gr a0 w':=by
 rcases h with⟨rfl,rfl⟩|⟨B,cap,rfl,D,G,H,M⟩
 ·refine(IK w _ (vi w _)).mono ?_;rintro e w' ⟨rfl,b⟩;exact⟨_,rfl,.inl ⟨rfl,rfl⟩,y.trans b⟩
 ·refine(IJ a0 w xs B cap g lb q I D M H G y J L).mono ?_;rintro e w' ⟨rfl,O,b,s⟩;exact⟨_,rfl,.inr ⟨B,cap,rfl,aol (an1 _ _) D,G,Nat.lt_of_lt_of_le H s,O⟩,b⟩
def mT(a:List aa)(x:aa):Bool:=decide ((x.1,an3.wrap (x.2-1))∈a)
theorem QU(k:Nat)(b:Value)(a:List aa)(x:aa)(W:World)(h:W.cell? ⟨k,0,none⟩=some b)(ha:mG W b a)(s:a.length<=1000000):
  Calls anX 152 #[x.val,.pointer (some ⟨k,0,none⟩)] W (ar W (.bool (!mT a x))):=by
 obtain⟨z,B⟩:=x;have D:=anV ha;obtain⟨H,I,rfl⟩:=ha.form;unfold aa.val;have J:=fun o=>(Gr.alloc (Gr.refl W) o).keeps h;unfold mT;obtain⟨y,q⟩:∃y,an3.wrap (B-1)=y:=⟨_,rfl⟩;simp only[q];go_enter aom,Tryz.ntmps152;go_wp2_with fail
 clear q;refine(II a _ (z,y) _ (D.out.gr ((Gr.refl W).alloc _)) s).mono ?_;rintro e L ⟨rfl,G⟩;go_wp2_with fail
 go_ret;refine ar.mk rfl (((Gr.refl W).alloc _).trans G)
theorem Oz(a b:List aa)(Q S:Value)(w:World)(ha:mG w Q a)(I:mG w S b)(L:a.length<=1000000)(D:b.length<=1000000):
  Calls anX 105 #[Q,S] w fun e w'=>∃U,e=.returned U/\dj w w' U (b.filter (fun x=>!!mT a x))/\Gr w w':=by
 have Z:=anV ha;have HB:=anV I;obtain⟨z,B,rfl⟩:=ha.form;obtain⟨bo,cb,rfl⟩:=I.form;clear ha I;go_enter Tryz.func105,Tryz.ntmps105;go_wp2_with fail
 have q:Gr w (w.alloc (.cells #[.slice z a.length B] 57)):=(Gr.refl w).alloc _;refine(QT b _ (w.alloc (.cells #[.slice z a.length B] 57)) (HB.out.gr q) D).mono ?_;rintro e w2 ⟨v2,rfl,J,hg⟩;have V:∀W,Gr (w.alloc (.cells #[.slice z a.length B] 57)) W->W.cell? ⟨w.heap.size,0,none⟩=some (.slice z a.length B):=fun W G=>G.keeps (by rw[anW];rfl);have HO:=anV J;have HK:=anV V;obtain⟨vo,vc,rfl⟩:=J.form;clear J V;have Y:∀args w,(callFunc 152 args).run anX w=.ok (.enter 152 args) w:=enters_of aom (by kernel_rfl) rfl;go_wp2_with fail
 refine(IL (w.alloc (.cells #[.slice z a.length B] 57)) w2 _ b 152 #[.pointer (some ⟨w.heap.size,0,none⟩)] (fun x=>!mT a x) HO.out D hg Y (fun W x G=>QU _ _ a x W (HK.out W G) (Z.out.gr (q.trans G)) L)).mono ?_;rintro e w3 ⟨v3,rfl,s,H⟩;have M:=anV (s.back q);have O:=anV (q.trans H);obtain⟨uo,uc,rfl⟩:=s.form;clear s H Y;obtain⟨n3,y⟩:∃n,n=(List.filter (fun x:aa=>!!mT a x) b).length:=⟨_,rfl⟩;rw[<-y];have HN:=anV y;clear y;go_wp2_with fail
 go_ret;refine⟨_,rfl,?_,O.out⟩;have:=M.out;rw[<-HN.out]at this;exact this
def sE(dT:Int)(p q:aa):Bool:=q.1==p.1&&decide (max (an3.wrap (q.2-p.2)) (an3.wrap (p.2-q.2))<=dT)
theorem Us(k f:Nat)(dT:Int)(p x:aa)(W:World)(b:W.cell? ⟨k,0,none⟩=some (.int .i64 p.1))(q:W.cell? ⟨k,1,none⟩=some (.int .i64 p.2))(G:W.cell? ⟨f,0,none⟩=some (.int .i64 dT)):
  Calls anX 151 #[x.val,.pointer (some ⟨k,0,none⟩),.pointer (some ⟨f,0,none⟩)] W (ar W (.bool (sE dT p x))):=by
 obtain⟨H,s⟩:=x;obtain⟨I,B⟩:=p;unfold aa.val sE;obtain⟨y,J⟩:∃y,an3.wrap (s-B)=y:=⟨_,rfl⟩;obtain⟨z,L⟩:∃z,an3.wrap (B-s)=z:=⟨_,rfl⟩;simp only at b q;simp only[J,L];have M:=fun o=>(Gr.alloc (Gr.refl W) o).keeps b;have O:=fun o=>(Gr.alloc (Gr.refl W) o).keeps q;have Q:=fun o=>(Gr.alloc (Gr.refl W) o).keeps G;by_cases D:H=I
 ·subst D;go_enter aoa,aog;go_wp2_with fail
  go_ret;exact ar.mk (by simp) ((Gr.refl W).alloc _)
 ·go_enter aoa,aog;go_wp2_with fail
  go_ret;exact ar.mk (by simp[D]) ((Gr.refl W).alloc _)
def bY(dT:Int)(xs b:List aa):List Int:=(xs.filter fun p=>b.any (sE dT p)).map (·.1)
theorem S_(xs q:List aa)(va vb:Value)(dT:Int)(w:World)(hx:mG w va xs)(hy:mG w vb q)(hl:xs.length<=1000000)(b7:q.length<=1000000):
  Calls anX 104 #[va,vb,.int .i64 dT] w fun e w'=>∃v',e=.returned v'/\oX w w' v' (setOf bU (bY dT xs q))/\Gr w w':=by
 have HX:=anV hx;have HY:=anV hy;obtain⟨ao,ca,rfl⟩:=hx.form;obtain⟨bo,cb,rfl⟩:=hy.form;clear hx hy;have eg:∀args w,(callFunc 151 args).run anX w=.ok (.enter 151 args) w:=enters_of aoa (by kernel_rfl) rfl;have EG:=anV eg;clear eg;go_enter Tryz.func104,Tryz.ntmps104;go_wp2_with fail
 have z:Gr w (w.alloc (.cells #[.int .i64 dT] 3)):=(Gr.refl w).alloc _;have B:(w.alloc (.cells #[.int .i64 dT] 3)).cell? ⟨w.heap.size,0,none⟩=some (.int .i64 dT):=by
  rw[anW]
  rfl
 obtain⟨s,S⟩:∃s,s=w.alloc (.cells #[.int .i64 dT] 3):=⟨_,rfl⟩;rw[<-S]at z B;rw[<-S];clear S;have b8:=anV (HX.out.gr z);have b9:=anV (HY.out.gr z);go_loopw [7,12] (fun kv iv w'=>∃i:Nat,i<=xs.length/\iv=.int .i64 i/\rQ s w' kv (bY dT (xs.take i) q)/\Gr s w') (fun _ iv _=>xs.length-(intOf iv).toNat)
 case atStart=>exact⟨0,Nat.zero_le _,rfl,World.ownsRow_nil _ _ _ _,Gr.refl _⟩
 case round=>
  obtain⟨i,hi,rfl,ho,O⟩:=hrel;have HO:=anV ho;have HG:=anV O;by_cases G:i<xs.length
  ·obtain⟨b,H,rfl,hb,J⟩:∃b H,ao=some ⟨b,H,none⟩/\b<s.heap.size/\bC s b H xs:=by
    rcases b8.out with⟨_,e2⟩|⟨b,H,c,e,hb,J⟩
    ·rw[e2]at G;exact absurd G (by simp)
    ·cases e;exact⟨b,H,rfl,hb,J⟩
   have g7:(i:Int)<(xs.length:Int):=by omega
   have c1:=O.keeps (J i G).1;have c2:=O.keeps (J i G).2;have U:bY dT (xs.take (i+1)) q=if q.any (sE dT xs[i])then bY dT (xs.take i) q++[xs[i].1]else bY dT (xs.take i) q:=by
    unfold bY;rw[qW _ _ _ G]
    split
    ·rw[List.map_append]
     rfl
    ·rfl
   have c0:(bY dT (xs.take i) q).length<=1000000:=by
    unfold bY;have:=an1 (fun p=>q.any (sE dT p)) (xs.take i);rw[aof];rw[aob]at this;omega
   have a3:=O.keeps B;generalize hx:xs[i]=x at*;obtain⟨y,D⟩:=x;simp only at c1 c2 U;have HN:=anV U;have I:=O.alloc (.cells #[.int .i64 y,.int .i64 D] 104);have a4:Gr wr (wr.alloc (.cells #[.int .i64 y,.int .i64 D] 104)):=(Gr.refl wr).alloc _;have k1:(wr.alloc (.cells #[.int .i64 y,.int .i64 D] 104)).cell? ⟨wr.heap.size,0,none⟩=some (.int .i64 y):=by
    rw[anW]
    rfl
   have k2:(wr.alloc (.cells #[.int .i64 y,.int .i64 D] 104)).cell? ⟨wr.heap.size,1,none⟩=some (.int .i64 D):=by
    rw[anW]
    rfl
   have k3:=a4.keeps a3;have a5:=wA q (.slice bo q.length cb) 151 #[.pointer (some ⟨wr.heap.size,0,none⟩),.pointer (some ⟨w.heap.size,0,none⟩)] (sE dT (y,D)) (wr.alloc (.cells #[.int .i64 y,.int .i64 D] 104)) (b9.out.gr I) b7 EG.out
    (fun W x hW=>Us _ _ dT (y,D) x W (hW.keeps k1) (hW.keeps k2) (hW.keeps k3))
   have c3:=anV I;have K1:=anV k1;have V:Hid (rQ s (wr.alloc (.cells #[.int .i64 y,.int .i64 D] 104)) u7 (bY dT (xs.take i) q)):=anV (aon ho _);clear ho O U I a4 k1 k2 k3 a3 J hx B;go_wp2_with fail
   refine a5.mono ?_;rintro e w3 ⟨rfl,M⟩;have p1:=M.keeps K1.out;have a6:=anV (c3.out.trans M);have a7:Hid (rQ s w3 u7 (bY dT (xs.take i) q)):=anV (aL V.out M);clear M a5 c1 c2;cases Q:q.any (sE dT (y,D))
   ·rw[Q]at HN;go_wp2_with fail
    go_roundw
    case measure=>
     simp[intOf];omega
    case rel=>exact⟨i+1,by omega,by go_num,by rw[HN.out];exact a7.out,a6.out⟩
   ·rw[Q]at HN;go_wp2_with(at_builtin;refine yQ (a0:=s) rfl _ _ rfl u7 _ y rfl a7.out _ (by simp) rfl c0 a6.out ?_;intro v4 w4 c4 c5)
    go_roundw
    case measure=>
     simp[intOf];omega
    case rel=>exact⟨i+1,by omega,by go_num,by rw[HN.out];exact c4,c5⟩
  ·have c6:i=xs.length:=by omega
   subst c6;rw[List.take_length]at HO;obtain⟨L,HL⟩:∃L,Hid (L=bY dT xs q):=⟨_,anV rfl⟩;have Y:oX s wr u7 L:=by
    rw[HL.out];exact HO.out.own
   have a8:L.length<=1000000:=by
    rw[HL.out];unfold bY;have:=an1 (fun p=>q.any (sE dT p)) xs;rw[aof];omega
   have c7:=anV Y;obtain⟨uo,uc,rfl⟩:=Y.form;clear ho O Y HO;go_wp2_with fail
   refine(Bc s wr _ L c7.out HG.out a8).mono ?_;rintro e w2 ⟨rfl,zs,J,hw,a9,I⟩;have V:=anV a9;have HP:=anV J;have HW:=anV hw;clear a9 J hw;go_wp2_with fail
   refine(uG s w2 _ zs V.out I (by rw[HP.out.length_eq];exact a8)).mono ?_;rintro e w3 ⟨v3,rfl,Z,b0⟩;have hs:aw zs=setOf bU (bY dT xs q):=qR qS HW.out (fun x=>by rw[<-HL.out];exact HP.out.mem_iff);rw[hs]at Z;have c8:=anV (Z.back z);have c9:=anV (z.trans b0);have HS:=anV hs;clear Z hs b0 z B;go_wp2_with fail
   go_ret;exact⟨_,rfl,c8.out,c9.out⟩
end
section
open Go Go.RowKit
instance Xy (x:ByteArray) (l:List ByteArray):Decidable (x∈l):=decidable_of_iff (∃y,y∈l/\y=x) ⟨fun⟨_,h,e⟩=>e▸h,fun h=>⟨x,h,rfl⟩⟩
def eP(r:Int)(wd:ByteArray):List ByteArray->Nat->List aa
 |[],_=>[]
 |x::xs,i=>if x=wd then(r,(i:Int))::eP r wd xs (i+1)else eP r wd xs (i+1)
theorem tt{r:Int}{wd:ByteArray}:∀{xs:List ByteArray} {i:Nat} {p:aa},p∈eP r wd xs i->p.1=r/\(i:Int)<=p.2/\p.2<(i:Int)+xs.length
 |[],_,_,h=>by cases h
 |x::xs,i,p,h=>by
  unfold eP at h;rw[anY]
  split at h
  ·rcases aoh.1 h with e|h
   ·subst e;exact⟨rfl,Int.le_refl _,by show(i:Int)<_;omega⟩
   ·have:=tt h;omega
  ·have:=tt h;omega
theorem zC{r:Int}{wd:ByteArray}:∀{xs:List ByteArray} {i:Nat},bH ae (eP r wd xs i)
 |[],_=>aoo
 |x::xs,i=>by
  unfold eP
  split
  ·refine List.pairwise_cons.2 ⟨fun q b=>?_,zC⟩;have:=tt b;rw[dL];show r<q.1\/r=q.1/\(i:Int)<q.2;omega
  ·exact zC
theorem zD{r:Int}{wd:ByteArray}:∀(xs q:List ByteArray) (i:Nat),eP r wd (xs++q) i=eP r wd xs i++eP r wd q (i+xs.length)
 |[],q,i=>rfl
 |x::xs,q,i=>by
  have y:=zD (r:=r) (wd:=wd) xs q (i+1);rw[show i+1+xs.length=i+(xs.length+1)by omega]at y;rw[aoc,anY];by_cases e:x=wd
  ·have s:∀b:List ByteArray,eP r wd (x::b) i=(r,(i:Int))::eP r wd b (i+1):=fun b=>if_pos e;rw[s,s,y,aoc]
  ·have s:∀b:List ByteArray,eP r wd (x::b) i=eP r wd b (i+1):=fun b=>if_neg e;rw[s,s,y]
theorem tu{r:Int}{wd:ByteArray}:∀{xs:List ByteArray} {i:Nat},eP r wd xs i=[]↔wd∉xs
 |[],_=>by simp[eP]
 |x::xs,i=>by
  unfold eP
  split
  ·rename_i e
   simp[e]
  ·rename_i e
   rw[tu,aoh]
   constructor
   ·rintro h (b|b)
    ·exact e b.symm
    ·exact h b
   ·exact fun h b=>h (.inr b)
def pE(l:List ByteArray):Nat:=(l.map fun x=>19+x.size).sum
theorem rJ(x:ByteArray)(l:List ByteArray):pE (x::l)=19+x.size+pE l:=by
 unfold pE;rw[List.map_cons,List.sum_cons]
theorem zE{r:Int}{wd:ByteArray}:∀{xs:List ByteArray} {i:Nat},(19+wd.size)*(eP r wd xs i).length=pE (xs.filter fun x=>decide (x=wd))
 |[],_=>by simp[eP,pE]
 |x::xs,i=>by
  have b:=zE (r:=r) (wd:=wd) (xs:=xs) (i:=i+1);unfold eP;by_cases e:x=wd
  ·rw[if_pos e,List.filter_cons_of_pos (by simpa using e),rJ,anY,Nat.mul_add,Nat.mul_one,b,e];omega
  ·rw[if_neg e,List.filter_cons_of_neg (by simpa using e),b]
theorem RS(xs:List ByteArray)(p q:ByteArray->Bool)(h:∀x∈xs,p x=true->q x=false):pE (xs.filter p)+pE (xs.filter q)=pE (xs.filter fun x=>p x||q x):=by
 induction xs with
 |nil=>rfl
 |cons x xs z=>
  have z:=z fun y B=>h y (List.mem_cons_of_mem _ B);have D:=h x List.mem_cons_self;cases b:p x with
  |true=>
   have s:=D b;simp only[an7,b,s,if_true,anZ,if_false,Bool.true_or,rJ];omega
  |false=>
   cases s:q x with
   |true=>
    simp only[an7,b,s,if_true,anZ,if_false,aoi,rJ];omega
   |false=>
    simp only[an7,b,s,anZ,if_false,aoi];exact z
def qE(ws:List ByteArray):List ByteArray->List ByteArray->Nat
 |_,[]=>0
 |b,wd::rest=>if wd∈b then qE ws (wd::b) rest else(19+wd.size)*(eP 0 wd ws 0).length+qE ws (wd::b) rest
theorem Cn{r s:Int}{wd:ByteArray}:∀{xs:List ByteArray} {i:Nat},(eP r wd xs i).length=(eP s wd xs i).length
 |[],_=>rfl
 |x::xs,i=>by
  unfold eP
  split
  ·rw[anY,anY,Cn]
  ·exact Cn
theorem JU(ws:List ByteArray):∀(rest b:List ByteArray),qE ws b rest+pE (ws.filter fun x=>decide (x∈b))=pE (ws.filter fun x=>decide (x∈b)||decide (x∈rest))
 |[],b=>by
  simp[qE]
 |q::rest,b=>by
  have y:=JU ws rest (q::b);have G:(ws.filter fun x=>decide (x∈q::b)||decide (x∈rest))=ws.filter fun x=>decide (x∈b)||decide (x∈q::rest):=by
   refine an5 fun x _=>?_;by_cases s:x=q<;>by_cases z:x∈b<;>by_cases B:x∈rest<;>simp[s,z,B]
  rw[G]at y;unfold qE;by_cases hd:q∈b
  ·rw[if_pos hd];have D:(ws.filter fun x=>decide (x∈q::b))=ws.filter fun x=>decide (x∈b):=by
    refine an5 fun x _=>?_;by_cases s:x=q
    ·simp[s,hd]
    ·simp[s]
   rw[D]at y;exact y
  ·rw[if_neg hd,zE];have B:=RS ws (fun x=>decide (x=q)) (fun x=>decide (x∈b)) (fun x _ H=>by
    have e:x=q:=of_decide_eq_true H;rw[e];exact decide_eq_false hd)
   have D:(ws.filter fun x=>decide (x=q)||decide (x∈b))=ws.filter fun x=>decide (x∈q::b):=by
    refine an5 fun x _=>?_;by_cases s:x=q<;>by_cases z:x∈b<;>simp[s,z]
   rw[D]at B;omega
theorem Py(ws:List ByteArray):qE ws [] ws=pE ws:=by
 have h:=JU ws ws [];have b:(ws.filter fun x=>decide (x∈([]:List ByteArray)))=[]:=lE fun x _=>by simp
 have q:(ws.filter fun x=>decide (x∈([]:List ByteArray))||decide (x∈ws))=ws:=filter_all fun x s=>by simp[s]
 rw[b,q]at h;simpa[pE]using h
