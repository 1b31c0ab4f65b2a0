/-
  Part 11 of the proof.
-/
import Derived.Test.YtldmhjbdahjhdaaGreatDoorZa10
open Go.Proofs.Tryz
open Go.Lib renaming hid->ae,swapperK->bt,bitLen->cF
open Go renaming cell_regrown->ak,wp_region_quiet_below->aS,World->bc,wpQuiet_nil->bB,Value->bP,Calls->bQ,bodyPost_ret->cf,results_none->cg,typeHandle->dg
open Go.World renaming cell?_alloc_new->az,ownsRow_nil->ch
open Bool renaming and_eq_true->aJ,eq_false_iff->bv,or_eq_true->co
open Nat renaming le_refl->aQ,le_trans->aU,eq_zero_or_pos->aV,zero_le->be,lt_of_le_of_lt->bu,lt_of_lt_of_le->bT,one_shiftLeft->bX,mul_le_mul->cK
open List renaming take_succ_eq_append_getElem->aX,length_take->bz,take_length->bA,length_append->bW,mem_flatMap->cl,mem_filter->cs,mem_map->da
open Array renaming length_toList->bh,ext'->dr
open Go.World.ownsRow renaming alloc->bj
open Go.IntKind renaming i64->bC,wrap_i64->dF
open Go.Sort renaming rd_lim_le->bF,xorNext->cD,Below->cL,pdq_sorts->cO,grow->cW,HoldsK->dQ
open Go.Proofs.Any renaming sort_Slice_tiny->bM
open UInt64 renaming ofNat->bZ
open Go.Exit renaming inBlock->b_
open Go.Extern.ReflectliteSwapper renaming swap->cj
open Go.Value renaming bool->de,int->dD
open Go.Proofs renaming sliceBound->dh,sliceWorld->di
open List.Pairwise renaming nil->dA
open Option.some renaming inj->dJ
open List.Perm renaming refl->dS
open Prod.mk renaming injEq->dT
set_option maxRecDepth 100000
set_option maxHeartbeats 100000000
set_option linter.all false
namespace Go.Proofs.YtldmhjbdahjhdaaGreatDoor
section
open Go Go.RowKit Go.Sort
section
variable{α:Type}[Inhabited α]{lt:α->α->Bool}{R:bc->Array α->Prop}{B size g:Nat}{lb:Array bP}{sf:Nat}{sb:Array bP}
theorem VH{S:Nat->Prop}{b w:bc}(h:ag S b w)(p:Addr)(v:bP)(s:b.heap.size<=p.block):ag S b (w.setCell p v):=
 ⟨h.1,h.2.1,h.2.2.1,by simpa using h.2.2.2.1,fun k q hs=>(Below.heap_setCell _ _ _ _ (by omega)).trans (h.2.2.2.2 k q hs)⟩
theorem zP(S:fQ prog lt R B size g lb sf sb)(a L:Nat)(d:Array α)(w:bc)(h:R w d)(h8:8<=L)(hb:a+L<=size):
  bQ prog 273 #[cV g lb sf sb,.int .i64 a,.int .i64 ((a+L:Nat):Int)] w fun e w'=>e=.returned (.tuple #[])/\bq R B w (breakPatterns d a (a+L)) w':=by
 obtain⟨N,Q,a7⟩:=S.bg;have HF:Hid (xm R N):=ae ⟨Q,a7⟩;have e8:=Q h;have e9:=S.blt h;clear Q a7;obtain⟨D,z,hD,a0,a8,d1,hR,Z⟩:=ii S h 299;have eg:=S.enter;have HS:=ae S;have e0:=S.lim;have c2:=ae Z;have d2:=ae a8;have HR:=ae hR;clear S h Z a8 hR;unfold cV;rw[breakPatterns_eq d a L h8];obtain⟨M,hM⟩:∃M:Nat,M=1<<<bitsLen L:=⟨_,rfl⟩;have g0:1<=M:=by rw[hM,bX];exact Nat.two_pow_pos _
 have g3:M<=2*L:=by rw[hM,bX];exact two_pow_bitsLen_le (by omega)
 have b0:∀w,bQ prog 297 #[.int .i64 (L:Int)] w fun e w'=>e=.returned (.int .u64 (M:Int))/\w'=w:=by rw[hM];exact fun w=>Any.nextPowerOfTwo Tryz.WK L (by omega) w
 rw[<-hM];have d3:=ae b0;clear hM b0;have g4:((a:Int)+(L:Int)-(a:Int))=(L:Int):=by omega
 have d4:decide ((8:Int)<=(L:Int))=true:=by simp;omega
 go_enter func273,ntmps273;go_wp2_with(first
  |( go_at_call 297;refine(d3.out _).mono ?_;rintro e wq ⟨rfl,rfl⟩))
 have a1:(z.alloc (.cells #[.int .u64 (L:Int)] 357)).cell? ⟨z.heap.size,0,none⟩=some (.int .u64 (L:Int)):=by rw[az];rfl
 have a2:(z.alloc (.cells #[.int .u64 (L:Int)] 357)).frozen? ⟨z.heap.size,0,none⟩=false:=by simp
 have b1:=(Gr.refl z).alloc (.cells #[.int .u64 (L:Int)] 357);have b2:z.heap.size=D+1:=by rw[a0,hD];simp
 rw[<-a0];have K0:Hid (bq R B z d (z.alloc (.cells #[.int .u64 (L:Int)] 357))):=ae ((bq.start HR.out).gr HS.out b1);have H:¬z.heap.size=B:=by omega
 have b3:N<=z.heap.size:=by omega
 generalize z.alloc (.cells #[.int .u64 (L:Int)] 357)=w2 at*;obtain⟨s,U⟩:∃s,s=D+1:=⟨_,rfl⟩;have c3:z.heap.size<=s:=by omega
 rw[b2,<-U]at a1 a2 H b3;rw[<-hD,<-U];clear a0 hD b1 b2 U d4;go_loopg [9] 3 (fun g1 vi wr=>∃(t:Nat) (r:UInt64) (V:Array α),vi=.int .i64 ((a:Int)+(L:Int)/4*2-1+(t:Int))/\t<=3/\3-t<=g1/\bq R B z V wr/\wr.cell? ⟨s,0,none⟩=some (.int .u64 (r.toNat:Int))/\wr.frozen? ⟨s,0,none⟩=false/\
    Hid (bpRest a L M (a+L/4*2-1) (3-t) t (r,V)=bpRest a L M (a+L/4*2-1) 3 0 (bZ L,d)))
 case atStart=>
  refine⟨0,bZ L,d,by simp,by omega,by omega,K0.out,?_,a2,ae rfl⟩;rw[show(bZ L).toNat=L from by simp;omega];exact a1
 case round=>
  clear a1 a2;obtain⟨t,r,V,rfl,ht,g5,b4,cR,fR,HE⟩:=hrel;have a3:=ae b4;clear b4;by_cases b6:t<3
  · have d5:(a:Int)+(L:Int)/4*2-1+(t:Int)<=(a:Int)+(L:Int)/4*2+1:=by omega
    obtain⟨X,hX⟩:∃X:Nat,X=r.toNat:=⟨_,rfl⟩;have lX:X<18446744073709551616:=by rw[hX];exact r.toNat_lt
    obtain⟨y,Y⟩:∃y:Nat,y=xorNextN X:=⟨_,rfl⟩;have d6:y<18446744073709551616:=by rw[Y];exact xorNextN_lt X lX
    obtain⟨O,hO⟩:∃O:Nat,O=y&&&(M-1):=⟨_,rfl⟩;have lO:O<=M-1:=by rw[hO];exact Nat.and_le_right
    have e1:bits .and .u64 (y:Int) ((M:Int)-1)=(O:Int):=by
      rw[show((M:Int)-1)=((M-1:Nat):Int)by omega,bits_and_u64_nat _ _ d6 (by omega),hO]
    rw[<-hX]at cR;have G:bQ prog 298 #[.pointer (some ⟨s,0,none⟩)] wr fun e w'=>e=.returned (.int .u64 (y:Int))/\w'=(wr.setCell ⟨s,0,none⟩ (.int .u64 (y:Int))).drewN 3:=by
      rw[Y];exact Any.xorshift_Next Tryz.XU s 0 X lX wr cR fR
    have HN:Hid (y=(cD r).toNat/\O=(cD r).toNat&&&(M-1)):=by
      have e:y=(cD r).toNat:=by rw[Y,hX,xorNext_toNat]
      exact ae ⟨e,by rw[hO,e]⟩
    clear hX Y hO;have b9:ag (fun b=>N<=b) wr (wr.setCell ⟨s,0,none⟩ (.int .u64 (y:Int))):=ag.setCell wr _ b3;have q:bq R B z V ((wr.setCell ⟨s,0,none⟩ (.int .u64 (y:Int))).drewN 3):=
      bq.gr HS.out ⟨HF.out.keep a3.out.1 b9,VH a3.out.2 _ _ c3⟩ ((Gr.refl _).drewN 3)
    have I:((wr.setCell ⟨s,0,none⟩ (.int .u64 (y:Int))).drewN 3).cell? ⟨s,0,none⟩=some (.int .u64 (y:Int)):=by
      rw[World.cell?_drewN];exact World.cell?_setCell_same _ _ _ cR
    have a4:((wr.setCell ⟨s,0,none⟩ (.int .u64 (y:Int))).drewN 3).frozen? ⟨s,0,none⟩=false:=by
      rw[World.frozen?_drewN];simpa using fR
    generalize(wr.setCell ⟨s,0,none⟩ (.int .u64 (y:Int))).drewN 3=w4 at G q I a4;obtain⟨c0,c1⟩:=d2.out.so q d1;clear cR fR b9 c0;by_cases g6:L<=O
    · have c4:decide ((L:Int)<=(O:Int))=true:=by simp;omega
      obtain⟨w3,hs,J⟩:=(bq.start (B:=B) q.1).sK HS.out ((a:Int)+(L:Int)/4*2-1+(t:Int)) ((a:Int)+((O:Int)-(L:Int))) (a+L/4*2-1+t) (a+(O-L)) (by omega) (by omega) (by omega) (by omega);have K3:=ae (q.step J);have z0:=J.keeps H I;have z1:=(J.2.frozen 0 (ad I) H).trans a4;clear J q;go_wp2_with(first
       |(go_at_call 298;refine G.mono ?_;rintro e wq ⟨rfl,rfl⟩))
      go_roundg (3-(t+1))
      case measure=>omega
      case rel=>exact⟨t+1,cD r,swp V (a+L/4*2-1+t) (a+(O-L)),by congr 1;push_cast;omega,by omega,aQ _,K3.out,by rw[<-HN.out.1];exact z0,z1,ae (by rw[<-HE.out,bp_step a L M _ t r V ((O-L)) b6 (by rw[<-HN.out.2,if_pos (by omega)])])⟩
    have c4:decide ((L:Int)<=(O:Int))=false:=by simp;omega
    obtain⟨w3,hs,J⟩:=(bq.start (B:=B) q.1).sK HS.out ((a:Int)+(L:Int)/4*2-1+(t:Int)) ((a:Int)+(O:Int)) (a+L/4*2-1+t) (a+O) (by omega) (by omega) (by omega) (by omega);have K3:=ae (q.step J);have z0:=J.keeps H I;have z1:=(J.2.frozen 0 (ad I) H).trans a4;clear J q;go_wp2_with(first
     |(go_at_call 298;refine G.mono ?_;rintro e wq ⟨rfl,rfl⟩))
    go_roundg (3-(t+1))
    case measure=>omega
    case rel=>exact⟨t+1,cD r,swp V (a+L/4*2-1+t) (a+O),by congr 1;push_cast;omega,by omega,aQ _,K3.out,by rw[<-HN.out.1];exact z0,z1,ae (by rw[<-HE.out,bp_step a L M _ t r V (O) b6 (by rw[<-HN.out.2,if_neg (by omega)])])⟩
  obtain rfl:t=3:=by omega
  have d5:¬((a:Int)+(L:Int)/4*2-1+((3:Nat):Int)<=(a:Int)+(L:Int)/4*2+1):=by omega
  go_wp2_with fail
  go_end0;refine⟨rfl,c2.out _ _ ?_⟩;rw[<-HE.out];exact a3.out
end
section
variable{α:Type}[Inhabited α]{lt:α->α->Bool}{R:bc->Array α->Prop}{B size g:Nat}{lb:Array bP}{sf:Nat}{sb:Array bP}
theorem LI(h:Hint):lR h=hintCode h:=by cases h<;>rfl
theorem N6(S:fQ prog lt R B size g lb sf sb)(hO:SWO lt):∀(n a b limit:Nat) (d:Array α) (w:bc),b-a<n->R w d->a<=b->b<=size->limit<4611686018427387904->cL lt a b d->
  bQ prog 222 #[cV g lb sf sb,.int .i64 a,.int .i64 b,.int .i64 limit] w fun e w'=>e=.returned (.tuple #[])/\bq R B w (pdq lt d a b limit true true) w':=by
 intro n
 induction n with
 |zero=>intro _ _ _ _ _ h;exact absurd h (Nat.not_lt_zero _)
 |succ n ih=>
  intro a b limit d w hN h k6 hb a6 c3;obtain⟨D,w1,hD,h9,i0,Z,hR,c9⟩:=ii S h 299;have eg:=S.enter;have HS:=ae S;have m6:=S.lim;have b7:=ae c9;have a0:=ae i0;have HR:=ae hR;have e7:Hid (∀{w:bc} {d:Array α},R w d->d.size=size):=ae S.sz;have IH:=ae ih;have k7:=ae c3;clear S h c9 i0 hR ih c3;unfold cV;go_enter func222,ntmps222;go_wp2_with fail
  rw[<-h9,<-hD];clear h9 hD;go_loopg [1,2,3,8,9] (b-a) (fun kx s1 s2 s3 s8 s9 wr=>∃(z G s:Nat) (wb wp:Bool) (H:Array α),s1=.int .i64 z/\s2=.int .i64 G/\s3=.int .i64 s/\s8=.bool wb/\s9=.bool wp/\
   z<=G/\G<=size/\G-z<=kx/\kx<=b-a/\s<=limit/\Hid (cL lt z G H)/\bq R B w1 H wr/\Hid (pdq lt H z G s wb wp=pdq lt d a b limit true true))
  case atStart=>exact⟨a,b,limit,true,true,d,rfl,rfl,rfl,rfl,rfl,k6,hb,aQ _,aQ _,aQ _,k7,bq.start HR.out,ae rfl⟩
  case round=>
   obtain⟨z,G,s,wb,wp,H,rfl,rfl,rfl,rfl,rfl,V,J,n7,n8,M,j9,i1,HE⟩:=hrel;have Q:=ae i1;clear i1;obtain⟨c0,c1⟩:=a0.out.so Q.out Z;by_cases a4:G-z<=12
   ·have i2:decide ((G:Int)-(z:Int)<=12)=true:=by simp;omega
    have hc:=zM HS.out z G H wr Q.out.1 V J;unfold cV at hc;have I:=ae hc;clear hc;go_wp2_with(first
     |( go_at_call 271;refine I.out.mono ?_;rintro e w3 ⟨rfl,k⟩
        have K:=ae k;clear k))
    (try simp only[b_,Exit.then]);refine cf (cg rfl _ _ _) rfl ?_
    refine⟨rfl,b7.out _ _ ?_⟩;rw[<-HE.out,pdq_small a4];exact Q.out.step K.out
   have i2:decide ((G:Int)-(z:Int)<=12)=false:=by simp;omega
   by_cases a9:s=0
   ·have i4:((s:Int)==0)=true:=by simp;omega
    have hc:=LH HS.out z G H wr Q.out.1 V J;unfold cV at hc;have I:=ae hc;clear hc;go_wp2_with(first
     |( go_at_call 272;refine I.out.mono ?_;rintro e w3 ⟨rfl,k⟩
        have K:=ae k;clear k))
    (try simp only[b_,Exit.then]);refine cf (cg rfl _ _ _) rfl ?_
    refine⟨rfl,b7.out _ _ ?_⟩;rw[<-HE.out,pdq_heap a4 a9];exact Q.out.step K.out
   have i4:((s:Int)==0)=false:=by simp;omega
   have O:Hid (_):=ae (rd_facts (lt:=lt) (limit:=s) (wb:=wb) (wp:=wp) hO partialInsertionSort_holds reverseRange_holds (show z<G by omega) (show G<=H.size by rw[e7.out Q.out.1];exact J) j9.out);go_upto_if 35 with(fail)
   clear i2 i4;go_cut [3] (fun s3 wx=>s3=.int .i64 ((rd lt H z G s wb wp).lim:Nat)/\bq R B w1 (rd lt H z G s wb wp).d1 wx)
   case first=>as_aux_lemma=>
    have hl:=O.out;cases wb
    · obtain⟨L,hL⟩:∃L,G=z+L:=⟨G-z,by omega⟩
      have hc:=zP HS.out z L H wr Q.out.1 (by omega) (by omega);rw[<-hL]at hc;unfold cV at hc;have I:=ae hc;clear hc hL hl;go_wp2_with(first
        |( go_at_call 273;refine I.out.mono ?_;rintro e w3 ⟨rfl,k⟩
           have K:=ae k;clear k))
      go_meet
      refine⟨?_,Q.out.step K.out⟩;show dD .i64 ((s:Int)-1)=dD .i64 ((s-1:Nat):Int)
      congr 1
      omega
    clear hl;go_wp2_with fail
    go_meet
    exact⟨rfl,Q.out⟩
   case rest=>
    obtain⟨rfl,d3⟩:=hcut;have H1:=ae d3;clear d3 c0 c1;obtain⟨c0,c1⟩:=a0.out.so H1.out Z;have hc:=DJ HS.out z G (rd lt H z G s wb wp).d1 wc H1.out.1 (by omega) J;have ec:choosePivot lt (rd lt H z G s wb wp).d1 z G=(rd lt H z G s wb wp).c:=rfl;rw[ec,LI]at hc;unfold cV at hc;have I:=ae hc;clear hc ec;go_upto_if 50 with(first
     |( go_at_call 274;refine I.out.mono ?_;rintro e w3 ⟨rfl,k,kg⟩
        have H2:=ae (H1.out.gr HS.out kg);clear k kg I))
    clear c0 c1;obtain⟨c0,c1⟩:=a0.out.so H2.out Z;obtain⟨cb,e8⟩:∃cb,(hintCode (rd lt H z G s wb wp).c.2==2)=cb:=⟨_,rfl⟩;rw[e8];have i7:=ae e8;clear e8;go_cut [11,12] (fun k8 k9 wx=>k8=.int .i64 ((rd lt H z G s wb wp).pivot:Nat)/\k9=.int .i64 (hintCode (rd lt H z G s wb wp).hint)/\bq R B w1 (rd lt H z G s wb wp).d2 wx)
    case first=>as_aux_lemma=>
     by_cases hh:(rd lt H z G s wb wp).c.2=.decreasing
     · obtain rfl:cb=true:=by rw[<-i7.out,hh];rfl
       obtain⟨e2,b1,b3⟩:=rd_dec hh;have hc:=BJ HS.out z G (rd lt H z G s wb wp).d1 w3 H2.out.1 V J (by omega);rw[<-e2]at hc;unfold cV at hc;have I:=ae hc;have b8:=ae b1;have b9:=ae b3;have n9:z<=(rd lt H z G s wb wp).c.1/\(rd lt H z G s wb wp).c.1<G:=O.out.2.2.1;clear hc e2 b1 b3;go_wp2_with(first
         |( go_at_call 275;refine I.out.mono ?_;rintro e w4 ⟨rfl,k⟩
            have K:=ae k;clear k))
       go_meet
       refine⟨?_,by rw[b9.out];rfl,H2.out.step K.out⟩;rw[b8.out]
       congr 1
       omega
     obtain rfl:cb=false:=by rw[<-i7.out];simpa using fun h=>hh (hintCode_two h)
     obtain⟨e2,b1,b3⟩:=rd_not hh;have l0:=ae e2;have b8:=ae b1;have b9:=ae b3;clear e2 b1 b3;go_wp2_with fail
     go_meet
     exact⟨by rw[b8.out],by rw[b9.out],by rw[l0.out];exact H2.out⟩
    case rest=>
     obtain⟨rfl,rfl,d6⟩:=hcut;have H3:=ae d6;clear d6 c0 c1;go_upto_region 16 with(fail)
     go_cut [68] (fun l1 wx=>l1=.bool (wb&&wp&&decide ((rd lt H z G s wb wp).hint=.increasing))/\wx=wc)
     case first=>as_aux_lemma=>
      have a3:decide ((rd lt H z G s wb wp).hint=.increasing)=(hintCode (rd lt H z G s wb wp).hint==1):=by cases(rd lt H z G s wb wp).hint<;>rfl
      obtain⟨o0,c2⟩:∃x,(hintCode (rd lt H z G s wb wp).hint==1)=x:=⟨_,rfl⟩;rw[c2]at a3;have d7:=ae a3;have HH:=ae c2;clear c2 a3;cases wb<;>cases wp
      all_goals
        have hh:=HH.out;go_wp2_with fail
        go_meet
        first
          |exact⟨rfl,rfl⟩
          |exact⟨by rw[d7.out];rfl,rfl⟩
          |exact⟨by rw[d7.out];simp,rfl⟩
     case rest=>
       obtain⟨rfl,rfl⟩:=hcut;obtain⟨pb,e9⟩:∃pb,(wb&&wp&&decide ((rd lt H z G s wb wp).hint=.increasing))=pb:=⟨_,rfl⟩;rw[e9];have j0:=ae e9;clear e9;go_upto_if 68 with(fail)
       go_cut [69] (fun _ wx=>Hid ((rd lt H z G s wb wp).pi.2=false)/\bq R B w1 (rd lt H z G s wb wp).pi.1 wx)
       case first=>as_aux_lemma=>
        cases pb with
        |false=>
          have b4:=ae (rd_pi_no j0.out);go_wp2_with fail
          go_meet
          exact⟨ae (by rw[b4.out]),by rw[b4.out];exact H3.out⟩
        |true=>
          have b4:=rd_pi_yes j0.out;have hc:=Fg HS.out z G (rd lt H z G s wb wp).d2 wc H3.out.1 (by omega) J;rw[<-b4]at hc;unfold cV at hc;obtain⟨c0,c1⟩:=a0.out.so H3.out Z;clear b4;cases hp:(rd lt H z G s wb wp).pi.2 with
          |false=>
            rw[hp]at hc;have I:=ae hc;have HP:=ae hp;clear hc hp;go_wp2_with(first
              |( go_at_call 276;refine I.out.mono ?_;rintro e w4 ⟨rfl,k⟩
                 have K:=ae k;clear k))
            go_meet
            exact⟨HP,H3.out.step K.out⟩
          |true=>
            rw[hp]at hc;have I:=ae hc;have HP:=ae hp;clear hc hp;go_wp2_with(first
              |( go_at_call 276;refine I.out.mono ?_;rintro e w4 ⟨rfl,k⟩
                 have K:=ae k;clear k))
            (try simp only[b_,Exit.then]);refine cf (cg rfl _ _ _) rfl ?_
            refine⟨rfl,b7.out _ _ ?_⟩;rw[<-HE.out,pdq_done a4 a9 HP.out];exact H3.out.step K.out
       case rest=>
         obtain⟨g0,d9⟩:=hcut;have H5:=ae d9;clear d9;have a5:=O.out.2.2.2.2.2.1;go_upto_region 18 with(fail)
         go_cut [83] (fun l2 wx=>l2=.bool (decide (z>0)&&!lt (rd lt H z G s wb wp).pi.1[z-1]! (rd lt H z G s wb wp).pi.1[(rd lt H z G s wb wp).pivot]!)/\bq R B w1 (rd lt H z G s wb wp).pi.1 wx)
         case first=>as_aux_lemma=>
          obtain⟨c0,c1⟩:=a0.out.so H5.out Z;rcases aV z with c5|c5
          · have g3:=ae c5
            have e0:decide ((0:Int)<(z:Int))=false:=by simp;omega
            have e1:decide (0<z)=false:=by simp;omega
            have e2:¬0<z:=by omega
            clear c5;go_wp2_with fail
            go_meet
            exact⟨by rw[g3.out];rfl,H5.out⟩
          have e0:decide ((0:Int)<(z:Int))=true:=by simp;omega
          have g3:=ae c5;cases c6:lt (rd lt H z G s wb wp).pi.1[z-1]! (rd lt H z G s wb wp).pi.1[(rd lt H z G s wb wp).pivot]! with
          |true=>
            have HL:=ae c6;clear c6;go_wp2_with(first
              |(go_at_fn g;refine(H5.out.aG HS.out (z-1) (rd lt H z G s wb wp).pivot (by omega) (by omega) (by omega) rfl).mono ?_;rintro e w4 ⟨rfl,k⟩
                rw[HL.out];have K:=ae k;clear k))
            go_meet
            exact⟨by simp[HL.out],K.out⟩
          |false=>
            have HL:=ae c6;clear c6;go_wp2_with(first
              |(go_at_fn g;refine(H5.out.aG HS.out (z-1) (rd lt H z G s wb wp).pivot (by omega) (by omega) (by omega) rfl).mono ?_;rintro e w4 ⟨rfl,k⟩
                rw[HL.out];have K:=ae k;clear k))
            go_meet
            exact⟨by simp[g3.out,HL.out],K.out⟩
         case rest=>
           obtain⟨rfl,e3⟩:=hcut;have H6:=ae e3;clear e3;obtain⟨c0,c1⟩:=a0.out.so H6.out Z;have e6:(rd lt H z G s wb wp).pi.1.size=size:=e7.out H6.out.1;obtain⟨qb,g4⟩:∃qb,(decide (z>0)&&!lt (rd lt H z G s wb wp).pi.1[z-1]! (rd lt H z G s wb wp).pi.1[(rd lt H z G s wb wp).pivot]!)=qb:=⟨_,rfl⟩;rw[g4];have c7:=ae g4;clear g4;cases qb with
           |false=>
             obtain⟨mid,ap,Y,hx⟩:∃mid ap Y,partition lt (rd lt H z G s wb wp).pi.1 z G (rd lt H z G s wb wp).pivot=(mid,ap,Y):=⟨_,_,_,rfl⟩;obtain⟨r1,r2,r3,r4,r5,r6,r7⟩:=round_part hO (partition_holds lt) a5.1 a5.2 (show G<=(rd lt H z G s wb wp).pi.1.size by omega) O.out.2.2.2.2.2.2.2 hx;have hc:=Jm HS.out z G (rd lt H z G s wb wp).pivot (rd lt H z G s wb wp).pi.1 wc H6.out.1 (by omega) a5 J;rw[hx]at hc;unfold cV at hc;have I:=ae hc;have HX:=ae hx;have o1:=ae r3;have c8:=ae r4;have j5:=ae r5;have l3:=ae r6;have l4:=ae r7;clear hc hx r3 r4 r5 r6 r7 e6;go_upto_if 109 with(first
               |( go_at_call 278;refine I.out.mono ?_;rintro e w7 ⟨rfl,k⟩
                  have H7:=ae (H6.out.step k);clear k I))
             clear c0 c1;obtain⟨p0,p1⟩:=a0.out.so H7.out Z;have j6:Y.size=size:=e7.out H7.out.1;by_cases h4:mid-z<G-mid
             · have e4:decide ((mid:Int)-(z:Int)<(G:Int)-(mid:Int))=true:=by simp;omega
               have U:=IH.out z mid (rd lt H z G s wb wp).lim Y w7 (by omega) H7.out.1 r1 (by omega) (bu (aU bF M) a6) c8.out;obtain⟨pL,sL⟩:=cO lt hO Y z mid (rd lt H z G s wb wp).lim true true r1 (by omega) c8.out;unfold cV at U;have g5:=ae U;have g6:=ae (l3.out _ pL sL).1;have g7:=ae (eighth (x:=G) (y:=z) (p:=mid) (q:=z) r1 V);have g8:=ae h4;rw[e4];clear U pL sL j6 h4 e4;go_wp2_with(first
                 |( go_at_call 222;refine g5.out.mono ?_;rintro e w8 ⟨rfl,k⟩
                    have K:=ae k;clear k))
               go_roundg (G-(mid+1))
               case measure=>omega
               case rel=>exact⟨mid+1,G,(rd lt H z G s wb wp).lim,decide (mid-z>=(G-z)/8),ap,pdq lt Y z mid (rd lt H z G s wb wp).lim true true,by go_num,rfl,rfl,congrArg de g7.out,rfl,by omega,J,aQ _,by omega,aU bF M,g6,H7.out.step K.out,ae (by rw[<-HE.out,pdq_left a4 a9 g0.out c7.out (by rw[HX.out];exact⟨r1,r2⟩) (by rw[HX.out];exact g8.out),HX.out])⟩
             have e4:decide ((mid:Int)-(z:Int)<(G:Int)-(mid:Int))=false:=by simp;omega
             have U:=IH.out (mid+1) G (rd lt H z G s wb wp).lim Y w7 (by omega) H7.out.1 (by omega) J (bu (aU bF M) a6) j5.out;rw[show((mid+1:Nat):Int)=(mid:Int)+1 by omega]at U;obtain⟨pL,sL⟩:=cO lt hO Y (mid+1) G (rd lt H z G s wb wp).lim true true (by omega) (by omega) j5.out;unfold cV at U;have g5:=ae U;have g6:=ae (l4.out _ pL sL).1;have g7:=ae (eighth (x:=G) (y:=z) (p:=G) (q:=mid) (by omega) V);have g8:=ae h4;rw[e4];clear U pL sL j6 h4 e4;go_wp2_with(first
               |( go_at_call 222;refine g5.out.mono ?_;rintro e w8 ⟨rfl,k⟩
                  have K:=ae k;clear k))
             go_roundg (mid-z)
             case measure=>omega
             case rel=>exact⟨z,mid,(rd lt H z G s wb wp).lim,decide (G-mid>=(G-z)/8),ap,pdq lt Y (mid+1) G (rd lt H z G s wb wp).lim true true,rfl,rfl,rfl,congrArg de g7.out,rfl,r1,by omega,aQ _,by omega,aU bF M,g6,H7.out.step K.out,ae (by rw[<-HE.out,pdq_right a4 a9 g0.out c7.out (by rw[HX.out];exact⟨r1,r2⟩) (by rw[HX.out];exact g8.out),HX.out])⟩
           |true=>
             have hq:=c7.out;simp only[aJ,decide_eq_true_eq,Bool.not_eq_true']at hq;obtain⟨mid,Y,hx⟩:∃mid Y,partitionEqual lt (rd lt H z G s wb wp).pi.1 z G (rd lt H z G s wb wp).pivot=(mid,Y):=⟨_,_,rfl⟩;obtain⟨r1,r2,r3,r4,r5⟩:=round_eq hO (partitionEqual_holds lt) hq.1 a5.1 a5.2 (show G<=(rd lt H z G s wb wp).pi.1.size by omega) O.out.2.2.2.2.2.2.2 hq.2 hx;have hc:=yw HS.out z G (rd lt H z G s wb wp).pivot (rd lt H z G s wb wp).pi.1 wc H6.out.1 (by omega) a5 J;rw[hx]at hc;unfold cV at hc;have I:=ae hc;have HX:=ae hx;have c8:=ae r4;clear hc hx hq r3 r4 r5 e6;go_wp2_with(first
               |( go_at_call 277;refine I.out.mono ?_;rintro e w7 ⟨rfl,k⟩
                  have H7:=ae (H6.out.step k);clear k I))
             go_roundg (G-mid)
             case measure=>omega
             case rel=>exact⟨mid,G,(rd lt H z G s wb wp).lim,wb,wp,Y,rfl,rfl,rfl,rfl,rfl,r2,J,aQ _,by omega,aU bF M,c8,H7.out,ae (by rw[<-HE.out,pdq_eq a4 a9 g0.out c7.out (by rw[HX.out];exact⟨r1,r2⟩),HX.out])⟩
end
end
section
open Go Go.RowKit Go.Sort Go.Lib Go.Shelf
def encS(x:aa):List bP:=[.int .i64 x.1,.int .i64 x.2]
structure DK(B LB n c:Nat)(w:bc)(d:Array aa):Prop where
 sz:d.size=n
 holds:dQ encS 2 w B 0 d
 box:w.cell? ⟨LB,0,none⟩=some (.slice (some ⟨B,0,none⟩) n c)
 ne:LB≠B
 lt:B<w.heap.size
theorem pA(B:Nat):∀(vs:List bP) (o:Nat) (w:bc),ag (fun k=>k=B) w (w.setCells B o vs)
 |[],_,w=>ag.refl _ w
 |v::vs,o,w=>(ag.setCell (S:=fun k=>k=B) (p:=⟨B,o,none⟩) w v rfl).trans (pA B vs (o+1) _)
theorem Jo{w w':bc}{B:Nat}{d:Array aa}(h:dQ encS 2 w B 0 d)(b:w'.heap[B]?=w.heap[B]?):dQ encS 2 w' B 0 d:=fun j q=>
 ⟨(World.cell?_of_block b).trans (h j q).1,(World.frozen?_of_block b).trans (h j q).2⟩
theorem DK.ay{B b n c:Nat}{w w':bc}{d:Array aa}{S:Nat->Prop}(h:DK B b n c w d)(g:ag S w w')(q:¬S B)(s:¬S b):DK B b n c w' d:=
 ⟨h.sz,Jo h.holds (g.block h.lt q),g.keeps s h.box,h.ne,bT h.lt g.2.2.2.1⟩
theorem DK.cells{B s n c:Nat}{w:bc}{d:Array aa}(h:DK B s n c w d){i:Nat}(hi:i<n):w.cell? ⟨B,i*2,none⟩=some (.int .i64 d[i]!.1)/\w.cell? ⟨B,i*2+1,none⟩=some (.int .i64 d[i]!.2):=by
 have b:=(h.holds.cell (show i<d.size by rw[h.sz];exact hi) (show 0<2 by omega)).1;have q:=(h.holds.cell (show i<d.size by rw[h.sz];exact hi) (show 1<2 by omega)).1;simp only[Nat.zero_add,Nat.add_zero]at b q;exact⟨by simpa[encS]using b,by simpa[encS]using q⟩
theorem TZ(B z n c:Nat)(w:bc)(d:Array aa)(h:DK B z n c w d)(i j:Nat)(hi:i<n)(O:j<n):
  bQ prog 165 (#[.int .i64 i,.int .i64 j]++#[.pointer (some ⟨z,0,none⟩)]) w fun e Q=>e=.returned (.bool (af d[i]! d[j]!))/\Gr w Q:=by
 have M:=h.box;obtain⟨D,G⟩:=h.cells hi;obtain⟨H,I⟩:=h.cells O;generalize d[i]! =p at*;generalize d[j]! =q at*;obtain⟨S,U⟩:=p;obtain⟨V,Y⟩:=q;simp only at D G H I;have s:=fun w=>Q5 (S,U) (V,Y) w;have J:=ae s;clear h s;show bQ prog 165 #[.int .i64 i,.int .i64 j,.pointer (some ⟨z,0,none⟩)] w _;go_enter func165,ntmps165;go_wp2_with fail
 have f0:=fun d b=>ak M d b;have f1:=fun d b=>ak D d b;have f2:=fun d b=>ak G d b;have f3:=fun d b=>ak H d b;have f4:=fun d b=>ak I d b;clear M D G H I;refine aS (by kernel_rfl) (by kernel_rfl) ?_
 repeat(go_big_quiet_step (first|(go_at_call 166;exact ar.qR (J.out _))))
 refine bB ?_;intro Z y;have L:=bR y;clear y f0 f1 f2 f3 f4;go_wp2_with fail
 go_ret;exact⟨rfl,L⟩
noncomputable def Xj:TypeInfo:=(prog.info? 57).get (by kernel_rfl)
noncomputable def Jp:TypeInfo:=(prog.info? 104).get (by kernel_rfl)
theorem Zr(n:Nat)(q:2<=n):bt n Jp 25=9:=by
 have a:Jp.hasPointers=false:=by kernel_rfl
 have b:Jp.bytes=16:=by kernel_rfl
 unfold bt;simp[a,b,show n≠0 by omega,show n≠1 by omega]
theorem N7(B q n c:Nat)(hn:n<4611686018427387904):fQ prog af (DK B q n c) B n 165 #[.pointer (some ⟨q,0,none⟩)] 270 #[.slice (some ⟨B,0,none⟩) n c,dg prog 104] where
 enter:=enters_of func165 (by kernel_rfl) rfl
 gr:=fun h g=>h.ay (S:=fun _=>False) (ag.ah g) id id
 blt:=fun h=>h.lt
 sz:=fun h=>h.sz
 less:=fun h i j hi s=>TZ B q n c _ _ h i j hi s
 swap:=fun{w d} h i j hi s=>by
  have hs:=swapSwapsK_of_literal (P:=prog) false 270 (fun args W=>run_callFunc_extern func270 (by kernel_rfl) (by kernel_rfl) (by kernel_rfl) (e:=cj false) (by kernel_rfl) args W)
   104 Jp (by kernel_rfl) encS 2 (fun _=>rfl) (by kernel_rfl) (fun _=>by kernel_rfl) (fun x v hv=>by simp[encS]at hv;rcases hv with rfl|rfl<;>rfl) B 0 n c w d h.holds h.sz i j hi s
  refine⟨_,hs,?_,?_⟩
  ·have e:=putRowK_swp (enc:=encS) (k:=2) (fun _=>rfl) w B 0 d i j (by rw[h.sz];exact hi) (by rw[h.sz];exact s);rw[putRowK_self (enc:=encS) (k:=2) w B 0 d h.holds]at e;have y:ag (fun b=>b=B) w ((w.setCells B (0+i*2) (encS d[j]!)).setCells B (0+j*2) (encS d[i]!)):=(pA B _ _ w).trans (pA B _ _ _);refine⟨by rw[size_swp];exact h.sz,?_,y.keeps h.ne h.box,h.ne,bT h.lt y.2.2.2.1⟩;rw[e];exact holdsK_putRowK encS 2 w B 0 d (swp d i j) h.holds (size_swp d i j)
  exact(pA B _ _ w).trans (pA B _ _ _)
 lim:=hn
 bg:=⟨max B q+1,fun h=>by have D:=h.lt;have G:=ad h.box;omega,fun h g=>h.ay g (fun e=>by have z:max B q+1<=B:=e;omega) (fun e=>by have z:max B q+1<=q:=e;omega)⟩
theorem AZ:SWO af where
 irrefl:=fun x=>by simp[af]
 trans:=fun x y z b q=>by
  obtain⟨s,B⟩:=x;obtain⟨D,G⟩:=y;obtain⟨H,I⟩:=z;simp only[af,co,aJ,decide_eq_true_eq,beq_iff_eq]at*;omega
 ntrans:=fun x y z b q=>by
  obtain⟨s,B⟩:=x;obtain⟨D,G⟩:=y;obtain⟨H,I⟩:=z;rw[bv]at*;simp only[af,ne_eq,co,aJ,decide_eq_true_eq,beq_iff_eq]at*;omega
theorem Ry(B q n c:Nat)(d:Array aa)(w:bc)(G:2<=n)(hn:n<4611686018427387904)(h:DK B q n c w d):
  bQ prog 164 #[.iface 57 (.slice (some ⟨B,0,none⟩) n c),.func (.func 165) #[] #[.pointer (some ⟨q,0,none⟩)]] w fun e z=>
   e=.returned (.tuple #[])/\∃D,DK B q n c z D/\ag (fun b=>b=B) w z/\PermIn 0 n d D/\SortedIn af 0 n D:=by
 have J:dh prog 104 Jp 25 (some ⟨B,0,none⟩) n c=#[.slice (some ⟨B,0,none⟩) n c,dg prog 104]:=by
  unfold dh;rw[if_neg (swapperK_gt _ _ _ G)]
 have H:Gr w (di prog Tryz.tF 57 (some ⟨B,0,none⟩) n c w):=((Gr.refl w).alloc _).alloc _;refine Any.sort_Slice_of_pdq Tryz.Hz 57 104 Xj Jp (by kernel_rfl) (by kernel_rfl) (by kernel_rfl) (by kernel_rfl) 25 (fun _=>by kernel_rfl) (some ⟨B,0,none⟩) n c hn 270 (by rw[Zr n G];kernel_rfl) (.func 165) #[] #[.pointer (some ⟨q,0,none⟩)] w _ ?_;rw[J];have y:cF n<4611686018427387904:=bu (Lib.bitLen_le n 62 (by omega) (by omega)) (by omega);have L:DK B q n c (di prog Tryz.tF 57 (some ⟨B,0,none⟩) n c w) d:=h.ay (S:=fun _=>False) (ag.ah H) id id;refine(N6 (N7 B q n c hn) AZ (n+1) 0 n (cF n) d _ (by omega) L (be _) (aQ _) y (Or.inl rfl)).mono ?_;rintro e z ⟨M,s⟩;have I:=cO af AZ d 0 n (cF n) true true (be _) (by rw[h.sz];exact aQ _) (Or.inl rfl);exact⟨M,_,s.1,(ag.ah H).trans s.2,I.1,I.2⟩
end
section
open Go Go.RowKit Go.Shelf Go.Lib Go.Sort
theorem Fh(b:List aa)(h:¬2<=b.length):kG af b:=by
 match b,h with
 |[],_=>exact dA
 |[x],_=>exact List.pairwise_singleton _ _
 |x::y::r,h=>exact absurd h (by simp)
theorem T2(w:bc)(os:Array Obj):Gr w (cW w os):=⟨rfl,rfl,rfl,by unfold cW;rw[Array.size_append];omega,fun _ b=>heap_grow_old w os b⟩
theorem N8(a0 w:bc)(s:Nat)(v:bP)(b:List aa)(h:dP a0 w v b)(Y:Gr a0 w)(Z:w.cell? ⟨s,0,none⟩=some v)(b4:a0.heap.size<=s)(Q:∀B n c,v=.slice (some ⟨B,0,none⟩) n c->s≠B)(hl:b.length<=1000000):
  bQ prog 164 #[.iface 57 v,.func (.func 165) #[] #[.pointer (some ⟨s,0,none⟩)]] w fun e y=>
   e=.returned (.tuple #[])/\∃I:List aa,I.Perm b/\kG af I/\dP a0 y v I/\Gr a0 y/\y.cell? ⟨s,0,none⟩=some v:=by
 by_cases J:2<=b.length
 ·rcases h with⟨rfl,rfl⟩|⟨B,cap,rfl,h3,h4,h5,h6⟩
  ·exact absurd J (by simp)
  have hP:DK B s b.length cap w b.toArray:=⟨by simp,sy h6,Z,Q B _ _ rfl,h5⟩;refine(Ry B s b.length cap b.toArray w J (by omega) hP).mono ?_;rintro e y ⟨rfl,z,G,hx,⟨b5,_,H⟩,hs⟩;have q:z.toList.length=b.length:=by rw[bh,G.sz]
  refine⟨rfl,z.toList,?_,?_,.inr ⟨B,cap,by rw[q],by rw[q];exact h3,h4,G.lt,Dn G.holds⟩,hx.gr Y (fun k hk=>by rw[hk];exact h4),G.box⟩
  ·have e1:(z.extract 0 b.length)=z:=by
    apply dr;simp only[Array.toList_extract,List.drop_zero,Nat.sub_zero];exact List.take_of_length_le (Nat.le_of_eq q)
   have e2:(b.toArray.extract 0 b.length)=b.toArray:=by
    apply dr;simp
   rw[e1,e2]at H;simpa using H
  rw[kG,List.pairwise_iff_getElem];intro i j hi hj S;have hh:=hs i j (be _) S (by omega);have U:i<z.size:=by rw[<-bh];exact hi
  have V:j<z.size:=by rw[<-bh];exact hj
  simpa[U,V]using hh
 obtain⟨L,c,rfl⟩:=h.form;have hK:bt b.length Jp 25=b.length+1:=by
  rcases aV b.length with h|h
  ·rw[h];simp[bt]
  have M:b.length=1:=by omega
  rw[M];simp[bt]
 have ht:bQ prog 164 #[.iface 57 (.slice L b.length c),.func (.func 165) #[] #[.pointer (some ⟨s,0,none⟩)]] w fun e y=>e=.returned (.tuple #[])/\∃O,y=cW w O:=by
  rcases aV b.length with h|h
  ·exact bM Tryz.Hz 57 104 Xj Jp (by kernel_rfl) (by kernel_rfl) (by kernel_rfl) (by kernel_rfl) 25 (fun _=>by kernel_rfl) L b.length c (by omega) 262 (by rw[hK,h];kernel_rfl) _ _ _ w
  have M:b.length=1:=by omega
  exact bM Tryz.Hz 57 104 Xj Jp (by kernel_rfl) (by kernel_rfl) (by kernel_rfl) (by kernel_rfl) 25 (fun _=>by kernel_rfl) L b.length c (by omega) 263 (by rw[hK,M];kernel_rfl) _ _ _ w
 refine ht.mono ?_;rintro e y ⟨rfl,O,rfl⟩;have D:=T2 w O;refine⟨rfl,b,dS _,?_,h.gr D,Y.trans D,D.keeps Z⟩;exact Fh b J
theorem qN{a0 w:bc}{z:Array Oper}{rest:List Oper}{o:Oper}{a:Act}{Q:Exit->Act->bc->Prop}(H:o.guard=none)(s x:Operand)
  (S:o.op=.call {callee:=.builtin .append,args:=#[s,x],argTypes:=#[57,57]}) (v:bP) (q:List aa) (p:aa) (hs:a.eval s=v) (D:ci a0 w v q) (B:Nat) (U:w.heap.size=B) (V:a.eval x=.slice (some ⟨B,0,none⟩) 1 1) (hl:q.length<=1000000) (Y:Gr a0 w)
  (h:∀y w',ci a0 w' y (q++[p])->Gr a0 w'->kn v y w w'->wpList prog z Q rest (a.put o.dst y) w'):wpList prog z Q (o::rest) a (w.alloc (.cells #[.int .i64 p.1,.int .i64 p.2] 104)):=by
 obtain⟨b,G,M⟩:∃b,prog.info? 104=some b/\(b.zero,b.size,b.bytes)=(some (.agg #[.int .i64 0,.int .i64 0]),2,16):=by
  have h:=lj;cases O:prog.info? 104 with
  |none=>rw[O]at h;cases h
  |some b=>rw[O]at h;exact⟨b,rfl,dJ h⟩
 simp only[dT]at M;obtain⟨I,J,L⟩:=M;exact lK (a0:=a0) H s x 57 S 104 b (.agg #[.int .i64 0,.int .i64 0]) 2 16 underlying57 G I J L rfl (by decide) v q.length (dp q) hs D [.int .i64 p.1,.int .i64 p.2] rfl (kH _ _) B U V Y (by omega) (by omega) (fun y w' Z h2 h3=>h y w' (sA Z) h2 h3)
theorem GS(a0 w:bc)(v:bP)(zs:List aa)(h:dP a0 w v zs)(hg:Gr a0 w)(hl:zs.length<=1000000):
  bQ prog 108 #[v] w fun e w'=>∃v',e=.returned v'/\dP a0 w' v' (setOf af zs)/\Gr a0 w':=by
 have H:=ae h;have z:Gr w (w.alloc (.cells #[v] 57)):=(Gr.refl w).alloc _;have c6:=N8 a0 (w.alloc (.cells #[v] 57)) w.heap.size v zs (h.gr z) (hg.trans z) (by rw[az];rfl) hg.size (fun B n c e=>by
  rcases h with⟨rfl,_⟩|⟨B',cap,rfl,_,_,h5,_⟩
  ·cases e
  cases e;omega) hl
 have c7:=ae c6;have e4:(w.alloc (.cells #[v] 57)).cell? ⟨w.heap.size,0,none⟩=some v:=by rw[az];rfl
 obtain⟨ao,ca,rfl⟩:=h.form;clear h c6;go_enter func108,ntmps108;go_wp2_with fail
 refine c7.out.mono ?_;rintro e w1 ⟨rfl,q,hp,hw,ho,c8,c9⟩;have d4:=hp.length_eq;generalize hN:zs.length=N at*;subst d4;have HP:=ae hp;have HW:=ae hw;have HO:=ae ho;obtain⟨LB,b2⟩:∃LB,w.heap.size=LB:=⟨_,rfl⟩;rw[b2]at c9⊢;have i3:=ae b2;clear hp hw ho H e4 z b2 c7;go_wp2_with fail
 go_loopw [3,12] (fun kv iv w'=>∃i:Nat,i<=q.length/\iv=.int .i64 i/\ci w1 w' kv (aq (q.take i))/\Gr w1 w') (fun _ iv _=>q.length-(intOf iv).toNat)
 case atStart=>exact⟨0,be _,rfl,ch _ _ _ _,Gr.refl _⟩
 case round=>
  obtain⟨i,hi,rfl,ho,I⟩:=hrel;have b3:=ae ho;have i4:=ae I;by_cases a3:i<q.length
  ·obtain⟨b,rfl,hb,hp⟩:∃b,ao=some ⟨b,0,none⟩/\b<w1.heap.size/\jo w1 b q:=by
    rcases HO.out with⟨_,e2⟩|⟨b,c,e,_,_,hb,hp⟩
    ·rw[e2]at a3;exact absurd a3 (by simp)
    cases e;exact⟨b,rfl,hb,hp⟩
   have i5:(i:Int)<(q.length:Int):=by omega
   have G:∀j (hj:j<q.length),wr.cell? ⟨b,j*2,none⟩=some (.int .i64 q[j].1)/\wr.cell? ⟨b,j*2+1,none⟩=some (.int .i64 q[j].2):=fun j hj=>⟨I.keeps (hp j hj).1.1,I.keeps (hp j hj).2.1⟩;obtain⟨c1,c2⟩:=G i a3;have d0:=I.keeps c9;have d3:(aq (q.take i)).length<=1000000:=by
    have:=ig (q.take i);rw[bz]at this;omega
   have z:Gr wr (wr.alloc (.cells #[.int .i64 q[i].1,.int .i64 q[i].2] 104)):=(Gr.refl wr).alloc _;have V:ci w1 (wr.alloc (.cells #[.int .i64 q[i].1,.int .i64 q[i].2] 104)) u3 (aq (q.take i)):=bj ho _;have Y:=I.trans z;have k1:(wr.alloc (.cells #[.int .i64 q[i].1,.int .i64 q[i].2] 104)).cell? ⟨wr.heap.size,0,none⟩=some (.int .i64 q[i].1):=by
    rw[az]
    rfl
   have k2:(wr.alloc (.cells #[.int .i64 q[i].1,.int .i64 q[i].2] 104)).cell? ⟨wr.heap.size,1,none⟩=some (.int .i64 q[i].2):=by
    rw[az]
    rfl
   have O:=z.keeps d0;have M:=fun j hj=>(⟨z.keeps (G j hj).1,z.keeps (G j hj).2⟩:_/\_);clear ho I;rcases aV i with rfl|h0
   ·have J:aq (q.take (0+1))=aq (q.take 0)++[q[0]]:=by
     rw[aX a3]
     rfl
    generalize hx:q[0]=x at*;obtain⟨S,U⟩:=x;simp only at c1 c2 k1 k2 z V Y O;have HN:=ae J;have Q:=ae V;have Z:=ae Y;have K1:=ae k1;have K2:=ae k2;clear J G M hp V Y z hx O k1 k2;go_wp2_with fail
    clear c1 c2;generalize hW:wr.alloc (.cells #[.int .i64 S,.int .i64 U] 104)=W1 at*;refine aS (by kernel_rfl) (by kernel_rfl) ?_
    repeat(go_big_quiet_step (fail))
    refine bB ?_;intro w5 L;have s:=bR L;have a4:Hid (ci w1 w5 u3 (aq (q.take 0))):=ae (aF Q.out s);have e5:=s.keeps K1.out;have e6:=s.keeps K2.out;have a5:=ae (Z.out.trans s);clear L s;go_wp2_with(at_builtin;refine qN (a0:=w1) rfl _ _ rfl u3 _ (S,U) rfl a4.out _ rfl rfl d3 a5.out ?_;intro v6 w6 b4 b5 e7)
    exact⟨⟨1,by omega,by go_num,by rw[show(1:Nat)=0+1 from rfl,HN.out];exact b4,b5⟩,by simp[intOf];omega⟩
   obtain⟨m,rfl⟩:∃m,i=m+1:=⟨i-1,by omega⟩;obtain⟨d1,d2⟩:=M m (by omega);have J:=jq q (m+1) (by omega) a3;simp only[Nat.add_sub_cancel]at J;have i6:(m:Int)<(q.length:Int):=by omega
   have hz:((m:Int)+1==0)=false:=by
    rw[beq_eq_false_iff_ne];omega
   generalize hx:q[m+1]=x at*;generalize hy:q[m]'(by omega)=y at*;obtain⟨S,U⟩:=x;obtain⟨y1,y2⟩:=y;simp only at c1 c2 k1 k2 z V Y O d1 d2;have Q:=ae V;have Z:=ae Y;have K1:=ae k1;have K2:=ae k2;have D1:=ae d1;have D2:=ae d2;have BX:=ae O;clear G M hp V Y z hx hy O k1 k2 d1 d2 d0;by_cases he:(S,U)=(y1,y2)
   ·have a6:=J.trans (if_pos he);injection he with e1 e2
    subst e1 e2;have hq:∀W,(Op.equalIn 10000 104 (.agg #[.int .i64 S,.int .i64 U]) (.agg #[.int .i64 S,.int .i64 U])).run prog W=.ok true W:=fun W=>by
     rw[gD];simp
    have HN:=ae a6;clear J a6;go_wp2_with fail
    clear c1 c2;generalize hW:wr.alloc (.cells #[.int .i64 S,.int .i64 U] 104)=W1 at*;have f0:=fun d D=>ak BX.out d D;have f1:=fun d D=>ak K1.out d D;have f2:=fun d D=>ak K2.out d D;have f3:=fun d D=>ak D1.out d D;have f4:=fun d D=>ak D2.out d D;refine aS (by kernel_rfl) (by kernel_rfl) ?_
    repeat(go_big_quiet_step (fail))
    refine bB ?_;intro w5 L;have s:=bR L;have a4:Hid (ci w1 w5 u3 (aq (q.take (m+1)))):=ae (aF Q.out s);have a5:=ae (Z.out.trans s);clear L s f0 f1 f2 f3 f4;go_wp2_with fail
    exact⟨⟨m+2,by omega,by go_num,by rw[show m+2=m+1+1 from rfl,HN.out];exact a4.out,a5.out⟩,by simp[intOf];omega⟩
   have a6:=J.trans (if_neg he);have hq:∀W,(Op.equalIn 10000 104 (.agg #[.int .i64 y1,.int .i64 y2]) (.agg #[.int .i64 S,.int .i64 U])).run prog W=.ok false W:=fun W=>by
    rw[gD,show(y1==S&&y2==U)=false from by
     rw[bv];intro h;simp only[aJ,beq_iff_eq]at h;exact he (by rw[h.1,h.2])]
   have HN:=ae a6;clear J a6 he;go_wp2_with fail
   clear c1 c2;generalize hW:wr.alloc (.cells #[.int .i64 S,.int .i64 U] 104)=W1 at*;have f0:=fun d D=>ak BX.out d D;have f1:=fun d D=>ak K1.out d D;have f2:=fun d D=>ak K2.out d D;have f3:=fun d D=>ak D1.out d D;have f4:=fun d D=>ak D2.out d D;refine aS (by kernel_rfl) (by kernel_rfl) ?_
   repeat(go_big_quiet_step (fail))
   refine bB ?_;intro w5 L;have s:=bR L;have a4:Hid (ci w1 w5 u3 (aq (q.take (m+1)))):=ae (aF Q.out s);have e5:=s.keeps K1.out;have e6:=s.keeps K2.out;have a5:=ae (Z.out.trans s);clear L s f0 f1 f2 f3 f4;go_wp2_with(at_builtin;refine qN (a0:=w1) rfl _ _ rfl u3 _ (S,U) rfl a4.out _ rfl rfl d3 a5.out ?_;intro v6 w6 b4 b5 e7)
   exact⟨⟨m+2,by omega,by go_num,by rw[show m+2=m+1+1 from rfl,HN.out];exact b4,b5⟩,by simp[intOf];omega⟩
  have e8:i=q.length:=by omega
  subst e8;rw[bA]at b3;have hs:aq q=setOf af zs:=lG bI HW.out (fun x=>HP.out.mem_iff);rw[hs]at b3;have HS:=ae hs;have Q:=ae (b3.out.own.back c8);have Z:=ae (c8.trans I);obtain⟨uo,uc,rfl⟩:=Q.out.form;clear ho I hs;obtain⟨n3,b6⟩:∃n,n=(setOf af zs).length:=⟨_,rfl⟩;have e9:=ae b6;rw[<-b6];clear b6;go_wp2_with fail
  go_ret;refine⟨_,rfl,?_,Z.out⟩;have:=Q.out;rw[<-e9.out]at this;exact this
end
section
open Go Go.RowKit
theorem jN{l:List aa}(h:dG l=true){p:aa}(q:p∈l):1<=p.1/\p.1<=1073741824/\0<=p.2/\p.2<=1073741823:=by
 obtain⟨i,hi,rfl⟩:=List.getElem_of_mem q;have b:=nk h i hi;unfold nj at b;rw[aJ,iM]at b;simpa[List.getD_eq_getElem?_getD,hi]using b.1
theorem wrap_small(n:Int)(b:-4611686018427387904<=n)(q:n<=4611686018427387904):bC.wrap n=n:=by
 rw[dF];omega
def pB(p q:aa):Bool:=p.1==q.1&&decide (q.2=bC.wrap (p.2+1))
def eE(xs:List aa)(q:aa):List aa:=(xs.filter fun p=>pB p q).map fun _=>q
def dX(xs b:List aa):List aa:=b.flatMap (eE xs)
theorem follow_eq{xs s:List aa}(D:dG xs=true)(y:dG s=true):setOf af (dX xs s)=s.filter (fun x=>!!ou xs x):=by
 refine(mC bI ?_ ?_).symm
 ·exact(Df y).filter _
 intro q;unfold dX eE;simp only[cs,cl,da,Bool.not_not,ou,decide_eq_true_eq]
 constructor
 ·rintro⟨b,z⟩;have B:=jN D z;have I:=jN y b;simp only at B;rw[wrap_small _ (by omega) (by omega)]at z B;refine⟨q,b,(q.1,q.2-1),⟨z,?_⟩,rfl⟩;unfold pB;simp only[beq_self_eq_true,Bool.true_and,decide_eq_true_eq];rw[wrap_small _ (by omega) (by omega)];omega
 rintro⟨L,b,p,⟨G,hf⟩,rfl⟩;have B:=jN D G;have I:=jN y b;unfold pB at hf;simp only[aJ,beq_iff_eq,decide_eq_true_eq]at hf;obtain⟨J,H⟩:=hf;rw[wrap_small _ (by omega) (by omega)]at H;refine⟨b,?_⟩;rw[wrap_small _ (by omega) (by omega),H,<-J,Int.add_sub_cancel];exact G
theorem DL{bg:Int}{p q:aa}(y:1<=p.1/\p.1<=1073741824/\0<=p.2/\p.2<=1073741823)(z:1<=q.1/\q.1<=1073741824/\0<=q.2/\q.2<=1073741823):qM bg p q=xl bg p q:=by
 unfold qM xl;rw[wrap_small (q.2-p.2) (by omega) (by omega),wrap_small (p.2-q.2) (by omega) (by omega),wrap_small (-(p.2-q.2)) (by omega) (by omega),Bool.eq_iff_iff];simp only[aJ,beq_iff_eq,decide_eq_true_eq]
 constructor
 ·rintro⟨b,s⟩;exact⟨⟨b.symm,by omega⟩,by omega⟩
 rintro⟨⟨b,s⟩,B⟩;exact⟨b.symm,by omega⟩
theorem T4{xs y:List aa}(z:dG xs=true)(B:dG y=true)(bg:Int):setOf aG (fZ bg xs y)=setOf aG (bG bg xs y):=by
 refine(mC kR (cx kR _) fun x=>?_);rw[bO];unfold bG fZ gq;simp only[da,cs,cl,List.any_eq_true]
 constructor
 ·rintro⟨p,b,q,⟨s,hn⟩,rfl⟩;exact⟨p,⟨b,q,s,by rw[DL (jN z b) (jN B s)];exact hn⟩,rfl⟩
 rintro⟨p,⟨b,q,s,hn⟩,rfl⟩;exact⟨p,b,q,⟨s,by rw[<-DL (jN z b) (jN B s)];exact hn⟩,rfl⟩
end
section
open Go Go.RowKit Go.Shelf Go.Lib Go.Sort
theorem th(xs:List aa)(q:aa):(eE xs q).length<=xs.length:=by
 unfold eE;rw[List.length_map];exact List.length_filter_le _ _
theorem pC(xs:List aa):∀b:List aa,(dX xs b).length<=b.length*xs.length
 |[]=>by simp[dX]
 |q::b=>by
  have s:=pC xs b;have y:=th xs q;unfold dX at*;rw[List.flatMap_cons,bW,List.length_cons,Nat.add_mul];omega
theorem BL(xs b:List aa)(i:Nat)(h:i<b.length):dX xs (b.take (i+1))=dX xs (b.take i)++eE xs b[i]:=by
 unfold dX;rw[aX h,List.flatMap_append];simp
theorem zQ(xs:List aa)(q:aa)(j:Nat)(h:j<xs.length):eE (xs.take (j+1)) q=if pB xs[j] q then eE (xs.take j) q++[q]else eE (xs.take j) q:=by
 unfold eE;rw[lP _ _ _ h]
 split
 ·rw[List.map_append]
  rfl
 rfl
theorem Rz(xs z:List aa)(va vb:bP)(w:bc)(hx:kT w va xs)(hy:kT w vb z)(hl:xs.length<=1000)(e4:z.length<=1000):
  bQ prog 58 #[va,vb] w fun e I=>∃v',e=.returned v'/\dP w I v' (setOf af (dX xs z))/\Gr w I:=by
 have HX:=ae hx;have HY:=ae hy;obtain⟨ao,ca,rfl⟩:=hx.form;obtain⟨bo,cb,rfl⟩:=hy.form;clear hx hy;go_enter func58,ntmps58;go_wp2_with fail
 go_loopw [5,12] (fun kv iv I=>∃i:Nat,i<=z.length/\iv=.int .i64 i/\ci w I kv (dX xs (z.take i))/\Gr w I) (fun _ iv _=>z.length-(intOf iv).toNat)
 case atStart=>exact⟨0,be _,rfl,ch _ _ _ _,Gr.refl _⟩
 case round=>
  obtain⟨i,hi,rfl,M,H⟩:=hrel;have HO:=ae M;have HG:=ae H;by_cases O:i<z.length
  ·obtain⟨b,G,rfl,hb,hp⟩:∃b G,bo=some ⟨b,G,none⟩/\b<w.heap.size/\cq w b G z:=by
    rcases HY.out with⟨_,e2⟩|⟨b,G,c,e,hb,hp⟩
    ·rw[e2]at O;exact absurd O (by simp)
    cases e;exact⟨b,G,rfl,hb,hp⟩
   have j8:(i:Int)<(z.length:Int):=by omega
   have c1:=H.keeps (hp i O).1;have c2:=H.keeps (hp i O).2;have c5:=BL xs z i O;have a9:=pC xs (z.take i);have d7:(dX xs (z.take i)).length<=999*1000:=aU a9 (cK (by rw[bz];omega) hl);generalize hx:z[i]=x at*;obtain⟨s,q⟩:=x;simp only at c1 c2;have HN:=ae c5;have c6:=H.alloc (.cells #[.int .i64 s,.int .i64 q] 104);have k1:(wr.alloc (.cells #[.int .i64 s,.int .i64 q] 104)).cell? ⟨wr.heap.size,0,none⟩=some (.int .i64 s):=by
    rw[az]
    rfl
   have k2:(wr.alloc (.cells #[.int .i64 s,.int .i64 q] 104)).cell? ⟨wr.heap.size,1,none⟩=some (.int .i64 q):=by
    rw[az]
    rfl
   have Q:u5.ownBlock≠some wr.heap.size:=fun e=>by
    have:=bd M _ e;omega
   have c9:ci w (wr.alloc (.cells #[.int .i64 s,.int .i64 q] 104)) u5 (dX xs (z.take i)):=bj M _;have d0:wr.heap.size<(wr.alloc (.cells #[.int .i64 s,.int .i64 q] 104)).heap.size:=by simp
   have HI:Hid (wr.heap.size<(wr.alloc (.cells #[.int .i64 s,.int .i64 q] 104)).heap.size/\u5.ownBlock≠some wr.heap.size/\ci w (wr.alloc (.cells #[.int .i64 s,.int .i64 q] 104)) u5 (dX xs (z.take i))/\Gr w (wr.alloc (.cells #[.int .i64 s,.int .i64 q] 104))/\(wr.alloc (.cells #[.int .i64 s,.int .i64 q] 104)).cell? ⟨wr.heap.size,0,none⟩=some (.int .i64 s)/\(wr.alloc (.cells #[.int .i64 s,.int .i64 q] 104)).cell? ⟨wr.heap.size,1,none⟩=some (.int .i64 q)):=ae ⟨d0,Q,c9,c6,k1,k2⟩;clear M H c5 c6 k1 k2 hp hx Q c9 d0;go_wp2_with fail
   have hA:∃A,Hid (A=dX xs (z.take i)):=⟨_,ae rfl⟩;obtain⟨A,HA⟩:=hA;rw[<-HA.out]at HI HN d7;obtain⟨kp,e5⟩:∃kp,Hid (kp=wr.heap.size):=⟨_,ae rfl⟩;rw[<-e5.out]at HI⊢;obtain⟨w1,e6⟩:∃w1,Hid (w1=wr.alloc (.cells #[.int .i64 s,.int .i64 q] 104)):=⟨_,ae rfl⟩;rw[<-e6.out]at HI⊢;go_loopw [5,18] (fun kv jv I=>∃j:Nat,j<=xs.length/\jv=.int .i64 j/\ci w I kv (A++eE (xs.take j) (s,q))/\Gr w I/\kp<I.heap.size/\kv.ownBlock≠some kp/\I.cell? ⟨kp,0,none⟩=some (.int .i64 s)/\I.cell? ⟨kp,1,none⟩=some (.int .i64 q)) (fun _ jv _=>xs.length-(intOf jv).toNat)
   case atStart=>
    obtain⟨h1,h2,h3,h4,h5,h6⟩:=HI.out;exact⟨0,be _,rfl,by simpa[eE]using h3,h4,h1,h2,h5,h6⟩
   case round=>
    obtain⟨j,hj,rfl,M,H,hk,Q,k1,k2⟩:=hrel;have a3:=ae M;have e7:=ae H;have S:=ae Q;clear Q;by_cases D:j<xs.length
    ·obtain⟨b2,Z,rfl,j9,b0⟩:∃b2 Z,ao=some ⟨b2,Z,none⟩/\b2<w.heap.size/\cq w b2 Z xs:=by
      rcases HX.out with⟨_,e2⟩|⟨b,G,c,e,hb,hp⟩
      ·rw[e2]at D;exact absurd D (by simp)
      cases e;exact⟨b,G,rfl,hb,hp⟩
     have k0:(j:Int)<(xs.length:Int):=by omega
     have d1:=H.keeps (b0 j D).1;have d2:=H.keeps (b0 j D).2;have a7:=zQ xs (s,q) j D;have a8:=th (xs.take j) (s,q);have e8:(A++eE (xs.take j) (s,q)).length<=1000000:=by
      rw[bW];rw[bz]at a8;omega
     generalize hy:xs[j]=y at*;obtain⟨J,y2⟩:=y;simp only at d1 d2;have U:=ae a7;clear a7 a8 b0 hy;have b1:=fun o=>(Gr.alloc (Gr.refl wr) o).keeps k1;have b3:=fun o=>(Gr.alloc (Gr.refl wr) o).keeps k2;have b4:Hid (ci w (wr.alloc (.cells #[.int .i64 J,.int .i64 y2] 104)) u5 (A++eE (xs.take j) (s,q))):=ae (bj M _);have b5:=ae (H.alloc (.cells #[.int .i64 J,.int .i64 y2] 104));have d5:kp<(wr.alloc (.cells #[.int .i64 J,.int .i64 y2] 104)).heap.size:=by
      simp;omega
     have a4:=ae d5;clear M H d5;have V:pB (J,y2) (s,q)=(J==s&&decide (q=bC.wrap (y2+1))):=rfl;obtain⟨dd,e9⟩:∃dd,bC.wrap (y2+1)=dd:=⟨_,rfl⟩;rw[e9]at V;by_cases B:J=s/\q=dd
     ·have Y:pB (J,y2) (s,q)=true:=by
       rw[V];simp[B.1,B.2]
      rw[Y]at U;obtain⟨e1,e2⟩:=B;subst e1 e2;clear V Y;go_wp2_with(at_builtin;refine qN (a0:=w) rfl _ _ rfl u5 _ (J,q) rfl b4.out _ (by simp) rfl e8 b5.out ?_;intro v4 w4 g0 g3 a5)
      exact⟨⟨j+1,by omega,by go_num,by rw[U.out,if_pos rfl,<-List.append_assoc];exact g0,g3,by have:=a5.1;have:=a4.out;omega,(a5.2 kp a4.out S.out).1,a5.keeps S.out (b1 _),a5.keeps S.out (b3 _)⟩,by simp[intOf];omega⟩
     have Y:pB (J,y2) (s,q)=false:=by
      rw[V];rw[bv];intro h;simp only[aJ,beq_iff_eq,decide_eq_true_eq]at h;exact B h
     rw[Y]at U;clear V Y;by_cases g4:J=s
     ·subst g4;have k3:¬q=dd:=fun e=>B ⟨rfl,e⟩;go_wp2_with fail
      exact⟨⟨j+1,by omega,by go_num,by rw[U.out,if_neg (by simp)];exact b4.out,b5.out,a4.out,S.out,b1 _,b3 _⟩,by simp[intOf];omega⟩
     go_wp2_with fail
     exact⟨⟨j+1,by omega,by go_num,by rw[U.out,if_neg (by simp)];exact b4.out,b5.out,a4.out,S.out,b1 _,b3 _⟩,by simp[intOf];omega⟩
    have g5:j=xs.length:=by omega
    subst g5;rw[bA]at a3;go_wp2_with fail
    go_roundw
    case measure=>
     simp[intOf];omega
    case rel=>
     exact⟨i+1,by omega,by go_num,by rw[HN.out];exact a3.out,e7.out⟩
  have g6:i=z.length:=by omega
  subst g6;rw[bA]at HO;obtain⟨L,HL⟩:∃L,Hid (L=dX xs z):=⟨_,ae rfl⟩;have b6:dP w wr u5 L:=by
   rw[HL.out];exact HO.out.own
  have a9:L.length<=1000000:=by
   rw[HL.out];exact aU (pC xs z) (cK e4 hl)
  have g7:=ae b6;obtain⟨uo,uc,rfl⟩:=b6.form;clear M H b6 HO;go_wp2_with fail
  refine(GS w wr _ L g7.out HG.out a9).mono ?_;rintro e w2 ⟨v2,rfl,b7,g8⟩;rw[HL.out]at b7;have a3:=ae b7;clear b7;go_wp2_with fail
  go_ret;exact⟨_,rfl,a3.out,g8⟩
