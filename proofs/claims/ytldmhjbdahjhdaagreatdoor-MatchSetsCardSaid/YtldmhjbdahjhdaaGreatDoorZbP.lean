/-
  For every input the law MatchSets returns true, and its arguments read as they did; the listed variables (the table of ends, errors.errorType and two of the library's tables) are tied to the program's text. No other conditions.
-/
import Derived.Test.YtldmhjbdahjhdaaGreatDoorZb27
import Derived.Test.YtldmhjbdahjhdaaGreatDoorZbW
import Derived.Test.YtldmhjbdahjhdaaGreatDoorZbJ
import Derived.HandedShaped
open Go.Proofs.Tryz renaming prog->awU,underlying9->awV,f5->awZ,underlying22->aw1,func5->aw9,checked->axd,params5->axe
open List.cons renaming injEq->awW
open Option.some renaming inj->awX
open Go.DataW renaming trod_string->awY,trod->aw0,trod_array->aw4
open Go.Value.slice renaming injEq->aw2
open Go.ChangeShapes renaming trodAll_cons->aw3
open Nat renaming not_lt_zero->aw5,le_trans->axb,mul_one->axg
open Go.DataW.agg renaming injEq->aw6
open Go renaming trodAll_cons_mk->aw7,laidMetH->aw8
open Go.ChangeSpec renaming witness_shaped->aw_,post_blind->axf
open List renaming map_cons->axa,map_nil->axc
open Go.DataW.Whole renaming of_heap->axh
open Go.Lit.string renaming injEq->axi
set_option maxRecDepth 100000
set_option maxHeartbeats 100000000
set_option linter.all false
namespace Go.Proofs.YtldmhjbdahjhdaaGreatDoor
section
open Go Go.ChangeShapes Go.WideShapes Go.ChangeAt Go.RowKit
theorem Fj{b:Type}{p:Nat->b->Prop}:∀{n:Nat},(∀i,i<n->∃v,p i v)->∃xs:List b,xs.length=n/\∀i (hi:i<xs.length),p i xs[i]
 |0,_=>⟨[],rfl,fun i hi=>absurd hi (aw5 _)⟩
 |n+1,h=>by
  obtain⟨xs,q,s⟩:=Fj (n:=n) fun i hi=>h i (by omega);obtain⟨v,hv⟩:=h n (by omega);refine⟨xs++[v],by simp[q],fun i hi=>?_⟩;by_cases e:i<xs.length
  ·rw[List.getElem_append_left e];exact s i e
  ·have y:i=n:=by simp at hi;omega
   subst y;rw[List.getElem_append_right (by omega)];simpa using hv
theorem M5{H:Type}{enc:TypeId×Value->H}{w:World}{base:Nat}{y:Nat->Bool}{held:Bool}{fuel:Nat}{V:Option Addr}{len cap:Nat}{x:DataW H×List MemPlace}
  (h:aw0 enc awU w base y held fuel 22 [.slice V len cap]=some x):
  ∃ts:List ByteArray,ts.length=len/\len<=9223372036854775807/\Fi w V ts/\∀t∈ts,t.size<=9223372036854775807:=by
 have hC:awU.cellsOf 9=1:=by kernel_rfl
 rcases Go.Deep.open_slice aw1 h with⟨q,_⟩|⟨a,l,c,m,n,D,Pl,q,_,J,L,hm,_,hf⟩
 ·simp only[awW,aw2]at q;obtain⟨⟨rfl,rfl,rfl⟩,_⟩:=q;exact⟨[],rfl,by omega,fun i hi=>absurd hi (aw5 _),fun t G=>by cases G⟩
 ·simp only[awW,aw2]at q;obtain⟨⟨rfl,rfl,rfl⟩,_⟩:=q;have a6:len<=m:=by rw[hm];split<;>omega
  have z:∀i,i<len->∃v:ByteArray,w.cell? (a.add i)=some (.string v)/\v.size<=9223372036854775807:=by
   intro i hi;obtain⟨M,hc,O⟩:=hf i (by omega);rw[hC]at hc;obtain⟨_,Q,S⟩:=World.cells?_some hc;have Y:=S 0 (by omega)
   match M,Q with
   |[v0],_=>
    obtain⟨n0,Z,_,w0⟩:=awY awV O;simp only[awW,and_true]at Z;subst Z;refine⟨n0,?_,w0⟩;rw[Go.Deep.add_add,axg,Nat.add_zero]at Y;exact Y
  obtain⟨xs,hl,I⟩:=Fj (p:=fun i v=>w.cell? (a.add i)=some (.string v)/\v.size<=9223372036854775807) z;refine⟨xs,hl,axb J (axb L (by decide)),fun i hi=>?_,fun t G=>?_⟩
  ·obtain⟨b,s,B⟩:=a;have hs:=World.cell?_spot (I 0 (by omega)).1;have U:B=none:=by simpa[Addr.add]using hs
   subst U;have he:(⟨b,s,none⟩:Addr).add i=⟨b,s+i,none⟩:=by
    unfold Addr.add
    split<;>simp_all
   have:=(I i hi).1;rw[he]at this;exact⟨b,s,rfl,this⟩
  ·obtain⟨i,hi,rfl⟩:=List.getElem_of_mem G;exact(I i hi).2
theorem U9:awU.globalNamed "concordance/word.ends" =some 0:=by kernel_rfl
theorem U_:(awU.globals[0]?).map (·.type)=some 228:=by kernel_rfl
theorem oK{enc:TypeId×Value->Unit}{w:World}{q:Nat->Bool}{fuel:Nat}{z:List Value}{x:DataW Unit×List MemPlace}{a b:List UInt8}
  (h:aw0 enc awU w 0 q false fuel 227 z=some x) (D:x.1=.agg [.lit (.string a),.lit (.string b)]):z=[.string ⟨a.toArray⟩,.string ⟨b.toArray⟩]:=by
 obtain⟨I,m,_,rfl,s,hn,y⟩:=aw4 Tryz.underlying227 h;have B:awU.cellsOf 9=1:=by kernel_rfl
 have J:awU.cellsOf 227=2:=by kernel_rfl
 rw[J]at s;simp only[B,axg]at y
 match z,s,I,hn with
 |[L,B],_,[M,O],_=>
  have Q:=y 0 (by decide);have S:=y 1 (by decide);obtain⟨V,G,U,_⟩:=awY awV (show aw0 enc awU w 0 q false m 9 [L]=some M from Q);obtain⟨Y,H,g1,_⟩:=awY awV (show aw0 enc awU w 0 q false m 9 [B]=some O from S);simp only[awW,and_true]at G H;subst G H U g1;simp only[axa,axc,aw6,awW,DataW.lit.injEq,axi,and_true]at D;obtain⟨rfl,rfl⟩:=D
  rfl
theorem Qh{W:World}(h:aw8 awU Rows.matchSetsRow.laid W):dO W/\eG W:=by
 have M:laidMet awU [("unicode/utf8.acceptRanges",Rows.laid_unicode_utf8_acceptRanges),("concordance/word.ends",Rows.laid_concordance_word_ends),("unicode/utf8.first",Rows.laid_unicode_utf8_first)] W/\handlesMet awU [("errors.errorType",Rows.laid_errors_errorType)] W:=h;refine⟨?_,zX M.2 (List.mem_singleton.2 rfl)⟩;obtain⟨ps,⟨ga,ta,b4,fa,pa,qa,_,_,_,_,B,_⟩,_,_⟩:=M.1;obtain⟨g0,t0,z,f0,p0,q0,D,H,s,I,_,_⟩:=B;obtain rfl:=awX (U9.symm.trans D);obtain rfl:=awX (U_.symm.trans H);obtain⟨xs,m,_,O,y,hn,q⟩:=aw4 Tryz.underlying228 I;have c2:awU.cellsOf 227=2:=by kernel_rfl
 have J:awU.cellsOf 228=14:=by kernel_rfl
 rw[J]at y;simp only[c2]at q;simp only[Prod.mk.injEq]at O;have b:=O.1;unfold Rows.laid_concordance_word_ends at b;simp only[aw6]at b;have L:z.toList=eI.toList:=by
  generalize z.toList=l at*
  match l,y,xs,hn,b,q with
  |[a0,a1,a2,a3,a4,a5,a6,a7,a8,a9,b5,b6,b7,b8],_,[x0,x1,x2,x3,x4,x5,x6],_,b,q=>
   simp only[axa,axc,awW,and_true]at b;have Q:=oK (q 0 (by decide)) b.1.symm;have S:=oK (q 1 (by decide)) b.2.1.symm;have U:=oK (q 2 (by decide)) b.2.2.1.symm;have V:=oK (q 3 (by decide)) b.2.2.2.1.symm;have Y:=oK (q 4 (by decide)) b.2.2.2.2.1.symm;have Z:=oK (q 5 (by decide)) b.2.2.2.2.2.1.symm;have e6:=oK (q 6 (by decide)) b.2.2.2.2.2.2.symm;simp only[Nat.reduceMul,List.drop_succ_cons,List.drop_zero,List.take_succ_cons,List.take_zero,awW,and_true]at Q S U V Y Z e6;simp only[Q,S,U,V,Y,Z,e6,eI]
 have G:z=eI:=Array.ext' L;subst G;simp only[World.var?,D,Option.bind_some]at s
 split at s
 ·rename_i cs t fr hh
  obtain rfl:=awX s;exact⟨_,_,hh⟩
 ·cases s
end
end Go.Proofs.YtldmhjbdahjhdaaGreatDoor
namespace Go.Proofs.YtldmhjbdahjhdaaGreatDoor.matchSetsDone
open Go.ChangeShapes Go.WideShapes Go.ChangeAt Go.RowKit
open Go.ChangeMaps (open_string shut_string)
theorem own:ownKnob awU.godebug=none:=by kernel_rfl
theorem laidOut:laidOutB awU=true:=by kernel_rfl
theorem lifted(os:Os)(z:os.Started)(H:Type)(enc:TypeId×Value->H):
  ReturnsInHanded {} axd os 5 .any (fun w args=>(Rows.matchSetsSpec.pre enc awU awZ [] false w args/\aw8 awU Rows.matchSetsRow.laid w)/\sizedMet enc awU awZ (OpenSpec.ofChange Rows.matchSetsSpec) false w args)
   (Rows.matchSetsSpec.post enc awU awZ false true false false):=by
 refine returnsInHanded_of_calls own z (by kernel_rfl)
  (aw_ (enc:=enc) (C:=axd) (os:=os) (X:=fun w _=>aw8 awU Rows.matchSetsRow.laid w) false (start os) #[.slice none 0 0,.string ⟨#[]⟩,.string ⟨#[]⟩] 8 (Qe os) (DA os) (by kernel_rfl) (by kernel_rfl) (by kernel_rfl) (Qf os _)) ?_
 intro Q b B _ Z _ a1 L _;obtain⟨_,_,_,a2,M,_,_,_,_,y⟩:=a1;obtain rfl:a2=awZ:=awX (M.symm.trans aw9);obtain⟨⟨⟨ds,gs,V,a3,_⟩,a4⟩,_⟩:=L;have hW:=axh (w':=Q.forCall b B) (by rfl) a3;have hL:aw8 awU Rows.matchSetsRow.laid (Q.forCall b B):=laidMetH.of_heap (by rfl) a4;generalize b2:B.args=args at*;generalize d5:Q.forCall b B=W at*;suffices hs:Calls awU 5 args W fun e S=>∃v,e=.returned v/\Rows.matchSetsSpec.post enc awU awZ false true false false W args v S by
  refine hs.mono fun e S ⟨v,U,hp⟩=>?_;subst U;exact axf hp
 have hval:∀(j:Nat) t v,awZ.params[j]?=some t->args[j]?=some v->Value.okWide awU W .any _ t v:=y;have D:=hW;obtain⟨p,q,G,hV,rfl,d6,d7⟩:=hW;have hA:DataW.TrodAll enc awU W 0 (fun _=>true) true awZ.params.toList args.toList ds p:=G;rw[axe]at hA hval;obtain⟨v0,d8,d0,d9,p0,q0,Y,rfl,rfl,h0,r0⟩:=aw3 hA;obtain⟨v1,e0,d1,e1,p1,q1,rfl,rfl,rfl,h1,r1⟩:=aw3 r0;obtain⟨v2,e2,d2,e3,p2,q2,rfl,rfl,rfl,h2,r2⟩:=aw3 r1;obtain⟨rfl,rfl,rfl⟩:=trodAll_nil r2;obtain rfl:args=#[v0,v1,v2]:=by cases args;simp_all
 obtain⟨rfl,rfl⟩:=trodVars_none hV;obtain⟨a0,b8,O,rfl⟩:=okWide_slice aw1 (hval 0 22 v0 rfl rfl);obtain⟨s,rfl,rfl,rfl,hs⟩:=open_string awV (hval 1 9 v1 rfl rfl) h1;obtain⟨s2,rfl,rfl,rfl,I⟩:=open_string awV (hval 2 9 v2 rfl rfl) h2;have k0:=h0;have a5:∀x∈p0,x.block<W.heap.size:=by obtain⟨m,hm⟩:=k0;exact DataW.trod_lt m _ _ _ hm
 obtain⟨f0,a6⟩:=h0;obtain⟨xs,a7,a8,a9,b0⟩:=M5 a6;subst a7;obtain⟨hF,hE⟩:=Qh hL;clear G y;simp only[List.append_nil]at D;refine(Ai xs a0 O s s2 a8 hs I W a9 b0 hF hE (Tryz.NX.s1_3 W Z)).mono fun e S ⟨U,J⟩=>?_;subst U;exact⟨_,rfl,_,_,_,[],_,[],D,trodAll_mk1 (shut_bool Tryz.underlying4 _),(aw7 (Below.trod laidOut (by kernel_rfl) (of_decide_eq_true (by kernel_rfl)) k0 J a5) (aw7 (shut_string awV hs) (trodAll_mk1 (shut_string awV I)))),rfl,Below.frame J _,fun h=>by cases h⟩
theorem vf:Rows.MatchSetsSaid:=
 OpenClaim.holds_of_wide 5 awZ rfl rfl rfl rfl rfl rfl rfl ⟨rfl,rfl,rfl,rfl,rfl⟩ rfl rfl rfl rfl rfl (by as_aux_lemma=>kernel_rfl) aw9 TK
  (of_decide_eq_true (by as_aux_lemma=>kernel_rfl)) (by as_aux_lemma=>unfold Func.isWrapper;first|(rw[if_pos (by decide+kernel)];kernel_rfl)|(rw[if_neg (by decide+kernel)];exact⟨rfl,rfl⟩))
  (fun s b H q _=>lifted s b H q)
theorem proved:Rows.MatchSetsCardSaid:=
 Claim7.holds_tied_plain_at .later [] [.data,.handle,.data,.pinned] true Rows.matchSetsCard.stood.harness true
  vf (fun _ h=>by cases h) (by kernel_rfl) (fun _ h=>by cases h) matchSets_row_tie rfl ⟨rfl,rfl⟩ (by kernel_rfl) rfl
  (fun f z hf s=>by
   obtain rfl:f=5:=awX ((show awU.funcNamed Rows.matchSetsRow.func=some 5 by kernel_rfl).symm.trans hf)|>.symm
   obtain rfl:z=awZ:=(awX (aw9.symm.trans s)).symm;exact⟨by kernel_rfl,fun j t y=>by
    rw[axe]at y;have B:t∈[22,9,9]:=by simpa using Array.mem_of_getElem? y
    have q:([22,9,9].all fun u=>!awU.wantsStandIn u)=true:=by kernel_rfl
    exact(show awU.wantsStandIn t=false by simpa using List.all_eq_true.1 q t B)⟩)
  (by kernel_rfl)
end Go.Proofs.YtldmhjbdahjhdaaGreatDoor.matchSetsDone
