/-
  For every input the law MatchFinds returns true, and its arguments read as they did; the listed variables (the table of ends, errors.errorType and two of the library's tables) are tied to the program's text. No other conditions.
-/
import Derived.Test.YtldmhjbdahjhdaaGreatDoorZa21
import Derived.Test.YtldmhjbdahjhdaaGreatDoorZaW
import Derived.Test.YtldmhjbdahjhdaaGreatDoorZaJ
import Derived.HandedShaped
open Go.Proofs.Tryz
open List.cons renaming injEq->ae
open Option.some renaming inj->ak
open Go.DataW renaming trod_string->ap,trod->az,trod_array->aQ
open Go.Value.slice renaming injEq->aJ
open Nat renaming not_lt_zero->aS,le_trans->bh,mul_one->bA
open Go.DataW.agg renaming injEq->aU
open Go renaming laidMetH->aV,TypeId->bX,Value->bZ
open Go.ChangeSpec renaming witness_shaped->aX,post_blind->bz
open List renaming map_cons->bc,map_nil->bj
open Go.OpenClaim renaming holds_of_wide->be
open Go.Proofs.Tryz renaming checked->bt,params3->bu
open Go.ChangeShapes renaming trodAll_cons->bv,trodAll_mk1->bB
open Go.DataW.Whole renaming of_heap->bC
open Go.Deep renaming open_slice->bF,add_add->bT
open Go.OpenSpec renaming ofChange->bM
open Go.Lit.string renaming injEq->bP
open Go.laidMetH renaming of_heap->bQ
open Go.DataW.lit renaming injEq->bW
open Prod.mk renaming injEq->b_
set_option maxRecDepth 100000
set_option maxHeartbeats 100000000
set_option linter.all false
namespace Go.Proofs.YtldmhjbdahjhdaaGreatDoor
section
open Go Go.ChangeShapes Go.WideShapes Go.ChangeAt Go.RowKit
theorem Hh{b:Type}{p:Nat->b->Prop}:∀{n:Nat},(∀i,i<n->∃v,p i v)->∃xs:List b,xs.length=n/\∀i (hi:i<xs.length),p i xs[i]
 |0,_=>⟨[],rfl,fun i hi=>absurd hi (aS _)⟩
 |n+1,h=>by
  obtain⟨xs,q,s⟩:=Hh (n:=n) fun i hi=>h i (by omega);obtain⟨v,hv⟩:=h n (by omega);refine⟨xs++[v],by simp[q],fun i hi=>?_⟩;by_cases e:i<xs.length
  ·rw[List.getElem_append_left e];exact s i e
  have y:i=n:=by simp at hi;omega
  subst y;rw[List.getElem_append_right (by omega)];simpa using hv
theorem O0{H:Type}{enc:bX×bZ->H}{w:World}{base:Nat}{y:Nat->Bool}{held:Bool}{fuel:Nat}{V:Option Addr}{len cap:Nat}{x:DataW H×List MemPlace}
  (h:az enc prog w base y held fuel 22 [.slice V len cap]=some x):
  ∃ts:List ByteArray,ts.length=len/\len<=9223372036854775807/\UN w V ts/\∀t∈ts,t.size<=9223372036854775807:=by
 have hC:prog.cellsOf 9=1:=by kernel_rfl
 rcases bF underlying22 h with⟨q,_⟩|⟨a,l,c,m,n,D,Pl,q,_,J,L,hm,_,hf⟩
 ·simp only[ae,aJ]at q;obtain⟨⟨rfl,rfl,rfl⟩,_⟩:=q;exact⟨[],rfl,by omega,fun i hi=>absurd hi (aS _),fun t G=>by cases G⟩
 simp only[ae,aJ]at q;obtain⟨⟨rfl,rfl,rfl⟩,_⟩:=q;have a6:len<=m:=by rw[hm];split<;>omega
 have z:∀i,i<len->∃v:ByteArray,w.cell? (a.add i)=some (.string v)/\v.size<=9223372036854775807:=by
  intro i hi;obtain⟨M,hc,O⟩:=hf i (by omega);rw[hC]at hc;obtain⟨_,Q,S⟩:=World.cells?_some hc;have Y:=S 0 (by omega)
  match M,Q with
  |[v0],_=>
   obtain⟨n0,Z,_,w0⟩:=ap underlying9 O;simp only[ae,and_true]at Z;subst Z;refine⟨n0,?_,w0⟩;rw[bT,bA,Nat.add_zero]at Y;exact Y
 obtain⟨xs,hl,I⟩:=Hh (p:=fun i v=>w.cell? (a.add i)=some (.string v)/\v.size<=9223372036854775807) z;refine⟨xs,hl,bh J (bh L (by decide)),fun i hi=>?_,fun t G=>?_⟩
 ·obtain⟨b,s,B⟩:=a;have hs:=World.cell?_spot (I 0 (by omega)).1;have U:B=none:=by simpa[Addr.add]using hs
  subst U;have he:(⟨b,s,none⟩:Addr).add i=⟨b,s+i,none⟩:=by
   unfold Addr.add
   split<;>simp_all
  have:=(I i hi).1;rw[he]at this;exact⟨b,s,rfl,this⟩
 obtain⟨i,hi,rfl⟩:=List.getElem_of_mem G;exact(I i hi).2
theorem Xy:prog.globalNamed "concordance/word.ends" =some 0:=by kernel_rfl
theorem Xz:(prog.globals[0]?).map (·.type)=some 228:=by kernel_rfl
theorem pQ{enc:bX×bZ->Unit}{w:World}{q:Nat->Bool}{fuel:Nat}{z:List bZ}{x:DataW Unit×List MemPlace}{a b:List UInt8}
  (h:az enc prog w 0 q false fuel 227 z=some x) (D:x.1=.agg [.lit (.string a),.lit (.string b)]):z=[.string ⟨a.toArray⟩,.string ⟨b.toArray⟩]:=by
 obtain⟨I,m,_,rfl,s,hn,y⟩:=aQ underlying227 h;have B:prog.cellsOf 9=1:=by kernel_rfl
 have J:prog.cellsOf 227=2:=by kernel_rfl
 rw[J]at s;simp only[B,bA]at y
 match z,s,I,hn with
 |[L,B],_,[M,O],_=>
  have Q:=y 0 (by decide);have S:=y 1 (by decide);obtain⟨V,G,U,_⟩:=ap underlying9 (show az enc prog w 0 q false m 9 [L]=some M from Q);obtain⟨Y,H,g1,_⟩:=ap underlying9 (show az enc prog w 0 q false m 9 [B]=some O from S);simp only[ae,and_true]at G H;subst G H U g1;simp only[bc,bj,aU,ae,bW,bP,and_true]at D;obtain⟨rfl,rfl⟩:=D
  rfl
theorem Si{W:World}(h:aV prog Rows.matchFindsRow.laid W):fP W/\dL W:=by
 have M:laidMet prog [("unicode/utf8.acceptRanges",Rows.laid_unicode_utf8_acceptRanges),("concordance/word.ends",Rows.laid_concordance_word_ends),("unicode/utf8.first",Rows.laid_unicode_utf8_first)] W/\handlesMet prog [("errors.errorType",Rows.laid_errors_errorType)] W:=h;refine⟨?_,Bt M.2 (List.mem_singleton.2 rfl)⟩;obtain⟨ps,⟨ga,ta,b4,fa,pa,qa,_,_,_,_,B,_⟩,_,_⟩:=M.1;obtain⟨g0,t0,z,f0,p0,q0,D,H,s,I,_,_⟩:=B;obtain rfl:=ak (Xy.symm.trans D);obtain rfl:=ak (Xz.symm.trans H);obtain⟨xs,m,_,O,y,hn,q⟩:=aQ underlying228 I;have c2:prog.cellsOf 227=2:=by kernel_rfl
 have J:prog.cellsOf 228=14:=by kernel_rfl
 rw[J]at y;simp only[c2]at q;simp only[b_]at O;have b:=O.1;unfold Rows.laid_concordance_word_ends at b;simp only[aU]at b;have L:z.toList=fj.toList:=by
  generalize z.toList=l at*
  match l,y,xs,hn,b,q with
  |[a0,a1,a2,a3,a4,a5,a6,a7,a8,a9,b5,b6,b7,b8],_,[x0,x1,x2,x3,x4,x5,x6],_,b,q=>
   simp only[bc,bj,ae,and_true]at b;have Q:=pQ (q 0 (by decide)) b.1.symm;have S:=pQ (q 1 (by decide)) b.2.1.symm;have U:=pQ (q 2 (by decide)) b.2.2.1.symm;have V:=pQ (q 3 (by decide)) b.2.2.2.1.symm;have Y:=pQ (q 4 (by decide)) b.2.2.2.2.1.symm;have Z:=pQ (q 5 (by decide)) b.2.2.2.2.2.1.symm;have e6:=pQ (q 6 (by decide)) b.2.2.2.2.2.2.symm;simp only[Nat.reduceMul,List.drop_succ_cons,List.drop_zero,List.take_succ_cons,List.take_zero,ae,and_true]at Q S U V Y Z e6;simp only[Q,S,U,V,Y,Z,e6,fj]
 have G:z=fj:=Array.ext' L;subst G;simp only[World.var?,D,Option.bind_some]at s
 split at s
 ·rename_i cs t fr hh
  obtain rfl:=ak s;exact⟨_,_,hh⟩
 cases s
end
end Go.Proofs.YtldmhjbdahjhdaaGreatDoor
namespace Go.Proofs.YtldmhjbdahjhdaaGreatDoor.matchFindsDone
open Go.ChangeShapes Go.WideShapes Go.ChangeAt Go.RowKit
open Go.ChangeMaps (open_string shut_string)
theorem own:ownKnob prog.godebug=none:=by kernel_rfl
theorem laidOut:laidOutB prog=true:=by kernel_rfl
theorem lifted(os:Os)(z:os.Started)(H:Type)(enc:bX×bZ->H):
  ReturnsInHanded {} bt os 3 .any (fun w args=>(Rows.matchFindsSpec.pre enc prog f3 [] false w args/\aV prog Rows.matchFindsRow.laid w)/\sizedMet enc prog f3 (bM Rows.matchFindsSpec) false w args)
   (Rows.matchFindsSpec.post enc prog f3 false true false false):=by
 refine returnsInHanded_of_calls own z (by kernel_rfl)
  (aX (enc:=enc) (C:=bt) (os:=os) (X:=fun w _=>aV prog Rows.matchFindsRow.laid w) false (start os) #[.slice none 0 0,.string ⟨#[]⟩] 8 (Sf os) (Fs os) (by kernel_rfl) (by kernel_rfl) (by kernel_rfl) (Sg os _)) ?_
 intro wd b B _ V _ Y J _;obtain⟨_,_,_,Z,L,_,_,_,_,y⟩:=Y;obtain rfl:Z=f3:=ak (L.symm.trans func3);obtain⟨⟨⟨ds,gs,S,a1,_⟩,a2⟩,_⟩:=J;have hW:=bC (w':=wd.forCall b B) (by rfl) a1;have hL:aV prog Rows.matchFindsRow.laid (wd.forCall b B):=bQ (by rfl) a2;generalize b0:B.args=args at*;generalize c7:wd.forCall b B=W at*;suffices hs:Calls prog 3 args W fun e O=>∃v,e=.returned v/\Rows.matchFindsSpec.post enc prog f3 false true false false W args v O by
  refine hs.mono fun e O ⟨v,Q,hp⟩=>?_;subst Q;exact bz hp
 have hval:∀(j:Nat) t v,f3.params[j]?=some t->args[j]?=some v->Value.okWide prog W .any _ t v:=y;have D:=hW;obtain⟨p,q,G,hV,rfl,c8,c9⟩:=hW;have hA:DataW.TrodAll enc prog W 0 (fun _=>true) true f3.params.toList args.toList ds p:=G;rw[bu]at hA hval;obtain⟨v0,d2,d0,d3,p0,q0,U,rfl,rfl,h0,r0⟩:=bv hA;obtain⟨v1,d4,d1,d5,p1,q1,rfl,rfl,rfl,h1,r1⟩:=bv r0;obtain⟨rfl,rfl,rfl⟩:=trodAll_nil r1;obtain rfl:args=#[v0,v1]:=by cases args;simp_all
 obtain⟨rfl,rfl⟩:=trodVars_none hV;obtain⟨a0,b5,M,rfl⟩:=okWide_slice underlying22 (hval 0 22 v0 rfl rfl);obtain⟨s,rfl,rfl,rfl,hs⟩:=open_string underlying9 (hval 1 9 v1 rfl rfl) h1;have k0:=h0;have a3:∀x∈p0,x.block<W.heap.size:=by obtain⟨m,hm⟩:=k0;exact DataW.trod_lt m _ _ _ hm
 obtain⟨f0,a4⟩:=h0;obtain⟨xs,a5,a6,a7,a8⟩:=O0 a4;subst a5;obtain⟨hF,hE⟩:=Si hL;clear G y;simp only[List.append_nil]at D;refine(zY xs a0 M s a6 hs W a7 a8 hF hE (Tryz.P3.s1_3 W V)).mono fun e O ⟨Q,I⟩=>?_;subst Q;exact⟨_,rfl,_,_,_,[],_,[],D,bB (shut_bool underlying4 _),(trodAll_cons_mk (Below.trod laidOut (by kernel_rfl) (of_decide_eq_true (by kernel_rfl)) k0 I a3) (bB (shut_string underlying9 hs))),rfl,Below.frame I _,fun h=>by cases h⟩
theorem sy:Rows.MatchFindsSaid:=
 be 3 f3 rfl rfl rfl rfl rfl rfl rfl ⟨rfl,rfl,rfl,rfl,rfl⟩ rfl rfl rfl rfl rfl (by as_aux_lemma=>kernel_rfl) func3 Wj
  (of_decide_eq_true (by as_aux_lemma=>kernel_rfl)) (by as_aux_lemma=>unfold Func.isWrapper;first|(rw[if_pos (by decide+kernel)];kernel_rfl)|(rw[if_neg (by decide+kernel)];exact⟨rfl,rfl⟩))
  (fun s b H q _=>lifted s b H q)
theorem proved:Rows.MatchFindsCardSaid:=
 Claim7.holds_tied_plain_at .later [] [.data,.handle,.data,.pinned] true Rows.matchFindsCard.stood.harness true
  sy (fun _ h=>by cases h) (by kernel_rfl) (fun _ h=>by cases h) matchFinds_row_tie rfl ⟨rfl,rfl⟩ (by kernel_rfl) rfl
  (fun f z hf s=>by
   obtain rfl:f=3:=ak ((show prog.funcNamed Rows.matchFindsRow.func=some 3 by kernel_rfl).symm.trans hf)|>.symm
   obtain rfl:z=f3:=(ak (func3.symm.trans s)).symm;exact⟨by kernel_rfl,fun j t y=>by
    rw[bu]at y;have B:t∈[22,9]:=by simpa using Array.mem_of_getElem? y
    have q:([22,9].all fun u=>!prog.wantsStandIn u)=true:=by kernel_rfl
    exact(show prog.wantsStandIn t=false by simpa using List.all_eq_true.1 q t B)⟩)
  (by kernel_rfl)
end Go.Proofs.YtldmhjbdahjhdaaGreatDoor.matchFindsDone
