/-
  For every input the law FinderEven returns true, and its arguments read as they did; the listed variables (the table of ends and errors.errorType) are tied to the program's text. No other conditions.
-/
import Derived.Test.YtldmhjbdahjhdaaGreatDoorZc29
import Derived.Test.YtldmhjbdahjhdaaGreatDoorZcW
import Derived.Test.YtldmhjbdahjhdaaGreatDoorZcJ
import Derived.HandedShaped
set_option maxRecDepth 100000
set_option maxHeartbeats 100000000
set_option linter.all false
namespace Go.Proofs.YtldmhjbdahjhdaaGreatDoor
section
open Go Go.ChangeShapes Go.WideShapes Go.ChangeAt Go.RowKit
theorem list_of2{α:Type}{p:Nat->α->Prop}:∀{n:Nat},(∀i,i<n->∃v,p i v)->∃xs:List α,xs.length=n/\∀i (hi:i<xs.length),p i xs[i]
 |0,_=>⟨[],rfl,fun i hi=>absurd hi (Nat.not_lt_zero _)⟩
 |n+1,h=>by
  obtain⟨xs,h1,h2⟩:=list_of2 (n:=n) fun i hi=>h i (by omega)
  obtain⟨v,hv⟩:=h n (by omega)
  refine⟨xs++[v],by simp[h1],fun i hi=>?_⟩
  by_cases e:i<xs.length
  ·rw[List.getElem_append_left e]
   exact h2 i e
  ·have e2:i=n:=by simp at hi;omega
   subst e2
   rw[List.getElem_append_right (by omega)]
   simpa using hv
theorem open_txts{H:Type}{enc:TypeId×Value->H}{w:World}{base:Nat}{spare:Nat->Bool}{held:Bool}{fuel:Nat}{ao:Option Addr}{len cap:Nat}{x:DataW H×List MemPlace}
  (h:DataW.trod enc Tryz.prog w base spare held fuel 22 [.slice ao len cap]=some x):
  ∃ts:List ByteArray,ts.length=len/\len<=9223372036854775807/\Ev.TxtAt w ao ts/\∀t∈ts,t.size<=9223372036854775807:=by
 have hC:Tryz.prog.cellsOf 9=1:=by kernel_rfl
 rcases Go.Deep.open_slice Tryz.underlying22 h with⟨hcs,_⟩|⟨a,l,c,m,n,D,Pl,hcs,_,hlc,hcm,hm,_,hf⟩
 ·simp only[List.cons.injEq,Value.slice.injEq]at hcs
  obtain⟨⟨rfl,rfl,rfl⟩,_⟩:=hcs
  exact⟨[],rfl,by omega,fun i hi=>absurd hi (Nat.not_lt_zero _),fun t ht=>by cases ht⟩
 ·simp only[List.cons.injEq,Value.slice.injEq]at hcs
  obtain⟨⟨rfl,rfl,rfl⟩,_⟩:=hcs
  have hlm:len<=m:=by rw[hm];split<;>omega
  have hcell:∀i,i<len->∃v:ByteArray,w.cell? (a.add i)=some (.string v)/\v.size<=9223372036854775807:=by
   intro i hi
   obtain⟨cs',hc,ht'⟩:=hf i (by omega)
   rw[hC]at hc
   obtain⟨_,hcl,hat⟩:=World.cells?_some hc
   have h0:=hat 0 (by omega)
   match cs',hcl with
   |[v0],_=>
    obtain⟨n0,e0,_,w0⟩:=DataW.trod_string Tryz.underlying9 ht'
    simp only[List.cons.injEq,and_true]at e0
    subst e0
    refine⟨n0,?_,w0⟩
    rw[Go.Deep.add_add,Nat.mul_one,Nat.add_zero]at h0
    exact h0
  obtain⟨xs,hl,hx⟩:=list_of2 (p:=fun i v=>w.cell? (a.add i)=some (.string v)/\v.size<=9223372036854775807) hcell
  refine⟨xs,hl,Nat.le_trans hlc (Nat.le_trans hcm (by decide)),fun i hi=>?_,fun t ht=>?_⟩
  ·obtain⟨b,off,spot⟩:=a
   have hs:=World.cell?_spot (hx 0 (by omega)).1
   have hs':spot=none:=by simpa[Addr.add]using hs
   subst hs'
   have he:(⟨b,off,none⟩:Addr).add i=⟨b,off+i,none⟩:=by
    unfold Addr.add
    split<;>simp_all
   have:=(hx i hi).1
   rw[he]at this
   exact⟨b,off,rfl,this⟩
  ·obtain⟨i,hi,rfl⟩:=List.getElem_of_mem ht
   exact(hx i hi).2
theorem open_nums{H:Type}{enc:TypeId×Value->H}{w:World}{base:Nat}{spare:Nat->Bool}{held:Bool}{fuel:Nat}{ao:Option Addr}{len cap:Nat}{x:DataW H×List MemPlace}
  (h:DataW.trod enc Tryz.prog w base spare held fuel 49 [.slice ao len cap]=some x):
  ∃ns:List Int,ns.length=len/\len<=9223372036854775807/\Ev.NumAt w ao ns:=by
 have hC:Tryz.prog.cellsOf 3=1:=by kernel_rfl
 rcases Go.Deep.open_slice Tryz.underlying49 h with⟨hcs,_⟩|⟨a,l,c,m,n,D,Pl,hcs,_,hlc,hcm,hm,_,hf⟩
 ·simp only[List.cons.injEq,Value.slice.injEq]at hcs
  obtain⟨⟨rfl,rfl,rfl⟩,_⟩:=hcs
  exact⟨[],rfl,by omega,fun i hi=>absurd hi (Nat.not_lt_zero _)⟩
 ·simp only[List.cons.injEq,Value.slice.injEq]at hcs
  obtain⟨⟨rfl,rfl,rfl⟩,_⟩:=hcs
  have hlm:len<=m:=by rw[hm];split<;>omega
  have hcell:∀i,i<len->∃v:Int,w.cell? (a.add i)=some (.int .i64 v)/\True:=by
   intro i hi
   obtain⟨cs',hc,ht'⟩:=hf i (by omega)
   rw[hC]at hc
   obtain⟨_,hcl,hat⟩:=World.cells?_some hc
   have h0:=hat 0 (by omega)
   match cs',hcl with
   |[v0],_=>
    obtain⟨n0,e0,_,w0⟩:=DataW.trod_int Tryz.underlying3 ht'
    simp only[List.cons.injEq,and_true]at e0
    subst e0
    refine⟨n0,?_,trivial⟩
    rw[Go.Deep.add_add,Nat.mul_one,Nat.add_zero]at h0
    exact h0
  obtain⟨xs,hl,hx⟩:=list_of2 (p:=fun i v=>w.cell? (a.add i)=some (.int .i64 v)/\True) hcell
  refine⟨xs,hl,Nat.le_trans hlc (Nat.le_trans hcm (by decide)),fun i hi=>?_⟩
  obtain⟨b,off,spot⟩:=a
  have hs:=World.cell?_spot (hx 0 (by omega)).1
  have hs':spot=none:=by simpa[Addr.add]using hs
  subst hs'
  have he:(⟨b,off,none⟩:Addr).add i=⟨b,off+i,none⟩:=by
   unfold Addr.add
   split<;>simp_all
  have:=(hx i hi).1
  rw[he]at this
  exact⟨b,off,rfl,this⟩
theorem gEnds:Tryz.prog.globalNamed "concordance/word.ends" =some 0:=by kernel_rfl
theorem tEnds:(Tryz.prog.globals[0]?).map (·.type)=some 228:=by kernel_rfl
theorem pair_of{enc:TypeId×Value->Unit}{w:World}{spare:Nat->Bool}{fuel:Nat}{cs:List Value}{x:DataW Unit×List MemPlace}{a b:List UInt8}
  (h:DataW.trod enc Tryz.prog w 0 spare false fuel 227 cs=some x) (hx:x.1=.agg [.lit (.string a),.lit (.string b)]):cs=[.string ⟨a.toArray⟩,.string ⟨b.toArray⟩]:=by
 obtain⟨xs,m,_,rfl,hlen,hn,hel⟩:=DataW.trod_array Tryz.underlying227 h
 have c1:Tryz.prog.cellsOf 9=1:=by kernel_rfl
 have c2:Tryz.prog.cellsOf 227=2:=by kernel_rfl
 rw[c2]at hlen
 simp only[c1,Nat.mul_one]at hel
 match cs,hlen,xs,hn with
 |[c0,c1],_,[x0,x1],_=>
  have h0:=hel 0 (by decide)
  have h1:=hel 1 (by decide)
  obtain⟨s0,e0,g0,_⟩:=DataW.trod_string Tryz.underlying9 (show DataW.trod enc Tryz.prog w 0 spare false m 9 [c0]=some x0 from h0)
  obtain⟨s1,e1,g1,_⟩:=DataW.trod_string Tryz.underlying9 (show DataW.trod enc Tryz.prog w 0 spare false m 9 [c1]=some x1 from h1)
  simp only[List.cons.injEq,and_true]at e0 e1
  subst e0 e1 g0 g1
  simp only[List.map_cons,List.map_nil,DataW.agg.injEq,List.cons.injEq,DataW.lit.injEq,Lit.string.injEq,and_true]at hx
  obtain⟨rfl,rfl⟩:=hx
  rfl
theorem ends_err{W:World}(h:laidMetH Tryz.prog Rows.finderEvenRow.laid W):EndsAt W/\ErrTypeAt W:=by
 have h':laidMet Tryz.prog [("concordance/word.ends",Rows.laid_concordance_word_ends)] W/\handlesMet Tryz.prog [("errors.errorType",Rows.laid_errors_errorType)] W:=h
 refine⟨?_,err_of_handles h'.2 (List.mem_singleton.2 rfl)⟩
 obtain⟨ps,⟨g0,t0,cs0,f0,p0,q0,hg0,ht0,hv0,hd0,_,_⟩,_,_⟩:=h'.1
 obtain rfl:=Option.some.inj (gEnds.symm.trans hg0)
 obtain rfl:=Option.some.inj (tEnds.symm.trans ht0)
 obtain⟨xs,m,_,hx,hlen,hn,hel⟩:=DataW.trod_array Tryz.underlying228 hd0
 have c2:Tryz.prog.cellsOf 227=2:=by kernel_rfl
 have c14:Tryz.prog.cellsOf 228=14:=by kernel_rfl
 rw[c14]at hlen
 simp only[c2]at hel
 simp only[Prod.mk.injEq]at hx
 have hx1:=hx.1
 unfold Rows.laid_concordance_word_ends at hx1
 simp only[DataW.agg.injEq]at hx1
 have key:cs0.toList=endsCells.toList:=by
  generalize cs0.toList=l at*
  match l,hlen,xs,hn,hx1,hel with
  |[a0,a1,a2,a3,a4,a5,a6,a7,a8,a9,a10,a11,a12,a13],_,[x0,x1,x2,x3,x4,x5,x6],_,hx1,hel=>
   simp only[List.map_cons,List.map_nil,List.cons.injEq,and_true]at hx1
   have e0:=pair_of (hel 0 (by decide)) hx1.1.symm
   have e1:=pair_of (hel 1 (by decide)) hx1.2.1.symm
   have e2:=pair_of (hel 2 (by decide)) hx1.2.2.1.symm
   have e3:=pair_of (hel 3 (by decide)) hx1.2.2.2.1.symm
   have e4:=pair_of (hel 4 (by decide)) hx1.2.2.2.2.1.symm
   have e5:=pair_of (hel 5 (by decide)) hx1.2.2.2.2.2.1.symm
   have e6:=pair_of (hel 6 (by decide)) hx1.2.2.2.2.2.2.symm
   simp only[Nat.reduceMul,List.drop_succ_cons,List.drop_zero,List.take_succ_cons,List.take_zero,List.cons.injEq,and_true]at e0 e1 e2 e3 e4 e5 e6
   simp only[e0,e1,e2,e3,e4,e5,e6,endsCells]
 have key2:cs0=endsCells:=Array.ext' key
 subst key2
 simp only[World.var?,hg0,Option.bind_some]at hv0
 split at hv0
 ·rename_i cs t fr hh
  obtain rfl:=Option.some.inj hv0
  exact⟨_,_,hh⟩
 ·cases hv0
end
end Go.Proofs.YtldmhjbdahjhdaaGreatDoor
namespace Go.Proofs.YtldmhjbdahjhdaaGreatDoor.finderEvenDone
open Go.ChangeShapes Go.WideShapes Go.ChangeAt Go.RowKit
open Go.ChangeMaps (open_string shut_string)
theorem own:ownKnob Tryz.prog.godebug=none:=by kernel_rfl
theorem laidOut:laidOutB Tryz.prog=true:=by kernel_rfl
theorem lifted(os:Os)(started:os.Started)(H:Type)(enc:TypeId×Value->H):
  ReturnsInHanded {} Tryz.checked os 4 .any (fun w args=>(Rows.finderEvenSpec.pre enc Tryz.prog Tryz.f4 [] false w args/\laidMetH Tryz.prog Rows.finderEvenRow.laid w)/\sizedMet enc Tryz.prog Tryz.f4 (OpenSpec.ofChange Rows.finderEvenSpec) false w args)
   (Rows.finderEvenSpec.post enc Tryz.prog Tryz.f4 false true false false):=by
 refine returnsInHanded_of_calls own started (by kernel_rfl)
  (ChangeSpec.witness_shaped (enc:=enc) (C:=Tryz.checked) (os:=os) (X:=fun w _=>laidMetH Tryz.prog Rows.finderEvenRow.laid w) false (start os) #[.slice none 0 0,.slice none 0 0,.string ⟨#[]⟩] 8 (start_os os) (start_shaped os) (by kernel_rfl) (by kernel_rfl) (by kernel_rfl) (door_met os _)) ?_
 intro wd tape inp _ hsh _ hok hpre _
 obtain⟨_,_,_,fn',hfn',_,_,_,_,hval0⟩:=hok
 obtain rfl:fn'=Tryz.f4:=Option.some.inj (hfn'.symm.trans Tryz.func4)
 obtain⟨⟨⟨ds,gs,before,hw0,_⟩,hL0⟩,_⟩:=hpre
 have hW:=DataW.Whole.of_heap (w':=wd.forCall tape inp) (by rfl) hw0
 have hL:laidMetH Tryz.prog Rows.finderEvenRow.laid (wd.forCall tape inp):=laidMetH.of_heap (by rfl) hL0
 generalize hargs:inp.args=args at*
 generalize hWW:wd.forCall tape inp=W at*
 suffices hs:Calls Tryz.prog 4 args W fun e W'=>∃v,e=.returned v/\Rows.finderEvenSpec.post enc Tryz.prog Tryz.f4 false true false false W args v W' by
  refine hs.mono fun e W' ⟨v,he,hp⟩=>?_
  subst he
  exact ChangeSpec.post_blind hp
 have hval:∀(j:Nat) t v,Tryz.f4.params[j]?=some t->args[j]?=some v->Value.okWide Tryz.prog W .any _ t v:=hval0
 have hW':=hW
 obtain⟨p,q,hA0,hV,rfl,hfz,hnd⟩:=hW
 have hA:DataW.TrodAll enc Tryz.prog W 0 (fun _=>true) true Tryz.f4.params.toList args.toList ds p:=hA0
 rw[Tryz.params4]at hA hval
 obtain⟨v0,vs0,d0,ds0,p0,q0,hargs0,rfl,rfl,h0,r0⟩:=trodAll_cons hA
 obtain⟨v1,vs1,d1,ds1,p1,q1,rfl,rfl,rfl,h1,r1⟩:=trodAll_cons r0
 obtain⟨v2,vs2,d2,ds2,p2,q2,rfl,rfl,rfl,h2,r2⟩:=trodAll_cons r1
 obtain⟨rfl,rfl,rfl⟩:=trodAll_nil r2
 obtain rfl:args=#[v0,v1,v2]:=by cases args;simp_all
 obtain⟨rfl,rfl⟩:=trodVars_none hV
 obtain⟨a0,len0,cap0,rfl⟩:=okWide_slice Tryz.underlying22 (hval 0 22 v0 rfl rfl)
 obtain⟨a1,len1,cap1,rfl⟩:=okWide_slice Tryz.underlying49 (hval 1 49 v1 rfl rfl)
 obtain⟨s,rfl,rfl,rfl,hs⟩:=open_string Tryz.underlying9 (hval 2 9 v2 rfl rfl) h2
 have k0:=h0
 have k1:=h1
 have lt0:∀x∈p0,x.block<W.heap.size:=by obtain⟨m,hm⟩:=k0;exact DataW.trod_lt m _ _ _ hm
 have lt1:∀x∈p1,x.block<W.heap.size:=by obtain⟨m,hm⟩:=k1;exact DataW.trod_lt m _ _ _ hm
 obtain⟨f0,hf0⟩:=h0
 obtain⟨f1,hf1⟩:=h1
 obtain⟨ns,hl1,hm1,hc1⟩:=open_nums hf1
 obtain⟨xs,hl0,hm0,hc0,hr0⟩:=open_txts hf0
 subst hl0 hl1
 obtain⟨hF,hE⟩:=ends_err hL
 clear hA0 hval0
 simp only[List.append_nil]at hW'
 refine(Ev.finderEven_walk xs a0 cap0 ns a1 cap1 s hm0 hm1 hs W hc0 hr0 hc1 hF hE (Tryz.laysM145.s1_3 W hsh)).mono fun e W' ⟨he,bel⟩=>?_
 subst he
 exact⟨_,rfl,_,_,_,[],_,[],hW',trodAll_mk1 (shut_bool Tryz.underlying4 _),(trodAll_cons_mk (Below.trod laidOut (by kernel_rfl) (of_decide_eq_true (by kernel_rfl)) k0 bel lt0) (trodAll_cons_mk (Below.trod laidOut (by kernel_rfl) (of_decide_eq_true (by kernel_rfl)) k1 bel lt1) (trodAll_mk1 (shut_string Tryz.underlying9 hs)))),rfl,Below.frame bel _,fun h=>by cases h⟩
theorem row_holds:Rows.FinderEvenSaid:=
 OpenClaim.holds_of_wide 4 Tryz.f4 rfl rfl rfl rfl rfl rfl rfl ⟨rfl,rfl,rfl,rfl,rfl⟩ rfl rfl rfl rfl rfl (by as_aux_lemma=>kernel_rfl) Tryz.func4 joined
  (of_decide_eq_true (by as_aux_lemma=>kernel_rfl)) (by as_aux_lemma=>unfold Func.isWrapper;first|(rw[if_pos (by decide+kernel)];kernel_rfl)|(rw[if_neg (by decide+kernel)];exact⟨rfl,rfl⟩))
  (fun os started H enc _=>lifted os started H enc)
theorem proved:Rows.FinderEvenCardSaid:=
 Claim7.holds_tied_plain_at .later [] [.handle,.data] true Rows.finderEvenCard.stood.harness true
  row_holds (fun _ h=>by cases h) (by kernel_rfl) (fun _ h=>by cases h) finderEven_row_tie rfl ⟨rfl,rfl⟩ (by kernel_rfl) rfl
  (fun f fn hf hfn=>by
   obtain rfl:f=4:=Option.some.inj ((show Tryz.prog.funcNamed Rows.finderEvenRow.func=some 4 by kernel_rfl).symm.trans hf)|>.symm
   obtain rfl:fn=Tryz.f4:=(Option.some.inj (Tryz.func4.symm.trans hfn)).symm
   exact⟨by kernel_rfl,fun j t ht=>by
    rw[Tryz.params4]at ht
    have hm:t∈[22,49,9]:=by simpa using Array.mem_of_getElem? ht
    have hall:([22,49,9].all fun u=>!Tryz.prog.wantsStandIn u)=true:=by kernel_rfl
    exact(show Tryz.prog.wantsStandIn t=false by simpa using List.all_eq_true.1 hall t hm)⟩)
  (by kernel_rfl)
end Go.Proofs.YtldmhjbdahjhdaaGreatDoor.finderEvenDone
