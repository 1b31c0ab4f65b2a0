/-
  Part 10 of the proof.
-/
import Derived.Test.YtldmhjbdahjhdaaGreatDoorZa9
open Go.Proofs.Tryz
open Go.Lib renaming hid->ae,idxByFrom->bC,idxBy->dr,compact->ez,keeps->fA
open Nat renaming le_refl->ak,lt_of_lt_of_le->bv,le_trans->bz,zero_le->bM,mod_two_eq_zero_or_one->bX,eq_zero_or_pos->cD,zero_add->cO,mul_le_mul->dT
open Go renaming World->ap,Value->aJ,Calls->aV,bodyPost_ret->de,results_none->dg
open Go.World renaming cell?_alloc_new->az,ownsRow_nil->bA
open List renaming take_succ_eq_append_getElem->aQ,take_length->aS,length_take->be,length_filter_le->bj,length_map->bu,map_append->bQ,replicate->bT,length_append->bW,getElem?_eq_getElem->b_,mergeSort_perm->co,length_set->dJ
open Go.IntKind renaming i64->aU
open Go.Sort renaming partialInsertionSort->aX,scanDown->bP,reverseLoop->ch,scanUp->cj,choosePivot->cl,ahead->cF,insertionSort->cK,reverseRange->cW,putRow->dh,fixUp->dF,scanSorted->dU,grow->eh,heapBuild->ej,sd_left_stop->en,fixDown->es,siftDown->eT,heapSort->eV,sd_left_go->fe,partEqLoop->fl,Holds->fI
open Go.Value renaming int->bc
open Option.some renaming inj->bh
open Go.World.ownsRow renaming alloc->bt,cells->eY
open Go.Proofs renaming scanDown_end->bB,order2_swaps'->bF,scanUp_end->bZ,order2_lt'->cg,scanDown_go->dD,scanSorted_stop->dQ,shiftDown_stop->dZ,insInner_stop->ea,part_scans_lt->eb,scanUp_go->ek,shiftUp_stop->ew,insOuter_go->eH
open Go.Calls renaming mono->cf
open Prod.mk renaming injEq->cs
open List.Pairwise renaming nil->cL
open Go.Exit renaming inBlock->da
open Go.Proofs.Tryz renaming sizeOf104->di,underlying49->el,isAgg104->eA,ntmps111->eB,func111->fn,func151->fy
open Bool renaming and_eq_true->dA
open List.Perm renaming refl->dS
open Go.Proofs.GuardAt renaming agg->fK
set_option maxRecDepth 100000
set_option maxHeartbeats 100000000
set_option linter.all false
namespace Go.Proofs.YtldmhjbdahjhdaaGreatDoor
section
open Go Go.RowKit Go.Shelf Go.Lib Go.Sort
theorem zK(b:List Int):ez b=aq b:=by
 have y:∀m,m<=b.length->Lib.compactUpTo b.toArray m=aq (b.take m):=by
  intro m
  induction m with
  |zero=>intro _;rfl
  |succ m D=>
   intro G;rw[Lib.compactUpTo_succ,D (by omega)];have I:∀j,j<b.length->b.toArray[j]! =b.getD j 0:=fun j H=>by simp[List.getD_eq_getElem?_getD,H]
   rcases cD m with rfl|z
   ·have:fA b.toArray 0=true:=by simp[fA]
    rw[this,if_pos rfl]
    match b,G with
    |a::t,_=>simp[aq]
   rw[jq b m z (by omega)];have s:b.toArray[m]! =b[m]:=by simp[show m<b.length by omega]
   have B:b.toArray[m-1]! =b[m-1]'(by omega):=by simp[show m-1<b.length by omega]
   by_cases q:b[m]=b[m-1]'(by omega)
   ·rw[if_pos q,Lib.keeps_neg z (by rw[s,B];exact q)];simp
   rw[if_neg q,Lib.keeps_pos (by rw[s,B];exact q),if_pos rfl,s]
 unfold ez;rw[y _ (ak _),aS]
def ll(a0 w:ap)(v:aJ)(b:List Int):Prop:=(v=.slice none 0 0/\b=[])\/∃B cap,v=.slice (some ⟨B,0,none⟩) b.length cap/\b.length<=cap/\a0.heap.size<=B/\B<w.heap.size/\fI (bc .i64) w B 0 b.toArray
theorem ll.back{a0 b w:ap}{v:aJ}{q:List Int}(h:ll b w v q)(g:Gr a0 b):ll a0 w v q:=by
 rcases h with h|⟨B,cap,s,y,z,D,G⟩
 ·exact .inl h
 exact .inr ⟨B,cap,s,y,bz g.size z,D,G⟩
theorem ll.form{a0 w:ap}{v:aJ}{b:List Int}(h:ll a0 w v b):∃q c,v=.slice q b.length c:=by
 rcases h with⟨rfl,rfl⟩|⟨B,cap,rfl,_⟩
 ·exact⟨none,0,rfl⟩
 exact⟨_,cap,rfl⟩
def lm(a0 w:ap)(v:aJ)(b:List Int):Prop:=w.ownsRow a0.heap.size 3 1 v b.length (b.map (bc .i64))
theorem lm.own{a0 w:ap}{v:aJ}{b:List Int}(h:lm a0 w v b):ll a0 w v b:=by
 have hc:=fun g B=>eY (g:=g) h B;rcases h.2 with⟨rfl,D⟩|⟨g,cap,I,rfl,G,y,s,_⟩
 ·exact .inl ⟨rfl,List.eq_nil_of_length_eq_zero D⟩
 refine .inr ⟨g,cap,rfl,s,G,(Array.getElem?_eq_some_iff.1 y).1,fun j H=>?_⟩;have q:j<b.length:=by simpa using H
 have z:=hc g rfl j (.int .i64 b[j]) (by simp[q]);have e:(⟨g,0,none⟩:Addr).add j=⟨g,0+j,none⟩:=by
  unfold Addr.add;split<;>simp_all
 rw[e]at z;refine⟨?_,Lib.frozen_of_heap y _⟩;rw[z];simp[q]
theorem yu(s:List Int):kG aG (s.mergeSort fun x y=>decide (x<=y)):=by
 have h:=List.pairwise_mergeSort (le:=fun x y:Int=>decide (x<=y)) (by
  intro a b c z B;simp only[decide_eq_true_eq]at*;omega) (by
  intro a b;simp only[Bool.or_eq_true,decide_eq_true_eq];omega) s
 exact h.imp fun{x y} q=>by
  simp only[decide_eq_true_eq]at q;simp only[aG,decide_eq_false_iff_not];omega
theorem xj(w:ap)(b q:Nat)(d:Array Int)(k:Nat)(h:k≠b):(dh (bc .i64) w b q d).heap[k]?=w.heap[k]?:=by
 unfold dh mapBlock;simp[Array.getElem?_modify,Ne.symm h]
theorem size_putRow(w:ap)(b q:Nat)(d:Array Int):(dh (bc .i64) w b q d).heap.size=w.heap.size:=by
 unfold dh mapBlock;simp
theorem zL(w:ap)(B n:Nat)(q b:List Int)(os:Array Obj)(h:fI (bc .i64) w B 0 q.toArray)(y:B<w.heap.size)(z:b.length=q.length):
  fI (bc .i64) (eh (dh (bc .i64) (cF w n) B 0 b.toArray) os) B 0 b.toArray/\ag (fun i=>i=B) w (eh (dh (bc .i64) (cF w n) B 0 b.toArray) os):=by
 have hs:(dh (bc .i64) (cF w n) B 0 b.toArray).heap.size=w.heap.size:=by
  rw[size_putRow]
  rfl
 refine⟨?_,rfl,rfl,rfl,?_,fun k D s=>?_⟩
 ·have G:=holds_putRow (bc .i64) (cF w n) B 0 q.toArray b.toArray (holds_ahead _ _ n _ _ _ h) (by simp[z]);exact holds_grow _ _ os B 0 _ (by rw[hs];exact y) G
 ·simp only[eh,Array.size_append];omega
 rw[heap_grow_old _ os (by rw[hs];exact D),xj _ _ _ _ _ s]
 rfl
theorem DE(a0 w:ap)(v:aJ)(b:List Int)(h:ll a0 w v b)(G:Gr a0 w)(O:b.length<=1000000):
  aV prog 127 #[v] w fun e q=>e=.returned (.tuple #[])/\∃z:List Int,z.Perm b/\kG aG z/\ll a0 q v z/\Gr a0 q:=by
 rcases h with⟨rfl,rfl⟩|⟨B,cap,rfl,J,H,D,I⟩
 ·refine(Tryz.slices_Sort_int_none none 0 w).mono ?_;rintro e q ⟨rfl,rfl⟩;exact⟨rfl,[],dS _,cL,.inl ⟨rfl,rfl⟩,G⟩
 refine(Tryz.slices_Sort_int B 0 cap b w I D (by omega)).mono ?_;rintro e q ⟨rfl,n,L,rfl⟩;have s:=co b (fun x y=>decide (x<=y));obtain⟨r1,r2⟩:=zL w B n b _ L I D s.length_eq;exact⟨rfl,_,s,yu b,.inr ⟨B,cap,by rw[s.length_eq],by rw[s.length_eq];exact J,H,bv D r2.2.2.2.1,r1⟩,r2.gr G (fun k M=>by rw[M];exact H)⟩
theorem NZ(a0 w:ap)(v:aJ)(b:List Int)(h:ll a0 w v b)(G:Gr a0 w)(O:b.length<=1000000):
  aV prog 167 #[v] w fun e q=>e=.returned (.tuple #[])/\∃z:List Int,z.Perm b/\kG aG z/\ll a0 q v z/\Gr a0 q:=by
 rcases h with⟨rfl,rfl⟩|⟨B,cap,rfl,J,H,D,I⟩
 ·refine(Tryz.sort_Ints_none none 0 w).mono ?_;rintro e q ⟨rfl,rfl⟩;exact⟨rfl,[],dS _,cL,.inl ⟨rfl,rfl⟩,G⟩
 refine(Tryz.sort_Ints B 0 cap b w I D (by omega)).mono ?_;rintro e q ⟨rfl,n,L,rfl⟩;have s:=co b (fun x y=>decide (x<=y));obtain⟨r1,r2⟩:=zL w B n b _ L I D s.length_eq;exact⟨rfl,_,s,yu b,.inr ⟨B,cap,by rw[s.length_eq],by rw[s.length_eq];exact J,H,bv D r2.2.2.2.1,r1⟩,r2.gr G (fun k M=>by rw[M];exact H)⟩
theorem wh(a0 w:ap)(v:aJ)(b:List Int)(h:ll a0 w v b)(z:Gr a0 w)(O:b.length<=1000000):
  aV prog 128 #[v] w fun e q=>∃D,e=.returned D/\ll a0 q D (aq b)/\Gr a0 q:=by
 rcases h with⟨rfl,rfl⟩|⟨B,cap,rfl,G,H,I,J⟩
 ·refine(Tryz.slices_Compact_int_empty none 0 w).mono ?_;rintro e q ⟨rfl,rfl⟩;exact⟨_,rfl,.inl ⟨rfl,rfl⟩,z⟩
 refine(Tryz.slices_Compact_int B 0 cap b w J (by omega) G).mono ?_;rintro e q ⟨rfl,n,rfl⟩;rw[zK];have y:=ig b;obtain⟨r1,r2⟩:=zL w B n b (aq b++bT (b.length-(aq b).length) 0) #[] J I (by simp;omega);rw[grow_empty]at r1 r2;refine⟨_,rfl,.inr ⟨B,cap,rfl,bz y G,H,bv I r2.2.2.2.1,fun j L=>?_⟩,r2.gr z (fun k M=>by rw[M];exact H)⟩;have s:j<(aq b).length:=by simpa using L
 have:=r1 j (by simp;omega);refine⟨this.1.trans ?_,this.2⟩;simp[s,show j<(aq b).length+(b.length-(aq b).length)by omega,List.getElem_append_left s]
theorem GQ:(prog.info? 3).map (fun i=>(i.zero,i.size,i.bytes))=some (some (.int .i64 0),1,8):=by kernel_rfl
theorem DF{a0 w:ap}{v:aJ}{b:List Int}{x:Int}(h:w.ownsRow a0.heap.size 3 1 v (b.length+1) (b.map (bc .i64)++[.int .i64 x])):lm a0 w v (b++[x]):=by
 unfold lm;rw[bW,bQ];exact h
theorem qD{a0 w:ap}{y:Array Oper}{rest:List Oper}{o:Oper}{a:Act}{Q:Exit->Act->ap->Prop}(H:o.guard=none)(s x:Operand)
  (S:o.op=.call {callee:=.builtin .append,args:=#[s,x],argTypes:=#[49,49]}) (v:aJ) (q:List Int) (n:Int) (hs:a.eval s=v) (D:lm a0 w v q) (B:Nat) (U:B=w.heap.size) (V:a.eval x=.slice (some ⟨B,0,none⟩) 1 1) (hl:q.length<=1000000) (Y:Gr a0 w)
  (h:∀z w',lm a0 w' z (q++[n])->Gr a0 w'->wpList prog y Q rest (a.put o.dst z) w'):wpList prog y Q (o::rest) a (w.alloc (.cells #[.int .i64 n] 3)):=by
 obtain⟨b,G,M⟩:∃b,prog.info? 3=some b/\(b.zero,b.size,b.bytes)=(some (.int .i64 0),1,8):=by
  have h:=GQ;cases O:prog.info? 3 with
  |none=>rw[O]at h;cases h
  |some b=>rw[O]at h;exact⟨b,rfl,bh h⟩
 subst U;simp only[cs]at M;obtain⟨I,J,L⟩:=M;exact bK (a0:=a0) H s x 49 S 3 b (.int .i64 0) 1 8 el G I J L rfl (by decide) v q.length (q.map (bc .i64)) hs D [.int .i64 n] rfl (by intro u hu;simp at hu;rw[hu];rfl) V Y (by omega) (by omega) (fun z w' Z h2=>h z w' (DF Z) h2)
theorem VC(xs:List aa)(v:aJ)(w:ap)(M:kT w v xs)(hl:xs.length<=1000000):
  aV prog 73 #[v] w fun e J=>∃v',e=.returned v'/\ll w J v' (setOf aG (xs.map (·.1)))/\Gr w J:=by
 have HX:=ae M;obtain⟨ao,ca,rfl⟩:=M.form;clear M;go_enter func73,ntmps73;go_wp2_with fail
 go_loopw [3,8] (fun kv S J=>∃i:Nat,i<=xs.length/\S=.int .i64 i/\lm w J kv ((xs.take i).map (·.1))/\Gr w J) (fun _ S _=>xs.length-(intOf S).toNat)
 case atStart=>exact⟨0,bM _,rfl,bA _ _ _ _,Gr.refl _⟩
 case round=>
  obtain⟨i,hi,rfl,O,B⟩:=hrel;have U:=ae O;have HG:=ae B;by_cases q:i<xs.length
  ·obtain⟨b,s,rfl,hb,z⟩:∃b s,ao=some ⟨b,s,none⟩/\b<w.heap.size/\cq w b s xs:=by
    rcases HX.out with⟨_,e2⟩|⟨b,s,c,e,hb,z⟩
    ·rw[e2]at q;exact absurd q (by simp)
    cases e;exact⟨b,s,rfl,hb,z⟩
   have c9:(i:Int)<(xs.length:Int):=by omega
   have c1:=B.keeps (z i q).1;have c2:=B.keeps (z i q).2;have D:(xs.take (i+1)).map (·.1)=(xs.take i).map (·.1)++[xs[i].1]:=by
    rw[aQ q,bQ]
    rfl
   generalize M:xs[i]=x at*;obtain⟨V,x2⟩:=x;simp only at c1 c2 D;have HN:=ae D;have Z:((xs.take i).map (·.1)).length<=1000000:=by
    rw[bu,be];omega
   have a1:=ae (B.alloc (.cells #[.int .i64 V,.int .i64 x2] 104));have y:lm w (wr.alloc (.cells #[.int .i64 V,.int .i64 x2] 104)) u3 ((xs.take i).map (·.1)):=bt O _;have G:=ae y;clear y;clear O B D;go_wp2_with(at_builtin;refine qD (a0:=w) rfl _ _ rfl u3 _ V rfl G.out _ (by simp) rfl Z a1.out ?_;intro v3 w3 a2 a3)
   go_roundw
   case measure=>
    simp[intOf];omega
   case rel=>
    have a4:lm w w3 v3 ((xs.take (i+1)).map (·.1)):=by
     rw[HN.out];exact a2
    exact⟨i+1,by omega,by go_num,a4,a3⟩
  have a5:i=xs.length:=by omega
  subst a5;rw[aS]at U;obtain⟨L,Y⟩:∃L,Hid (L=xs.map (·.1)):=⟨_,ae rfl⟩;have H:ll w wr u3 L:=by
   rw[Y.out];exact U.out.own
  have Q:L.length<=1000000:=by
   rw[Y.out,bu];exact hl
  have a6:=ae H;obtain⟨uo,uc,rfl⟩:=H.form;clear O B H U;go_wp2_with fail
  refine(DE w wr _ L a6.out HG.out Q).mono ?_;rintro e w1 ⟨rfl,ys,z,hw,y,a7⟩;have G:=ae y;have HP:=ae z;have HW:=ae hw;clear y z hw;go_wp2_with fail
  refine(wh w w1 _ ys G.out a7 (by rw[HP.out.length_eq];exact Q)).mono ?_;rintro e w2 ⟨v2,rfl,I,a8⟩;have hs:aq ys=setOf aG (xs.map (·.1)):=lG kR HW.out (fun x=>by rw[<-Y.out];exact HP.out.mem_iff);rw[hs]at I;have a9:=ae I;have HS:=ae hs;clear I hs;go_wp2_with fail
  go_ret;exact⟨_,rfl,a9.out,a8⟩
theorem Rv(a0 w:ap)(v:aJ)(M:List Int)(h:ll a0 w v M)(hg:Gr a0 w)(hl:M.length<=1000000):
  aV prog 110 #[v] w fun e Y=>∃v',e=.returned v'/\ll a0 Y v' (setOf aG M)/\Gr a0 Y:=by
 have H:=ae h;obtain⟨ao,ca,rfl⟩:=h.form;clear h;go_enter func110,ntmps110;go_wp2_with fail
 refine(NZ a0 w _ _ H.out hg hl).mono ?_;rintro e O ⟨rfl,q,G,hw,L,Z⟩;have a4:=G.length_eq;generalize hN:M.length=N at*;subst a4;have HP:=ae G;have HW:=ae hw;have HO:=ae L;clear G hw L H;go_wp2_with fail
 go_loopw [3,10] (fun kv iv Y=>∃i:Nat,i<=q.length/\iv=.int .i64 i/\lm O Y kv (aq (q.take i))/\Gr O Y) (fun _ iv _=>q.length-(intOf iv).toNat)
 case atStart=>exact⟨0,bM _,rfl,bA _ _ _ _,Gr.refl _⟩
 case round=>
  obtain⟨i,hi,rfl,L,B⟩:=hrel;have D:=ae L;have Q:=ae B;by_cases I:i<q.length
  ·obtain⟨b,rfl,hb,G⟩:∃b,ao=some ⟨b,0,none⟩/\b<O.heap.size/\fI (bc .i64) O b 0 q.toArray:=by
    rcases HO.out with⟨_,e2⟩|⟨b,c,e,_,_,hb,G⟩
    ·rw[e2]at I;exact absurd I (by simp)
    cases e;exact⟨b,rfl,hb,G⟩
   have c7:(i:Int)<(q.length:Int):=by omega
   have s:∀j (hj:j<q.length),wr.cell? ⟨b,j,none⟩=some (.int .i64 q[j]):=fun j hj=>by
    have:=B.keeps (G j (by simpa using hj)).1;rw[cO]at this;simpa[hj]using this
   have c1:=s i I;have a1:(aq (q.take i)).length<=1000000:=by
    have:=ig (q.take i);rw[be]at this;omega
   rcases cD i with rfl|b4
   ·have z:aq (q.take (0+1))=aq (q.take 0)++[q[0]]:=by
     rw[aQ I]
     rfl
    generalize hx:q[0]=x at*;have HN:=ae z;clear L B z s G;go_wp2_with(at_builtin;refine qD (a0:=O) rfl _ _ rfl u3 _ x rfl D.out _ (by simp) rfl a1 Q.out ?_;intro v3 w3 S U)
    exact⟨⟨1,by omega,by go_num,by rw[show(1:Nat)=0+1 from rfl,HN.out];exact S,U⟩,by simp[intOf];omega⟩
   obtain⟨m,rfl⟩:∃m,i=m+1:=⟨i-1,by omega⟩;have c0:=s m (by omega);have z:=jq q (m+1) (by omega) I;simp only[Nat.add_sub_cancel]at z;have c8:(m:Int)<(q.length:Int):=by omega
   generalize hx:q[m+1]=x at*;generalize hy:q[m]'(by omega)=y at*;by_cases he:x=y
   ·have J:=z.trans (if_pos he);subst he;have HN:=ae J;clear L B z J s G hx hy;go_wp2_with fail
    exact⟨⟨m+2,by omega,by go_num,by rw[show m+2=m+1+1 from rfl,HN.out];exact D.out,Q.out⟩,by simp[intOf];omega⟩
   have J:=z.trans (if_neg he);have HN:=ae J;have c9:¬y=x:=fun e=>he e.symm;clear L B z J s G hx hy;go_wp2_with(at_builtin;refine qD (a0:=O) rfl _ _ rfl u3 _ x rfl D.out _ (by simp) rfl a1 Q.out ?_;intro v3 w3 S U)
   exact⟨⟨m+2,by omega,by go_num,by rw[show m+2=m+1+1 from rfl,HN.out];exact S,U⟩,by simp[intOf];omega⟩
  have a8:i=q.length:=by omega
  subst a8;rw[aS]at D;have hs:aq q=setOf aG M:=lG kR HW.out (fun x=>HP.out.mem_iff);rw[hs]at D;have HS:=ae hs;have a3:=ae (D.out.own.back Z);have a9:=ae (Z.trans B);obtain⟨uo,uc,rfl⟩:=a3.out.form;clear L B hs;obtain⟨n3,V⟩:∃n,n=(setOf aG M).length:=⟨_,rfl⟩;have b0:=ae V;rw[<-V];clear V;go_wp2_with fail
  go_ret;refine⟨_,rfl,?_,a9.out⟩;have:=a3.out;rw[<-b0.out]at this;exact this
theorem TX(xs:List aa)(v:aJ)(w:ap)(h:kT w v xs)(Q:xs.length<=1000000):
  aV prog 112 #[v] w fun e s=>∃y,e=.returned y/\dP w s y xs/\Gr w s:=by
 obtain⟨q,hi,H⟩:∃q,prog.info? 104=some q/\(q.zero,q.size,q.bytes)=(some (.agg #[.int .i64 0,.int .i64 0]),2,16):=by
  have h:=lj;cases I:prog.info? 104 with
  |none=>rw[I]at h;cases h
  |some q=>rw[I]at h;exact⟨q,rfl,bh h⟩
 simp only[cs]at H;obtain⟨z,B,D⟩:=H;rcases h with⟨rfl,rfl⟩|⟨b,G,c,rfl,S,J⟩
 ·refine cf (AnyE.slices_Clone_nil Tryz.xE 0 0 w) ?_;rintro e s ⟨rfl,rfl⟩;exact⟨_,rfl,.inl ⟨rfl,rfl⟩,Gr.refl _⟩
 refine cf (AnyE.slices_Clone Tryz.xE q (.agg #[.int .i64 0,.int .i64 0]) 2 16 hi z B D rfl (by decide) di b G xs.length c (dp xs) w (lk xs) (by unfold maxLen;omega) (by omega) (fun j u L=>by
  have:=J.cells j u L;rwa [Addr.add_lit]at this) (AQ xs)) ?_
 rintro e s ⟨y,rfl,M,_,O⟩;exact⟨y,rfl,ci.own M,O⟩
theorem sI{w:ap}{b q:Nat}{xs:List aa}(h:cq w b q xs):∀j,j<xs.length->∀i v,(ju xs[j]!)[i]?=some v->w.cell? ⟨b,q+j*2+i,none⟩=some v:=by
 intro j s i v hi;have y:=h j s;have z:xs[j]! =xs[j]:=by simp[s]
 rw[z]at hi
 match i,hi with
 |0,hi=>
  have:=bh hi;rw[<-this];exact y.1
 |1,hi=>
  have:=bh hi;rw[<-this];exact y.2
 |i+2,hi=>simp[ju]at hi
theorem xk(w:ap)(b:aJ):
  aV prog 85 #[.slice none 0 0,b] w (ar w (.int .i64 (-1))):=by
 go_enter func85,ntmps85;go_wp2_with fail
 go_loop [8] (fun i=>i=.int .i64 0) (fun _=>1)
 case atStart=>rfl
 case round=>
  subst hrel;go_wp2_with fail
  go_ret;exact ar.mk rfl (Gr.refl _)
theorem Ly(xs:List aa)(v:aJ)(g:Nat)(lb:Array aJ)(q:aa->Bool)(w:ap)(h:kT w v xs)(L:xs.length<=1000000)(B:∀args w,(callFunc g args).run prog w=.ok (.enter g args) w)
  (D:∀(W:ap) (x:aa),Gr w W->aV prog g (#[x.val]++lb) W (ar W (.bool (q x)))):
  aV prog 85 #[v,.func (.func g) #[] lb] w (ar w (.int .i64 (dr (fun _ y=>q y) xs default))):=by
 rcases h with⟨rfl,rfl⟩|⟨b,s,c,rfl,G,H⟩
 ·exact xk w _
 refine cf (AnyQ.slices_IndexFunc Tryz.Br 2 eA di ju (fun _=>rfl) q g lb B b s xs.length c xs w (fun W x z=>(D W x z).mono fun e I h=>⟨h.1,Gr.trans z h.2⟩) (ak _) (by omega) G (sI H)) ?_;rintro e I ⟨rfl,J⟩;rw[aS];exact ar.mk rfl J
theorem LA(w:ap)(x:aa):
  aV prog 214 #[.slice none 0 0,x.val] w (ar w (.int .i64 (-1))):=by
 unfold aa.val;go_enter func214,ntmps214;go_wp2_with fail
 go_loop [8] (fun i=>i=.int .i64 0) (fun _=>1)
 case atStart=>rfl
 case round=>
  subst hrel;go_wp2_with fail
  go_ret;exact ar.mk rfl ((by repeat(first|exact Gr.refl _|refine Gr.alloc ?_ _|refine Gr.drew ?_)))
theorem contains_nil(w:ap)(x:aa):
  aV prog 153 #[.slice none 0 0,x.val] w (ar w (.bool false)):=by
 have b:=fun W=>LA W x;unfold aa.val at*;go_enter func153,ntmps153;go_wp2_with fail
 refine(b _).mono ?_;rintro e s ⟨rfl,q⟩;go_wp2_with fail
 go_ret;refine ar.mk (by first|rfl|simp) ?_;refine Gr.trans ?_ q
 repeat(first|exact Gr.refl _|refine Gr.alloc ?_ _|refine Gr.drew ?_)
theorem DG(w:ap)(q:aJ):
  aV prog 42 #[.slice none 0 0,q] w (ar w (.bool false)):=by
 have b:=fun W=>xk W q;go_enter func42,ntmps42;go_wp2_with fail
 refine(b _).mono ?_;rintro e y ⟨rfl,s⟩;go_wp2_with fail
 go_ret;refine ar.mk (by first|rfl|simp) ?_;refine Gr.trans ?_ s
 repeat(first|exact Gr.refl _|refine Gr.alloc ?_ _|refine Gr.drew ?_)
theorem LC(xs:List aa)(v:aJ)(x:aa)(w:ap)(h:kT w v xs)(H:xs.length<=1000000):
  aV prog 153 #[v,x.val] w (ar w (.bool (decide (x∈xs)))):=by
 rcases h with⟨rfl,rfl⟩|⟨b,s,c,rfl,I,q⟩
 ·simpa using contains_nil w x
 refine cf (AnyQ.slices_Contains Tryz.Cd 2 eA di ju (fun _=>rfl) (fun a b=>a.1==b.1&&a.2==b.2) ?_ b s xs.length c xs x w (ak _) (by omega) (sI q)) ?_
 ·refine⟨fun x y W=>?_,fK (fun x=>(ju x).toArray) (by kernel_rfl)⟩;have h:=gD x.1 x.2 y.1 y.2 W;rw[run_eql_struct];show Result.andThen ((Op.equalIn 10000 104 (.agg #[.int .i64 x.1,.int .i64 x.2]) (.agg #[.int .i64 y.1,.int .i64 y.2])).run prog W) _=_;rw[h]
  rfl
 rintro e J ⟨rfl,z⟩;rw[aS];refine ar.mk ?_ z
 congr 1
 rw[Bool.eq_iff_iff];simp only[List.any_eq_true,decide_eq_true_eq,dA,beq_iff_eq]
 constructor
 ·rintro⟨y,B,D,G⟩;have:x=y:=Prod.ext D G;rw[this];exact B
 intro q;exact⟨x,q,rfl,rfl⟩
theorem yv(xs:List aa)(v:aJ)(g:Nat)(lb:Array aJ)(q:aa->Bool)(w:ap)(h:kT w v xs)(J:xs.length<=1000000)(z:∀args w,(callFunc g args).run prog w=.ok (.enter g args) w)
  (B:∀(W:ap) (x:aa),Gr w W->aV prog g (#[x.val]++lb) W (ar W (.bool (q x)))):
  aV prog 42 #[v,.func (.func g) #[] lb] w (ar w (.bool (xs.any q))):=by
 rcases h with⟨rfl,rfl⟩|⟨b,s,c,rfl,D,G⟩
 ·exact DG w _
 refine cf (AnyQ.slices_ContainsFunc Tryz.wu 2 eA di ju (fun _=>rfl) q g lb z b s xs.length c xs w (fun W x y=>(B W x y).mono fun e H h=>⟨h.1,Gr.trans y h.2⟩) (ak _) (by omega) D (sI G)) ?_;rintro e H ⟨rfl,I⟩;rw[aS];exact ar.mk rfl I
theorem DH(b:aa->Bool):∀(xs:List aa) (i:Nat),(bC (fun _ y=>b y) default xs i=-1/\xs.filter (fun x=>!b x)=xs)\/∃k,∃h:k<xs.length,bC (fun _ y=>b y) default xs i=((i+k:Nat):Int)/\b xs[k]=true/\(xs.take k).filter (fun x=>!b x)=xs.take k
 |[],i=>.inl ⟨rfl,rfl⟩
 |x::xs,i=>by
  by_cases s:b x=true
  ·exact .inr ⟨0,by simp,by simp[bC,s],by simpa using s,by simp⟩
  have q:b x=false:=by simpa using s
  rcases DH b xs (i+1)with⟨z,B⟩|⟨k,D,z,B,G⟩
  ·exact .inl ⟨by simp[bC,q,z],by simp[q,B]⟩
  refine .inr ⟨k+1,by simpa using D,?_,by simpa using B,by simp[q,G]⟩;simp only[bC,q,z];simp;omega
theorem lP{b:Type}(f:b->Bool)(l:List b)(k:Nat)(q:k<l.length):(l.take (k+1)).filter f=if f l[k]then(l.take k).filter f++[l[k]]else(l.take k).filter f:=by
 rw[aQ q,List.filter_append];by_cases h:f l[k]=true<;>simp[h]
theorem LD(a0 w:ap)(xs:List aa)(B cap g:Nat)(lb:Array aJ)(O:aa->Bool)(hl:xs.length<=1000000)(h4:xs.length<=cap)(h:jo w B xs)(hB:B<w.heap.size)(b6:a0.heap.size<=B)(hg:Gr a0 w)
  (eg:∀args w,(callFunc g args).run prog w=.ok (.enter g args) w) (hp:∀(W:ap) (x:aa),Gr a0 W->aV prog g (#[x.val]++lb) W (ar W (.bool (O x)))):
  aV prog 111 #[.slice (some ⟨B,0,none⟩) xs.length cap,.func (.func g) #[] lb] w fun e w'=>
   e=.returned (.slice (some ⟨B,0,none⟩) (xs.filter (fun x=>!O x)).length cap)/\jo w' B (xs.filter (fun x=>!O x))/\Gr a0 w'/\w.heap.size<=w'.heap.size:=by
 have a5:=Ly xs (.slice (some ⟨B,0,none⟩) xs.length cap) g lb O w (.inr ⟨B,0,cap,rfl,hB,fun i hi=>by
  have:=h i hi;rw[cO];exact⟨this.1.1,this.2.1⟩⟩) hl eg (fun W x hW=>hp W x (hg.trans hW))
 have H:=ae h;have HP:=ae hp;have HG:=ae hg;clear h hp hg;rcases DH O xs 0 with⟨e1,e2⟩|⟨k,hk,e1,e2,e3⟩
 ·have a6:dr (fun _ y=>O y) xs default=-1:=e1;rw[a6]at a5;rw[e2];go_enter fn,eB;go_wp2_with fail
  refine a5.mono ?_;rintro e w1 ⟨rfl,M⟩;go_wp2_with fail
  go_ret;exact⟨rfl,H.out.gr M hB,HG.out.trans M,M.size⟩
 have a6:dr (fun _ y=>O y) xs default=(k:Int):=by
  have:dr (fun _ y=>O y) xs default=((0+k:Nat):Int):=e1;rwa [cO]at this
 rw[a6]at a5;have h5:¬(k:Int)=-1:=by omega
 have E2:=ae e2;have E3:=ae e3;clear e1 a6 e2 e3;go_enter fn,eB;go_wp2_with fail
 refine a5.mono ?_;rintro e w1 ⟨rfl,M⟩;have e9:=ae (H.out.gr M hB);have g0:=M.size;have g3:=ae (HG.out.trans M);clear M;go_wp2_with fail
 go_loopw [5,6] (fun kv jv w'=>∃(q j:Nat) (b:List aa),k+1<=j/\j<=xs.length/\kv=.int .i64 q/\jv=.int .i64 j/\q<j/\b.length=xs.length/\(∀i,j<=i->b[i]?=xs[i]?)/\(xs.take j).filter (fun x=>!O x)=b.take q/\jo w' B b/\Gr a0 w'/\w.heap.size<=w'.heap.size) (fun _ jv _=>xs.length-(intOf jv).toNat)
 case atStart=>
  refine⟨k,k+1,xs,ak _,hk,rfl,by go_num,by omega,rfl,fun _ _=>rfl,?_,e9.out,g3.out,g0⟩;rw[lP _ _ _ hk,E2.out];exact E3.out
 case round=>
  obtain⟨q,j,b,i7,i9,rfl,rfl,j0,I,c7,c8,a9,c9,g4⟩:=hrel;have L:=ae a9;have d0:=ae c8;have s:=ae c7;have b7:=ae c9;have g5:B<wr.heap.size:=by omega
  clear a9 c8 c7 c9;by_cases d3:j<xs.length
  ·have j1:(j:Int)<(xs.length:Int):=by omega
   have d4:b[j]'(by omega)=xs[j]:=by
    have:=s.out j (ak _);rw[b_ (by omega),b_ d3]at this;exact bh this
   have hr:=L.out j (by omega);have d5:=L.out q (by omega);rw[d4]at hr;have b8:=lP (fun x=>!O x) xs j d3;rw[d0.out]at b8;have g6:=HP.out;generalize j2:xs[j]=x at*;obtain⟨U,V⟩:=x;have j3:(q:Int)<(xs.length:Int):=by omega
   have c1:=hr.1.1;have c2:=hr.2.1;simp only at c1 c2;have g7:=ae hr;have j4:=ae d5;have d6:=ae b8;clear hr d5 b8 d4;go_wp2_with fail
   refine(g6 (wr.alloc (.cells #[.int .i64 U,.int .i64 V] 104)) (U,V) (b7.out.alloc _)).mono ?_;rintro e w4 ⟨rfl,a7⟩;have d7:Gr wr (wr.alloc (.cells #[.int .i64 U,.int .i64 V] 104)):=(Gr.refl wr).alloc _;have b1:w4.cell? ⟨wr.heap.size,0,none⟩=some (.int .i64 U):=a7.keeps (by rw[az];rfl);have b2:w4.cell? ⟨wr.heap.size,1,none⟩=some (.int .i64 V):=a7.keeps (by rw[az];rfl);have Q:=d7.trans a7;have Y:=b7.out.trans Q;have J:=L.out.gr Q g5;have h6:=Q.size;clear c1 c2 g7 d7 a7;by_cases b9:O (U,V)=true
   ·have S:=d6.out;simp only[b9,Bool.not_true,Bool.false_eq_true,if_false]at S;rw[b9];have z:=ae S;have D:=ae J;have G:=ae Y;clear S J Y Q;go_wp2_with fail
    go_roundw
    case measure=>
     simp[intOf];omega
    case rel=>
     first|exact⟨_,_,_,_,_,_,_,_,_,_,_,_,_,_,_,_,_,_,_,_,_,_,_,⟨q,j+1,b,by omega,by omega,rfl,by go_num,by omega,I,fun i hi=>s.out i (by omega),z.out,D.out,G.out,by omega⟩,rfl⟩|exact⟨_,_,_,_,_,_,_,_,_,_,_,_,_,_,_,_,_,_,_,_,_,_,⟨q,j+1,b,by omega,by omega,rfl,by go_num,by omega,I,fun i hi=>s.out i (by omega),z.out,D.out,G.out,by omega⟩,rfl⟩|exact⟨_,_,_,_,_,_,_,_,_,_,_,_,_,_,_,_,_,_,_,_,_,⟨q,j+1,b,by omega,by omega,rfl,by go_num,by omega,I,fun i hi=>s.out i (by omega),z.out,D.out,G.out,by omega⟩,rfl⟩|exact⟨_,_,_,_,_,_,_,_,_,_,_,_,_,_,_,_,_,_,_,_,⟨q,j+1,b,by omega,by omega,rfl,by go_num,by omega,I,fun i hi=>s.out i (by omega),z.out,D.out,G.out,by omega⟩,rfl⟩|exact⟨_,_,_,_,_,_,_,_,_,_,_,_,_,_,_,_,_,_,_,⟨q,j+1,b,by omega,by omega,rfl,by go_num,by omega,I,fun i hi=>s.out i (by omega),z.out,D.out,G.out,by omega⟩,rfl⟩|exact⟨_,_,_,_,_,_,_,_,_,_,_,_,_,_,_,_,_,_,⟨q,j+1,b,by omega,by omega,rfl,by go_num,by omega,I,fun i hi=>s.out i (by omega),z.out,D.out,G.out,by omega⟩,rfl⟩|exact⟨_,_,_,_,_,_,_,_,_,_,_,_,_,_,_,_,_,⟨q,j+1,b,by omega,by omega,rfl,by go_num,by omega,I,fun i hi=>s.out i (by omega),z.out,D.out,G.out,by omega⟩,rfl⟩|exact⟨_,_,_,_,_,_,_,_,_,_,_,_,_,_,_,_,⟨q,j+1,b,by omega,by omega,rfl,by go_num,by omega,I,fun i hi=>s.out i (by omega),z.out,D.out,G.out,by omega⟩,rfl⟩|exact⟨_,_,_,_,_,_,_,_,_,_,_,_,_,_,_,_,_,_,_,_,_,_,_,_,⟨q,j+1,b,by omega,by omega,rfl,by go_num,by omega,I,fun i hi=>s.out i (by omega),z.out,D.out,G.out,by omega⟩,rfl⟩
   have b0:O (U,V)=false:=by simpa using b9
   have S:=d6.out;simp only[b0,Bool.not_false,if_true]at S;rw[b0];have a3:=J q (by omega);have d1:=a3.1.1;have d2:=a3.2.1;have z1:=a3.1.2;have z2:=a3.2.2;have z:=ae S;have D:=ae J;have G:=ae Y;clear S J Y Q a3;go_wp2_with fail
   go_roundw
   case measure=>
    simp[intOf];omega
   case rel=>
    have d9:∀i,j+1<=i->(b.set q (U,V))[i]?=xs[i]?:=fun i hi=>by
     rw[List.getElem?_set_ne (by omega)];exact s.out i (by omega)
    have e0:(xs.take (j+1)).filter (fun x=>!O x)=(b.set q (U,V)).take (q+1):=by
     rw[z.out,aQ (by rw[dJ];omega),List.take_set_of_le (ak q)];simp
    have c3:=D.out.set (i:=q) (by omega) U V;have e4:=(G.out.setCell (p:=⟨B,q*2,none⟩) b6 (.int .i64 U)).setCell (p:=⟨B,q*2+1,none⟩) b6 (.int .i64 V);exact⟨_,_,_,_,_,_,_,_,_,_,_,_,_,_,_,_,_,_,_,_,_,_,_,⟨q+1,j+1,b.set q (U,V),by omega,by omega,by go_num,by go_num,by omega,by rw[dJ];exact I,d9,e0,c3,e4,by simp;omega⟩,rfl⟩
  have h7:j=xs.length:=by omega
  have a4:=d0.out;rw[List.take_of_length_le (by omega)]at a4;have j5:q<xs.length:=by omega
  have j6:=qy wr 0 B (q*2) (xs.length-q) (cap-q) (by omega) (fun j hj=>by
   have Z:=L.out (q+j/2) (by omega);rcases bX j with e|e
   ·rw[show q*2+j=(q+j/2)*2 by omega,Z.1.1]
    rfl
   ·rw[show q*2+j=(q+j/2)*2+1 by omega,Z.2.1]
    rfl) (fun j hj=>by
   have Z:=L.out (q+j/2) (by omega);rcases bX j with e|e
   ·rw[show q*2+j=(q+j/2)*2 by omega,Z.1.2]
   rw[show q*2+j=(q+j/2)*2+1 by omega,Z.2.2])
  have HX:=ae a4;clear a4;go_wp2_with fail
  go_ret;have b3:(b.take q).length=q:=by
   rw[be];omega
  have b4:=World.cell?_setCells_out B (bT ((xs.length-q)*2) (.int .i64 0)) (q*2) wr;have b5:=World.frozen?_setCells B (bT ((xs.length-q)*2) (.int .i64 0)) (q*2) wr;have d8:ag (fun i=>i=B) wr (wr.setCells B (q*2) (bT ((xs.length-q)*2) (.int .i64 0))):=ag.setCells B _ _ wr rfl;refine⟨by rw[HX.out,b3];rfl,?_,d8.gr b7.out (fun k hk=>by rw[hk];exact b6),bz g4 d8.2.2.2.1⟩;rw[HX.out];intro i hi;rw[b3]at hi;have Z:=L.out i (by omega);rw[List.getElem_take];exact⟨⟨(b4 _ (fun _ _=>Or.inl (by show i*2<q*2;omega))).trans Z.1.1,(b5 _).trans Z.1.2⟩,⟨(b4 _ (fun _ _=>Or.inl (by show i*2+1<q*2;omega))).trans Z.2.1,(b5 _).trans Z.2.2⟩⟩
theorem LF(w:ap)(q:aJ)(b:aV prog 85 #[.slice none 0 0,q] w (ar w (.int .i64 (-1)))):
  aV prog 111 #[.slice none 0 0,q] w (ar w (.slice none 0 0)):=by
 go_enter fn,eB;go_wp2_with fail
 refine b.mono ?_;rintro e y ⟨rfl,s⟩;go_wp2_with fail
 go_ret;exact ar.mk rfl s
theorem LG(a0 w:ap)(v:aJ)(xs:List aa)(g:Nat)(lb:Array aJ)(s:aa->Bool)(h:dP a0 w v xs)(J:xs.length<=1000000)(z:Gr a0 w)
  (L:∀args w,(callFunc g args).run prog w=.ok (.enter g args) w) (M:∀(W:ap) (x:aa),Gr a0 W->aV prog g (#[x.val]++lb) W (ar W (.bool (s x)))):
  aV prog 111 #[v,.func (.func g) #[] lb] w fun e q=>∃D,e=.returned D/\dP a0 q D (xs.filter (fun x=>!s x))/\Gr a0 q:=by
 rcases h with⟨rfl,rfl⟩|⟨B,cap,rfl,G,H,I,O⟩
 ·refine(LF w _ (xk w _)).mono ?_;rintro e q ⟨rfl,b⟩;exact⟨_,rfl,.inl ⟨rfl,rfl⟩,z.trans b⟩
 refine(LD a0 w xs B cap g lb s J G O I H z L M).mono ?_;rintro e q ⟨rfl,Q,b,y⟩;exact⟨_,rfl,.inr ⟨B,cap,rfl,bz (bj _ _) G,H,bv I y,Q⟩,b⟩
def ou(a:List aa)(x:aa):Bool:=decide ((x.1,aU.wrap (x.2-1))∈a)
theorem TY(k:Nat)(b:aJ)(a:List aa)(x:aa)(W:ap)(h:W.cell? ⟨k,0,none⟩=some b)(ha:kT W b a)(s:a.length<=1000000):
  aV prog 152 #[x.val,.pointer (some ⟨k,0,none⟩)] W (ar W (.bool (!ou a x))):=by
 obtain⟨z,B⟩:=x;have D:=ae ha;obtain⟨H,I,rfl⟩:=ha.form;unfold aa.val;have J:=fun o=>(Gr.alloc (Gr.refl W) o).keeps h;unfold ou;obtain⟨y,q⟩:∃y,aU.wrap (B-1)=y:=⟨_,rfl⟩;simp only[q];go_enter func152,ntmps152;go_wp2_with fail
 clear q;refine(LC a _ (z,y) _ (D.out.gr ((Gr.refl W).alloc _)) s).mono ?_;rintro e L ⟨rfl,G⟩;go_wp2_with fail
 go_ret;refine ar.mk rfl (((Gr.refl W).alloc _).trans G)
theorem Rw(a b:List aa)(Q S:aJ)(w:ap)(ha:kT w Q a)(I:kT w S b)(L:a.length<=1000000)(D:b.length<=1000000):
  aV prog 105 #[Q,S] w fun e U=>∃V,e=.returned V/\dP w U V (b.filter (fun x=>!!ou a x))/\Gr w U:=by
 have HA:=ae ha;have HB:=ae I;obtain⟨z,B,rfl⟩:=ha.form;obtain⟨bo,cb,rfl⟩:=I.form;clear ha I;go_enter func105,ntmps105;go_wp2_with fail
 have q:Gr w (w.alloc (.cells #[.slice z a.length B] 57)):=(Gr.refl w).alloc _;refine(TX b _ (w.alloc (.cells #[.slice z a.length B] 57)) (HB.out.gr q) D).mono ?_;rintro e w2 ⟨v2,rfl,J,hg⟩;have Y:∀W,Gr (w.alloc (.cells #[.slice z a.length B] 57)) W->W.cell? ⟨w.heap.size,0,none⟩=some (.slice z a.length B):=fun W G=>G.keeps (by rw[az];rfl);have HO:=ae J;have HK:=ae Y;obtain⟨vo,vc,rfl⟩:=J.form;clear J Y;have Z:∀args w,(callFunc 152 args).run prog w=.ok (.enter 152 args) w:=enters_of func152 (by kernel_rfl) rfl;go_wp2_with fail
 refine(LG (w.alloc (.cells #[.slice z a.length B] 57)) w2 _ b 152 #[.pointer (some ⟨w.heap.size,0,none⟩)] (fun x=>!ou a x) HO.out D hg Z (fun W x G=>TY _ _ a x W (HK.out W G) (HA.out.gr (q.trans G)) L)).mono ?_;rintro e w3 ⟨v3,rfl,s,H⟩;have M:=ae (s.back q);have O:=ae (q.trans H);obtain⟨uo,uc,rfl⟩:=s.form;clear s H Z;obtain⟨n3,y⟩:∃n,n=(List.filter (fun x:aa=>!!ou a x) b).length:=⟨_,rfl⟩;rw[<-y];have HN:=ae y;clear y;go_wp2_with fail
 go_ret;refine⟨_,rfl,?_,O.out⟩;have:=M.out;rw[<-HN.out]at this;exact this
def qM(bg:Int)(p q:aa):Bool:=q.1==p.1&&decide (max (aU.wrap (q.2-p.2)) (aU.wrap (p.2-q.2))<=bg)
theorem Xg(k f:Nat)(bg:Int)(p x:aa)(W:ap)(b:W.cell? ⟨k,0,none⟩=some (.int .i64 p.1))(q:W.cell? ⟨k,1,none⟩=some (.int .i64 p.2))(G:W.cell? ⟨f,0,none⟩=some (.int .i64 bg)):
  aV prog 151 #[x.val,.pointer (some ⟨k,0,none⟩),.pointer (some ⟨f,0,none⟩)] W (ar W (.bool (qM bg p x))):=by
 obtain⟨H,s⟩:=x;obtain⟨I,B⟩:=p;unfold aa.val qM;obtain⟨y,J⟩:∃y,aU.wrap (s-B)=y:=⟨_,rfl⟩;obtain⟨z,L⟩:∃z,aU.wrap (B-s)=z:=⟨_,rfl⟩;simp only at b q;simp only[J,L];have M:=fun o=>(Gr.alloc (Gr.refl W) o).keeps b;have O:=fun o=>(Gr.alloc (Gr.refl W) o).keeps q;have Q:=fun o=>(Gr.alloc (Gr.refl W) o).keeps G;by_cases D:H=I
 ·subst D;go_enter fy,ntmps151;go_wp2_with fail
  go_ret;exact ar.mk (by simp) ((Gr.refl W).alloc _)
 go_enter fy,ntmps151;go_wp2_with fail
 go_ret;exact ar.mk (by simp[D]) ((Gr.refl W).alloc _)
def bG(bg:Int)(xs b:List aa):List Int:=(xs.filter fun p=>b.any (qM bg p)).map (·.1)
theorem VD(xs q:List aa)(va vb:aJ)(bg:Int)(w:ap)(hx:kT w va xs)(hy:kT w vb q)(hl:xs.length<=1000000)(b8:q.length<=1000000):
  aV prog 104 #[va,vb,.int .i64 bg] w fun e w'=>∃v',e=.returned v'/\ll w w' v' (setOf aG (bG bg xs q))/\Gr w w':=by
 have HX:=ae hx;have HY:=ae hy;obtain⟨ao,ca,rfl⟩:=hx.form;obtain⟨bo,cb,rfl⟩:=hy.form;clear hx hy;have eg:∀args w,(callFunc 151 args).run prog w=.ok (.enter 151 args) w:=enters_of fy (by kernel_rfl) rfl;have EG:=ae eg;clear eg;go_enter func104,ntmps104;go_wp2_with fail
 have z:Gr w (w.alloc (.cells #[.int .i64 bg] 3)):=(Gr.refl w).alloc _;have B:(w.alloc (.cells #[.int .i64 bg] 3)).cell? ⟨w.heap.size,0,none⟩=some (.int .i64 bg):=by
  rw[az]
  rfl
 obtain⟨s,S⟩:∃s,s=w.alloc (.cells #[.int .i64 bg] 3):=⟨_,rfl⟩;rw[<-S]at z B;rw[<-S];clear S;have b9:=ae (HX.out.gr z);have c0:=ae (HY.out.gr z);go_loopw [7,12] (fun kv iv w'=>∃i:Nat,i<=xs.length/\iv=.int .i64 i/\lm s w' kv (bG bg (xs.take i) q)/\Gr s w') (fun _ iv _=>xs.length-(intOf iv).toNat)
 case atStart=>exact⟨0,bM _,rfl,bA _ _ _ _,Gr.refl _⟩
 case round=>
  obtain⟨i,hi,rfl,ho,O⟩:=hrel;have HO:=ae ho;have HG:=ae O;by_cases G:i<xs.length
  ·obtain⟨b,H,rfl,hb,J⟩:∃b H,ao=some ⟨b,H,none⟩/\b<s.heap.size/\cq s b H xs:=by
    rcases b9.out with⟨_,e2⟩|⟨b,H,c,e,hb,J⟩
    ·rw[e2]at G;exact absurd G (by simp)
    cases e;exact⟨b,H,rfl,hb,J⟩
   have g8:(i:Int)<(xs.length:Int):=by omega
   have c1:=O.keeps (J i G).1;have c2:=O.keeps (J i G).2;have U:bG bg (xs.take (i+1)) q=if q.any (qM bg xs[i])then bG bg (xs.take i) q++[xs[i].1]else bG bg (xs.take i) q:=by
    unfold bG;rw[lP _ _ _ G]
    split
    ·rw[bQ]
     rfl
    rfl
   have c3:(bG bg (xs.take i) q).length<=1000000:=by
    unfold bG;have:=bj (fun p=>q.any (qM bg p)) (xs.take i);rw[bu];rw[be]at this;omega
   have a4:=O.keeps B;generalize hx:xs[i]=x at*;obtain⟨y,D⟩:=x;simp only at c1 c2 U;have HN:=ae U;have I:=O.alloc (.cells #[.int .i64 y,.int .i64 D] 104);have a5:Gr wr (wr.alloc (.cells #[.int .i64 y,.int .i64 D] 104)):=(Gr.refl wr).alloc _;have k1:(wr.alloc (.cells #[.int .i64 y,.int .i64 D] 104)).cell? ⟨wr.heap.size,0,none⟩=some (.int .i64 y):=by
    rw[az]
    rfl
   have k2:(wr.alloc (.cells #[.int .i64 y,.int .i64 D] 104)).cell? ⟨wr.heap.size,1,none⟩=some (.int .i64 D):=by
    rw[az]
    rfl
   have k3:=a5.keeps a4;have a6:=yv q (.slice bo q.length cb) 151 #[.pointer (some ⟨wr.heap.size,0,none⟩),.pointer (some ⟨w.heap.size,0,none⟩)] (qM bg (y,D)) (wr.alloc (.cells #[.int .i64 y,.int .i64 D] 104)) (c0.out.gr I) b8 EG.out
    (fun W x hW=>Xg _ _ bg (y,D) x W (hW.keeps k1) (hW.keeps k2) (hW.keeps k3))
   have c4:=ae I;have K1:=ae k1;have V:Hid (lm s (wr.alloc (.cells #[.int .i64 y,.int .i64 D] 104)) u7 (bG bg (xs.take i) q)):=ae (bt ho _);clear ho O U I a5 k1 k2 k3 a4 J hx B;go_wp2_with fail
   refine a6.mono ?_;rintro e w3 ⟨rfl,M⟩;have p1:=M.keeps K1.out;have a7:=ae (c4.out.trans M);have a8:Hid (lm s w3 u7 (bG bg (xs.take i) q)):=ae (aF V.out M);clear M a6 c1 c2;cases Q:q.any (qM bg (y,D))
   ·rw[Q]at HN;go_wp2_with fail
    go_roundw
    case measure=>
     simp[intOf];omega
    case rel=>exact⟨i+1,by omega,by go_num,by rw[HN.out];exact a8.out,a7.out⟩
   rw[Q]at HN;go_wp2_with(at_builtin;refine qD (a0:=s) rfl _ _ rfl u7 _ y rfl a8.out _ (by simp) rfl c3 a7.out ?_;intro v4 w4 c5 c6)
   go_roundw
   case measure=>
    simp[intOf];omega
   case rel=>exact⟨i+1,by omega,by go_num,by rw[HN.out];exact c5,c6⟩
  have c7:i=xs.length:=by omega
  subst c7;rw[aS]at HO;obtain⟨L,HL⟩:∃L,Hid (L=bG bg xs q):=⟨_,ae rfl⟩;have Y:ll s wr u7 L:=by
   rw[HL.out];exact HO.out.own
  have a9:L.length<=1000000:=by
   rw[HL.out];unfold bG;have:=bj (fun p=>q.any (qM bg p)) xs;rw[bu];omega
  have c8:=ae Y;obtain⟨uo,uc,rfl⟩:=Y.form;clear ho O Y HO;go_wp2_with fail
  refine(DE s wr _ L c8.out HG.out a9).mono ?_;rintro e w2 ⟨rfl,zs,J,hw,b0,I⟩;have V:=ae b0;have HP:=ae J;have HW:=ae hw;clear b0 J hw;go_wp2_with fail
  refine(wh s w2 _ zs V.out I (by rw[HP.out.length_eq];exact a9)).mono ?_;rintro e w3 ⟨v3,rfl,Z,b1⟩;have hs:aq zs=setOf aG (bG bg xs q):=lG kR HW.out (fun x=>by rw[<-HL.out];exact HP.out.mem_iff);rw[hs]at Z;have c9:=ae (Z.back z);have d0:=ae (z.trans b1);have HS:=ae hs;clear Z hs b1 z B;go_wp2_with fail
  go_ret;exact⟨_,rfl,c9.out,d0.out⟩
theorem Jl{a0 w:ap}{z:Array Oper}{rest:List Oper}{o:Oper}{a:Act}{Q:Exit->Act->ap->Prop}(H:o.guard=none)(s x:Operand)
  (S:o.op=.call {callee:=.builtin .append,args:=#[s,x],argTypes:=#[49,49]}) (v:aJ) (q:List Int) (n:Int) (hs:a.eval s=v) (D:lm a0 w v q) (B:Nat) (U:w.heap.size=B) (V:a.eval x=.slice (some ⟨B,0,none⟩) 1 1) (hl:q.length<=1000000) (Y:Gr a0 w)
  (h:∀y w',lm a0 w' y (q++[n])->Gr a0 w'->kn v y w w'->wpList prog z Q rest (a.put o.dst y) w'):wpList prog z Q (o::rest) a (w.alloc (.cells #[.int .i64 n] 3)):=by
 obtain⟨b,G,M⟩:∃b,prog.info? 3=some b/\(b.zero,b.size,b.bytes)=(some (.int .i64 0),1,8):=by
  have h:=GQ;cases O:prog.info? 3 with
  |none=>rw[O]at h;cases h
  |some b=>rw[O]at h;exact⟨b,rfl,bh h⟩
 simp only[cs]at M;obtain⟨I,J,L⟩:=M;exact lK (a0:=a0) H s x 49 S 3 b (.int .i64 0) 1 8 el G I J L rfl (by decide) v q.length (q.map (bc .i64)) hs D [.int .i64 n] rfl (by intro u hu;simp at hu;rw[hu];rfl) B U V Y (by omega) (by omega) (fun y w' Z h2 h3=>h y w' (DF Z) h2 h3)
def xl(bg:Int)(p q:aa):Bool:=p.1==q.1&&decide (aU.wrap (p.2-q.2)<=bg)&&decide (aU.wrap (-(aU.wrap (p.2-q.2)))<=bg)
def gq(bg:Int)(p:aa)(b:List aa):List Int:=(b.filter (xl bg p)).map fun _=>p.1
def fZ(bg:Int)(xs b:List aa):List Int:=xs.flatMap fun p=>gq bg p b
theorem wi(bg:Int)(p:aa)(b:List aa):(gq bg p b).length<=b.length:=by
 unfold gq;rw[bu];exact bj _ _
theorem sJ(bg:Int)(b:List aa):∀xs:List aa,(fZ bg xs b).length<=xs.length*b.length
 |[]=>by simp[fZ]
 |p::xs=>by
  have q:=sJ bg b xs;have s:=wi bg p b;unfold fZ at*;rw[List.flatMap_cons,bW,List.length_cons,Nat.add_mul];omega
theorem Ff(bg:Int)(xs b:List aa)(i:Nat)(h:i<xs.length):fZ bg (xs.take (i+1)) b=fZ bg (xs.take i) b++gq bg xs[i] b:=by
 unfold fZ;rw[aQ h,List.flatMap_append];simp
theorem DI(bg:Int)(p:aa)(b:List aa)(j:Nat)(h:j<b.length):gq bg p (b.take (j+1))=if xl bg p b[j]then gq bg p (b.take j)++[p.1]else gq bg p (b.take j):=by
 unfold gq;rw[lP _ _ _ h]
 split
 ·rw[bQ]
  rfl
 rfl
theorem VE(xs z:List aa)(va vb:aJ)(bg:Int)(w:ap)(hx:kT w va xs)(hy:kT w vb z)(hl:xs.length<=1000)(b6:z.length<=1000):
  aV prog 61 #[va,vb,.int .i64 bg] w fun e I=>∃v',e=.returned v'/\ll w I v' (setOf aG (fZ bg xs z))/\Gr w I:=by
 have HX:=ae hx;have HY:=ae hy;obtain⟨ao,ca,rfl⟩:=hx.form;obtain⟨bo,cb,rfl⟩:=hy.form;clear hx hy;go_enter func61,ntmps61;go_wp2_with fail
 go_loopw [7,15] (fun kv iv I=>∃i:Nat,i<=xs.length/\iv=.int .i64 i/\lm w I kv (fZ bg (xs.take i) z)/\Gr w I) (fun _ iv _=>xs.length-(intOf iv).toNat)
 case atStart=>exact⟨0,bM _,rfl,bA _ _ _ _,Gr.refl _⟩
 case round=>
  obtain⟨i,hi,rfl,M,H⟩:=hrel;have HO:=ae M;have HG:=ae H;by_cases O:i<xs.length
  ·obtain⟨b,G,rfl,hb,hp⟩:∃b G,ao=some ⟨b,G,none⟩/\b<w.heap.size/\cq w b G xs:=by
    rcases HX.out with⟨_,e2⟩|⟨b,G,c,e,hb,hp⟩
    ·rw[e2]at O;exact absurd O (by simp)
    cases e;exact⟨b,G,rfl,hb,hp⟩
   have k3:(i:Int)<(xs.length:Int):=by omega
   have c1:=H.keeps (hp i O).1;have c2:=H.keeps (hp i O).2;have c0:=Ff bg xs z i O;have a8:=sJ bg z (xs.take i);have d8:(fZ bg (xs.take i) z).length<=999*1000:=bz a8 (dT (by rw[be];omega) b6);generalize hx:xs[i]=x at*;obtain⟨q,s⟩:=x;simp only at c1 c2;have HN:=ae c0;have c3:=H.alloc (.cells #[.int .i64 q,.int .i64 s] 104);have e7:Gr wr (wr.alloc (.cells #[.int .i64 q,.int .i64 s] 104)):=(Gr.refl wr).alloc _;have k1:(wr.alloc (.cells #[.int .i64 q,.int .i64 s] 104)).cell? ⟨wr.heap.size,0,none⟩=some (.int .i64 q):=by
    rw[az]
    rfl
   have k2:(wr.alloc (.cells #[.int .i64 q,.int .i64 s] 104)).cell? ⟨wr.heap.size,1,none⟩=some (.int .i64 s):=by
    rw[az]
    rfl
   have Q:u7.ownBlock≠some wr.heap.size:=fun e=>by
    have:=bd M _ e;omega
   have c6:lm w (wr.alloc (.cells #[.int .i64 q,.int .i64 s] 104)) u7 (fZ bg (xs.take i) z):=bt M _;have c7:wr.heap.size<(wr.alloc (.cells #[.int .i64 q,.int .i64 s] 104)).heap.size:=by simp
   have HI:Hid (wr.heap.size<(wr.alloc (.cells #[.int .i64 q,.int .i64 s] 104)).heap.size/\u7.ownBlock≠some wr.heap.size/\lm w (wr.alloc (.cells #[.int .i64 q,.int .i64 s] 104)) u7 (fZ bg (xs.take i) z)/\Gr w (wr.alloc (.cells #[.int .i64 q,.int .i64 s] 104))/\(wr.alloc (.cells #[.int .i64 q,.int .i64 s] 104)).cell? ⟨wr.heap.size,0,none⟩=some (.int .i64 q)/\(wr.alloc (.cells #[.int .i64 q,.int .i64 s] 104)).cell? ⟨wr.heap.size,1,none⟩=some (.int .i64 s)):=ae ⟨c7,Q,c6,c3,k1,k2⟩;clear M H c0 c3 e7 k1 k2 hp hx Q c6 c7;go_wp2_with fail
   have hA:∃A,Hid (A=fZ bg (xs.take i) z):=⟨_,ae rfl⟩;obtain⟨A,HA⟩:=hA;rw[<-HA.out]at HI HN d8;obtain⟨Y,e8⟩:∃Y,Hid (Y=wr.heap.size):=⟨_,ae rfl⟩;rw[<-e8.out]at HI⊢;obtain⟨w1,e9⟩:∃w1,Hid (w1=wr.alloc (.cells #[.int .i64 q,.int .i64 s] 104)):=⟨_,ae rfl⟩;rw[<-e9.out]at HI⊢;go_loopw [7,21] (fun kv jv I=>∃j:Nat,j<=z.length/\jv=.int .i64 j/\lm w I kv (A++gq bg (q,s) (z.take j))/\Gr w I/\Y<I.heap.size/\kv.ownBlock≠some Y/\I.cell? ⟨Y,0,none⟩=some (.int .i64 q)/\I.cell? ⟨Y,1,none⟩=some (.int .i64 s)) (fun _ jv _=>z.length-(intOf jv).toNat)
   case atStart=>
    obtain⟨h1,h2,h3,h4,h5,h6⟩:=HI.out;exact⟨0,bM _,rfl,by simpa[gq]using h3,h4,h1,h2,h5,h6⟩
   case round=>
    obtain⟨j,hj,rfl,M,H,hk,Q,k1,k2⟩:=hrel;have a1:=ae M;have g0:=ae H;have a2:=ae Q;clear Q;by_cases D:j<z.length
    ·obtain⟨b2,V,rfl,k4,a9⟩:∃b2 V,bo=some ⟨b2,V,none⟩/\b2<w.heap.size/\cq w b2 V z:=by
      rcases HY.out with⟨_,e2⟩|⟨b,G,c,e,hb,hp⟩
      ·rw[e2]at D;exact absurd D (by simp)
      cases e;exact⟨b,G,rfl,hb,hp⟩
     have k5:(j:Int)<(z.length:Int):=by omega
     have d1:=H.keeps (a9 j D).1;have d2:=H.keeps (a9 j D).2;have a6:=DI bg (q,s) z j D;have a7:=wi bg (q,s) (z.take j);have g3:(A++gq bg (q,s) (z.take j)).length<=1000000:=by
      rw[bW];rw[be]at a7;omega
     generalize hy:z[j]=y at*;obtain⟨Z,S⟩:=y;simp only at d1 d2;have a3:=ae a6;clear a6 a7 a9 hy;have d0:=fun o=>(Gr.alloc (Gr.refl wr) o).keeps k1;have d3:=fun o=>(Gr.alloc (Gr.refl wr) o).keeps k2;have d4:Hid (lm w (wr.alloc (.cells #[.int .i64 Z,.int .i64 S] 104)) u7 (A++gq bg (q,s) (z.take j))):=ae (bt M _);have d5:=ae (H.alloc (.cells #[.int .i64 Z,.int .i64 S] 104));have d6:Y<(wr.alloc (.cells #[.int .i64 Z,.int .i64 S] 104)).heap.size:=by
      simp;omega
     have b0:=ae d6;clear M H d6;have J:xl bg (q,s) (Z,S)=(q==Z&&decide (aU.wrap (s-S)<=bg)&&decide (aU.wrap (-(aU.wrap (s-S)))<=bg)):=rfl;obtain⟨dd,g4⟩:∃dd,aU.wrap (s-S)=dd:=⟨_,rfl⟩;rw[g4]at J;obtain⟨ee,g5⟩:∃ee,aU.wrap (-dd)=ee:=⟨_,rfl⟩;rw[g5]at J;by_cases B:q=Z/\dd<=bg/\ee<=bg
     ·have U:xl bg (q,s) (Z,S)=true:=by
       rw[J];simp[B.1,B.2.1,B.2.2]
      rw[U]at a3;obtain⟨e1,e2,e3⟩:=B;subst e1;clear J U;go_wp2_with(at_builtin;refine Jl (a0:=w) rfl _ _ rfl u7 _ q rfl d4.out _ (by simp) rfl g3 d5.out ?_;intro v4 w4 g6 g7 a4)
      exact⟨⟨j+1,by omega,by go_num,by rw[a3.out,if_pos rfl,<-List.append_assoc];exact g6,g7,by have:=a4.1;have:=b0.out;omega,(a4.2 Y b0.out a2.out).1,a4.keeps a2.out (d0 _),a4.keeps a2.out (d3 _)⟩,by simp[intOf];omega⟩
     have U:xl bg (q,s) (Z,S)=false:=by
      rw[J];rw[Bool.eq_false_iff];intro h;simp only[dA,beq_iff_eq,decide_eq_true_eq]at h;exact B ⟨h.1.1,h.1.2,h.2⟩
     rw[U]at a3;clear J U;go_wp2_with fail
     all_goals exact⟨⟨j+1,by omega,by go_num,by rw[a3.out,if_neg (by simp)];exact d4.out,d5.out,b0.out,a2.out,d0 _,d3 _⟩,by simp[intOf];omega⟩
    have g8:j=z.length:=by omega
    subst g8;rw[aS]at a1;go_wp2_with fail
    go_roundw
    case measure=>
     simp[intOf];omega
    case rel=>
     exact⟨i+1,by omega,by go_num,by rw[HN.out];exact a1.out,g0.out⟩
  have g9:i=xs.length:=by omega
  subst g9;rw[aS]at HO;obtain⟨L,HL⟩:∃L,Hid (L=fZ bg xs z):=⟨_,ae rfl⟩;have b1:ll w wr u7 L:=by
   rw[HL.out];exact HO.out.own
  have a8:L.length<=1000000:=by
   rw[HL.out];exact bz (sJ bg z xs) (dT hl b6)
  have h0:=ae b1;obtain⟨uo,uc,rfl⟩:=b1.form;clear M H b1 HO;go_wp2_with fail
  refine(Rv w wr _ L h0.out HG.out a8).mono ?_;rintro e w2 ⟨v2,rfl,b3,h7⟩;rw[HL.out]at b3;have a1:=ae b3;clear b3;go_wp2_with fail
  go_ret;exact⟨_,rfl,a1.out,h7⟩
end
section
open Go Go.RowKit Go.Sort
structure fQ(P:Program){α:Type}[Inhabited α](lt:α->α->Bool)(R:ap->Array α->Prop)(B size g:Nat)(lb:Array aJ)(sf:Nat)(sb:Array aJ):Prop where
 enter:∀args w,(callFunc g args).run P w=.ok (.enter g args) w
 gr:∀{w w':ap} {d:Array α},R w d->Gr w w'->R w' d
 blt:∀{w:ap} {d:Array α},R w d->B<w.heap.size
 sz:∀{w:ap} {d:Array α},R w d->d.size=size
 less:∀{w:ap} {d:Array α},R w d->∀i j:Nat,i<size->j<size->aV P g (#[.int .i64 i,.int .i64 j]++lb) w fun e w'=>e=.returned (.bool (lt d[i]! d[j]!))/\Gr w w'
 swap:∀{w:ap} {d:Array α},R w d->∀i j:Nat,i<size->j<size->∃w',(callFunc sf (#[.int .i64 i,.int .i64 j]++sb)).run P w=.ok (.value (.tuple #[])) w'/\R w' (swp d i j)/\ag (fun b=>b=B) w w'
 lim:size<4611686018427387904
 bg:∃N:Nat,(∀{w:ap} {d:Array α},R w d->N<=w.heap.size)/\∀{w w':ap} {d:Array α},R w d->ag (fun b=>N<=b) w w'->R w' d
def bq{α:Type}(R:ap->Array α->Prop)(B:Nat)(w0:ap)(d:Array α)(w:ap):Prop:=R w d/\ag (fun b=>b=B) w0 w
section
variable{P:Program}{α:Type}[Inhabited α]{lt:α->α->Bool}{R:ap->Array α->Prop}{B size g:Nat}{lb:Array aJ}{sf:Nat}{sb:Array aJ}{w0 w w':ap}{d d':Array α}
omit [Inhabited α] in
theorem bq.start(h:R w d):bq R B w d w:=⟨h,ag.refl _ _⟩
theorem bq.gr(S:fQ P lt R B size g lb sf sb)(h:bq R B w0 d w)(b:Gr w w'):bq R B w0 d w':=⟨S.gr h.1 b,h.2.trans (ag.ah b)⟩
omit [Inhabited α] in
theorem bq.step(h:bq R B w0 d w)(b:bq R B w d' w'):bq R B w0 d' w':=⟨b.1,h.2.trans b.2⟩
omit [Inhabited α] in
theorem bq.keeps(h:bq R B w0 d w){b o:Nat}{v:aJ}(q:b≠B)(hc:w0.cell? ⟨b,o,none⟩=some v):w.cell? ⟨b,o,none⟩=some v:=h.2.keeps q hc
theorem bq.less(S:fQ P lt R B size g lb sf sb)(h:bq R B w0 d w)(i j:Nat)(hi:i<size)(b:j<size):aV P g (#[.int .i64 i,.int .i64 j]++lb) w fun e w'=>e=.returned (.bool (lt d[i]! d[j]!))/\bq R B w0 d w':=
 (S.less h.1 i j hi b).mono fun _ _ ⟨q,s⟩=>⟨q,h.gr S s⟩
theorem bq.swap(S:fQ P lt R B size g lb sf sb)(h:bq R B w0 d w)(i j:Nat)(hi:i<size)(b:j<size):∃w',(callFunc sf (#[.int .i64 i,.int .i64 j]++sb)).run P w=.ok (.value (.tuple #[])) w'/\bq R B w0 (swp d i j) w':=by
 obtain⟨w',q,s,y⟩:=S.swap h.1 i j hi b;exact⟨w',q,s,h.2.trans y⟩
theorem bq.aG(S:fQ P lt R B size g lb sf sb)(h:bq R B w0 d w){x y:Int}(i j:Nat)(hi:i<size)(b:j<size)(q:x=i)(s:y=j):aV P g (#[.int .i64 x,.int .i64 y]++lb) w fun e w'=>e=.returned (.bool (lt d[i]! d[j]!))/\bq R B w0 d w':=by
 subst q s;exact h.less S i j hi b
theorem bq.sK(S:fQ P lt R B size g lb sf sb)(h:bq R B w0 d w)(x y:Int)(i j:Nat)(hi:i<size)(b:j<size)(q:x=i)(s:y=j):∃w',(callFunc sf (#[.int .i64 x,.int .i64 y]++sb)).run P w=.ok (.value (.tuple #[])) w'/\bq R B w0 (swp d i j) w':=by
 subst q s;exact h.swap S i j hi b
end
def cV(g:Nat)(lb:Array aJ)(sf:Nat)(sb:Array aJ):aJ:=.agg #[.func (.func g) #[] lb,.func (.func sf) #[] sb]
structure uD(g:Nat)(lb:Array aJ)(sf:Nat)(sb:Array aJ)(D:Nat)(w:ap):Prop where
 c0:w.cell? ⟨D,0,none⟩=some (.func (.func g) #[] lb)
 c1:w.cell? ⟨D,1,none⟩=some (.func (.func sf) #[] sb)
theorem uE(g:Nat)(lb:Array aJ)(sf:Nat)(sb:Array aJ)(w:ap)(t:TypeId):uD g lb sf sb w.heap.size (w.alloc (.cells #[.func (.func g) #[] lb,.func (.func sf) #[] sb] t)):=
 ⟨by rw[az];rfl,by rw[az];rfl⟩
section
variable{α:Type}[Inhabited α]{lt:α->α->Bool}{R:ap->Array α->Prop}{B size g:Nat}{lb:Array aJ}{sf:Nat}{sb:Array aJ}
omit [Inhabited α] in
theorem uD.so{D:Nat}{w w':ap}{d:Array α}(h:uD g lb sf sb D w)(k:bq R B w d w')(b:D≠B):uD g lb sf sb D w':=⟨k.keeps b h.c0,k.keeps b h.c1⟩
theorem uD.gr{D:Nat}{w w':ap}(h:uD g lb sf sb D w)(k:Gr w w'):uD g lb sf sb D w':=⟨k.keeps h.c0,k.keeps h.c1⟩
theorem ii(S:fQ prog lt R B size g lb sf sb){d:Array α}{w:ap}(h:R w d)(t:TypeId):
  ∃(D:Nat) (b:ap),D=w.heap.size/\b=w.alloc (.cells #[.func (.func g) #[] lb,.func (.func sf) #[] sb] t)/\uD g lb sf sb D b/\D≠B/\R b d/\(∀q w',bq R B b q w'->bq R B w q w'):=by
 have s:=(Gr.refl w).alloc (.cells #[.func (.func g) #[] lb,.func (.func sf) #[] sb] t);exact⟨_,_,rfl,rfl,uE g lb sf sb w t,by have:=S.blt h;omega,S.gr h s,fun q w' k=>⟨k.1,(ag.ah s).trans k.2⟩⟩
theorem zM(S:fQ prog lt R B size g lb sf sb)(a b:Nat)(d:Array α)(w:ap)(h:R w d)(c2:a<=b)(hb:b<=size):
  aV prog 271 #[cV g lb sf sb,.int .i64 a,.int .i64 b] w fun e w'=>e=.returned (.tuple #[])/\bq R B w (cK lt d a b) w':=by
 obtain⟨D,w1,hD,U,V,Y,hR,G⟩:=ii S h 299;have eg:=S.enter;have HS:=ae S;have b4:=S.lim;have a1:=ae G;have Z:=ae V;have HR:=ae hR;clear S h G V hR;unfold cV;go_enter func271,ntmps271;go_wp2_with fail
 rw[<-U,<-hD];clear U hD;go_loopw [6] (fun vi wr=>∃(i:Nat) (O:Array α),vi=.int .i64 i/\a<i/\i<=b+1/\bq R B w1 O wr/\Hid (insOuter lt a b i O=insOuter lt a b (a+1) d)) (fun vi _=>b+1-(intOf vi).toNat)
 case atStart=>exact⟨a+1,d,by go_num,by omega,by omega,bq.start HR.out,ae rfl⟩
 case round=>
  obtain⟨i,O,rfl,c3,c4,y,HO⟩:=hrel;have a0:=ae y;clear y;by_cases I:i<b
  ·have e1:decide ((i:Int)<b)=true:=by simp;omega
   go_wp2_with fail
   go_loopw [7] (fun vj a6=>∃(j:Nat) (z:Array α),vj=.int .i64 j/\a<=j/\j<=i/\bq R B w1 z a6/\Hid (insInner lt a j z=insInner lt a i O)) (fun vj _=>(intOf vj).toNat)
   case atStart=>exact⟨i,O,rfl,by omega,ak _,a0.out,ae rfl⟩
   case round=>
    obtain⟨j,z,rfl,c5,c6,y,HI⟩:=hrel;have J:=ae y;clear y;obtain⟨c0,c1⟩:=Z.out.so J.out Y;by_cases a7:a<j
    ·have e2:decide ((a:Int)<j)=true:=by simp;omega
     have L:((j-1:Nat):Int)=(j:Int)-1:=by omega
     have Q:=J.out.less HS.out j (j-1) (by omega) (by omega);rw[L]at Q;clear c1;cases s:lt z[j]! z[j-1]! with
     |true=>
      rw[s]at Q;have M:=ae s;clear s;go_wp2_with(go_at_fn g;refine Q.mono ?_;rintro e w2 ⟨rfl,q⟩;obtain⟨d0,d1⟩:=Z.out.so q Y;obtain⟨w3,hs,H⟩:=q.swap HS.out j (j-1) (by omega) (by omega);rw[L]at hs;have a8:=ae H;clear q H)
      go_roundw
      case rel=>exact⟨j-1,swp z j (j-1),by rw[L],by omega,by omega,a8.out,ae (by rw[<-HI.out,insInner_go lt a j z a7 M.out])⟩
      case measure=>simp[intOf];omega
     |false=>
      rw[s]at Q;have M:=ae s;clear s;go_wp2_with(go_at_fn g;refine Q.mono ?_;rintro e w2 ⟨rfl,q⟩;have a9:=ae q;clear q)
      go_roundw
      case rel=>exact⟨i+1,z,by go_num,by omega,by omega,a9.out,ae (by rw[<-HO.out,eH _ _ _ _ _ I,<-HI.out,ea _ _ _ _ (.inr M.out)])⟩
      case measure=>simp[intOf];omega
    have e2:decide ((a:Int)<j)=false:=by simp;omega
    go_wp2_with fail
    go_roundw
    case rel=>exact⟨i+1,z,by go_num,by omega,by omega,J.out,ae (by rw[<-HO.out,eH _ _ _ _ _ I,<-HI.out,ea _ _ _ _ (.inl (by omega))])⟩
    case measure=>simp[intOf];omega
  have e1:decide ((i:Int)<b)=false:=by simp;omega
  go_wp2_with fail
  go_end0;refine⟨rfl,a1.out _ _ ?_⟩;unfold cK;rw[<-HO.out,insOuter_stop _ _ _ _ _ I];exact a0.out
theorem BJ(S:fQ prog lt R B size g lb sf sb)(a b:Nat)(d:Array α)(w:ap)(h:R w d)(a6:a<=b)(hb:b<=size)(h1:1<=b):
  aV prog 275 #[cV g lb sf sb,.int .i64 a,.int .i64 b] w fun e w'=>e=.returned (.tuple #[])/\bq R B w (cW d a b) w':=by
 obtain⟨D,w1,Y,G,H,Q,Z,q⟩:=ii S h 299;have eg:=S.enter;have HS:=ae S;have a1:=S.lim;have L:=ae q;have U:=ae H;have HR:=ae Z;clear S h q H Z;unfold cV;go_enter func275,ntmps275;go_wp2_with fail
 rw[<-G,<-Y];clear G Y;go_loopw [6,7] (fun M O wr=>∃(i j:Nat) (z:Array α),M=.int .i64 i/\O=.int .i64 j/\a<=i/\j<b/\bq R B w1 z wr/\Hid (ch i j z=ch a (b-1) d)) (fun M O _=>(intOf O-intOf M).toNat)
 case atStart=>exact⟨a,b-1,d,rfl,by rw[show((b-1:Nat):Int)=(b:Int)-1 by omega],ak _,by omega,bq.start HR.out,ae rfl⟩
 case round=>
  obtain⟨i,j,z,rfl,rfl,a7,a8,I,HO⟩:=hrel;have y:=ae I;clear I;by_cases J:i<j
  ·have e1:decide ((i:Int)<j)=true:=by simp;omega
   obtain⟨c0,c1⟩:=U.out.so y.out Q;obtain⟨w3,hs,s⟩:=y.out.swap HS.out i j (by omega) (by omega);have V:=ae s;clear s;go_wp2_with fail
   go_roundw
   case rel=>exact⟨i+1,j-1,swp z i j,by go_num,by rw[show((j-1:Nat):Int)=(j:Int)-1 by omega],by omega,by omega,V.out,ae (by rw[<-HO.out];conv=>rhs;rw[ch,if_pos J])⟩
   case measure=>simp[intOf];omega
  have e1:decide ((i:Int)<j)=false:=by simp;omega
  go_wp2_with fail
  go_end0;refine⟨rfl,L.out _ _ ?_⟩;have e:z=cW d a b:=by unfold cW;rw[<-HO.out,ch,if_neg J]
  rw[<-e];exact y.out
end
section
variable{α:Type}[Inhabited α]{lt:α->α->Bool}{R:ap->Array α->Prop}{B size g:Nat}{lb:Array aJ}{sf:Nat}{sb:Array aJ}
theorem AY(S:fQ prog lt R B size g lb sf sb)(V hi first:Nat)(d:Array α)(w:ap)(h:R w d)(b2:V<=hi)(hb:first+hi<=size):
  aV prog 296 #[cV g lb sf sb,.int .i64 V,.int .i64 hi,.int .i64 first] w fun e w'=>e=.returned (.tuple #[])/\bq R B w (eT lt hi first V d) w':=by
 obtain⟨D,w1,hD,a2,a3,G,hR,Y⟩:=ii S h 299;have eg:=S.enter;have L:=ae S;have c2:=S.lim;have M:=ae Y;have H:=ae a3;have HR:=ae hR;clear S h Y a3 hR;unfold cV;go_enter func296,ntmps296;go_wp2_with fail
 rw[<-a2,<-hD];clear a2 hD;go_loopg [8] (hi-V) (fun kx s8 wr=>∃(b:Nat) (q:Array α),s8=.int .i64 b/\b<=hi/\hi-b<=kx/\bq R B w1 q wr/\Hid (eT lt hi first b q=eT lt hi first V d))
 case atStart=>exact⟨V,d,rfl,b2,ak _,bq.start HR.out,ae rfl⟩
 case round=>
  obtain⟨b,q,rfl,hr,c8,a4,U⟩:=hrel;have I:=ae a4;clear a4;obtain⟨c0,c1⟩:=H.out.so I.out G;by_cases h0:hi<=2*b+1
  ·have b3:decide ((hi:Int)<=2*(b:Int)+1)=true:=by simp;omega
   go_wp2_with fail
   go_end0;refine⟨rfl,M.out _ _ ?_⟩;rw[<-U.out,sd_end lt q h0];exact I.out
  have b3:decide ((hi:Int)<=2*(b:Int)+1)=false:=by simp;omega
  by_cases h1:2*b+2<hi
  ·have b4:decide (2*(b:Int)+1+1<(hi:Int))=true:=by simp;omega
   cases hL:lt q[first+(2*b+1)]! q[first+(2*b+2)]! with
   |true=>
    have O:=ae hL;clear hL;cases J:lt q[first+b]! q[first+(2*b+2)]! with
    |true=>
     have z:=ae J;clear J;go_wp2_with(first
       |(go_at_fn g;refine(I.out.aG L.out (first+(2*b+1)) (first+(2*b+2)) (by omega) (by omega) (by omega) (by omega)).mono ?_;rintro e w2 ⟨rfl,y⟩
         rw[O.out];obtain⟨b0,b1⟩:=H.out.so y G;have y:=ae y)
       |(go_at_fn g;refine(y.out.aG L.out (first+b) (first+(2*b+2)) (by omega) (by omega) (by omega) (by omega)).mono ?_;rintro e Z ⟨rfl,s⟩
         rw[z.out];obtain⟨d0,d1⟩:=H.out.so s G;obtain⟨w4,hs,Q⟩:=s.sK L.out ((first:Int)+(b:Int)) ((first:Int)+(2*(b:Int)+1+1)) (first+b) (first+(2*b+2)) (by omega) (by omega) (by omega) (by omega);have K3:=ae Q;clear s Q))
     go_roundg (hi-(2*b+2))
     case measure=>omega
     case rel=>exact⟨2*b+2,swp q (first+b) (first+(2*b+2)),by go_num,by omega,ak _,K3.out,ae (by rw[<-U.out,sd_right_go lt q h1 O.out z.out])⟩
    |false=>
     have z:=ae J;clear J;go_wp2_with(first
       |(go_at_fn g;refine(I.out.aG L.out (first+(2*b+1)) (first+(2*b+2)) (by omega) (by omega) (by omega) (by omega)).mono ?_;rintro e w2 ⟨rfl,y⟩
         rw[O.out];obtain⟨b0,b1⟩:=H.out.so y G;have y:=ae y)
       |(go_at_fn g;refine(y.out.aG L.out (first+b) (first+(2*b+2)) (by omega) (by omega) (by omega) (by omega)).mono ?_;rintro e Z ⟨rfl,s⟩
         rw[z.out];have K2:=ae s;clear s))
     ((try simp only[da,Exit.then]);refine de (dg rfl _ _ _) rfl ?_)
     refine⟨rfl,M.out _ _ ?_⟩;rw[<-U.out,sd_right_stop lt q h1 O.out z.out];exact K2.out
   |false=>
    have O:=ae hL;clear hL;cases J:lt q[first+b]! q[first+(2*b+1)]! with
    |true=>
     have z:=ae J;clear J;go_wp2_with(first
       |(go_at_fn g;refine(I.out.aG L.out (first+(2*b+1)) (first+(2*b+2)) (by omega) (by omega) (by omega) (by omega)).mono ?_;rintro e w2 ⟨rfl,y⟩
         rw[O.out];obtain⟨b0,b1⟩:=H.out.so y G;have y:=ae y)
       |(go_at_fn g;refine(y.out.aG L.out (first+b) (first+(2*b+1)) (by omega) (by omega) (by omega) (by omega)).mono ?_;rintro e Z ⟨rfl,s⟩
         rw[z.out];obtain⟨d0,d1⟩:=H.out.so s G;obtain⟨w4,hs,Q⟩:=s.sK L.out ((first:Int)+(b:Int)) ((first:Int)+(2*(b:Int)+1)) (first+b) (first+(2*b+1)) (by omega) (by omega) (by omega) (by omega);have K3:=ae Q;clear s Q))
     go_roundg (hi-(2*b+1))
     case measure=>omega
     case rel=>exact⟨2*b+1,swp q (first+b) (first+(2*b+1)),by go_num,by omega,ak _,K3.out,ae (by rw[<-U.out,fe lt q (by omega) (fun _=>O.out) z.out])⟩
    |false=>
     have z:=ae J;clear J;go_wp2_with(first
       |(go_at_fn g;refine(I.out.aG L.out (first+(2*b+1)) (first+(2*b+2)) (by omega) (by omega) (by omega) (by omega)).mono ?_;rintro e w2 ⟨rfl,y⟩
         rw[O.out];obtain⟨b0,b1⟩:=H.out.so y G;have y:=ae y)
       |(go_at_fn g;refine(y.out.aG L.out (first+b) (first+(2*b+1)) (by omega) (by omega) (by omega) (by omega)).mono ?_;rintro e Z ⟨rfl,s⟩
         rw[z.out];have K2:=ae s;clear s))
     ((try simp only[da,Exit.then]);refine de (dg rfl _ _ _) rfl ?_)
     refine⟨rfl,M.out _ _ ?_⟩;rw[<-U.out,en lt q (by omega) (fun _=>O.out) z.out];exact K2.out
  have b4:decide (2*(b:Int)+1+1<(hi:Int))=false:=by simp;omega
  cases J:lt q[first+b]! q[first+(2*b+1)]! with
  |true=>
   have z:=ae J;clear J;go_wp2_with(first
    |( go_at_fn g;refine(I.out.aG L.out (first+b) (first+(2*b+1)) (by omega) (by omega) (by omega) (by omega)).mono ?_;rintro e Z ⟨rfl,s⟩
       rw[z.out];obtain⟨d0,d1⟩:=H.out.so s G;obtain⟨w4,hs,Q⟩:=s.sK L.out ((first:Int)+(b:Int)) ((first:Int)+(2*(b:Int)+1)) (first+b) (first+(2*b+1)) (by omega) (by omega) (by omega) (by omega);have K3:=ae Q;clear s Q))
   go_roundg (hi-(2*b+1))
   case measure=>omega
   case rel=>exact⟨2*b+1,swp q (first+b) (first+(2*b+1)),by go_num,by omega,ak _,K3.out,ae (by rw[<-U.out,fe lt q (by omega) (fun h=>absurd h h1) z.out])⟩
  |false=>
   have z:=ae J;clear J;go_wp2_with(first
    |( go_at_fn g;refine(I.out.aG L.out (first+b) (first+(2*b+1)) (by omega) (by omega) (by omega) (by omega)).mono ?_;rintro e Z ⟨rfl,s⟩
       rw[z.out];have K2:=ae s;clear s))
   ((try simp only[da,Exit.then]);refine de (dg rfl _ _ _) rfl ?_)
   refine⟨rfl,M.out _ _ ?_⟩;rw[<-U.out,en lt q (by omega) (fun h=>absurd h h1) z.out];exact K2.out
end
section
variable{α:Type}[Inhabited α]{lt:α->α->Bool}{R:ap->Array α->Prop}{B size g:Nat}{lb:Array aJ}{sf:Nat}{sb:Array aJ}
theorem LH(S:fQ prog lt R B size g lb sf sb)(a b:Nat)(d:Array α)(w:ap)(h:R w d)(a5:a<=b)(hb:b<=size):
  aV prog 272 #[cV g lb sf sb,.int .i64 a,.int .i64 b] w fun e w'=>e=.returned (.tuple #[])/\bq R B w (eV lt d a b) w':=by
 obtain⟨D,w1,hD,U,V,L,hR,J⟩:=ii S h 299;have eg:=S.enter;have HS:=ae S;have b3:=S.lim;have a0:=ae J;have M:=ae V;have HR:=ae hR;clear S h J V hR;unfold cV;have G:((b-a:Nat):Int)=(b:Int)-(a:Int):=by omega
 go_enter func272,ntmps272;go_wp2_with fail
 rw[<-U,<-hD];clear U hD;go_loopg [9] ((b-a-1)/2+1) (fun s s9 wr=>s9=.int .i64 ((s:Int)-1)/\s<=(b-a-1)/2+1/\∃(I:Array α),bq R B w1 I wr/\Hid (ej lt (b-a) a s I=ej lt (b-a) a ((b-a-1)/2+1) d))
 case atStart=>exact⟨by rw[half_start a5],ak _,d,bq.start HR.out,ae rfl⟩
 case round=>
  obtain⟨rfl,Y,I,z,HE⟩:=hrel;have H:=ae z;clear z;obtain⟨c0,c1⟩:=M.out.so H.out L;cases gk with
  |zero=>
   have HB:Hid (I=ej lt (b-a) a ((b-a-1)/2+1) d):=ae HE.out;clear HE Y c0 c1;go_wp2_with fail
   go_loopg [10] (b-a) (fun s a6 a7=>a6=.int .i64 ((s:Int)-1)/\s<=b-a/\∃(Q:Array α),bq R B w1 Q a7/\Hid (heapPop lt a s Q=heapPop lt a (b-a) I))
   case atStart=>exact⟨by rw[G],ak _,I,H.out,ae rfl⟩
   case round=>
    obtain⟨rfl,Y,Q,z,Z⟩:=hrel;have O:=ae z;clear z;cases gk with
    |zero=>
      go_wp2_with fail
      go_end0;have e:Q=eV lt d a b:=by rw[eV,<-HB.out,<-Z.out];rfl
      rw[<-e];exact⟨rfl,a0.out _ _ O.out⟩
    |succ s=>
      obtain⟨c0,c1⟩:=M.out.so O.out L;obtain⟨w3,hs,y⟩:=O.out.sK HS.out (a:Int) ((a:Int)+(s:Int)) a (a+s) (by omega) (by omega) (by omega) (by omega);obtain⟨d0,d1⟩:=M.out.so y L;have q:=AY HS.out 0 s a (swp Q a (a+s)) w3 y.1 (bM _) (by omega);unfold cV at q;have H3:=ae y;have HC:=ae q;clear y q;go_wp2_with(first
        |(go_at_call 296;refine HC.out.mono ?_;rintro e w4 ⟨rfl,k⟩
          have H4:=ae (H3.out.step k);clear k))
      go_roundg s
      case measure=>omega
      case rel=>exact⟨by simp,by omega,_,H4.out,Z⟩
  |succ s=>
   have q:=AY HS.out s (b-a) a I wr H.out.1 (by omega) (by omega);unfold cV at q;rw[G]at q;have HC:=ae q;clear q;go_wp2_with(first
    |( go_at_call 296;refine HC.out.mono ?_;rintro e w4 ⟨rfl,k⟩
       have H4:=ae (H.out.step k);clear k))
   go_roundg s
   case measure=>omega
   case rel=>exact⟨by simp,by omega,_,H4.out,HE⟩
end
section
variable{α:Type}[Inhabited α]{lt:α->α->Bool}{R:ap->Array α->Prop}{B size g:Nat}{lb:Array aJ}{sf:Nat}{sb:Array aJ}
theorem yw(S:fQ prog lt R B size g lb sf sb)(a b J:Nat)(d:Array α)(w:ap)(h:R w d)(g8:a<b)(hp:a<=J/\J<b)(hb:b<=size):
  aV prog 277 #[cV g lb sf sb,.int .i64 a,.int .i64 b,.int .i64 J] w fun e w'=>e=.returned (.int .i64 ((partitionEqual lt d a b J).1:Nat))/\bq R B w (partitionEqual lt d a b J).2 w':=by
 obtain⟨D,w1,hD,b5,b6,a8,hR,a2⟩:=ii S h 299;have eg:=S.enter;have HS:=ae S;have e3:=S.lim;have c7:=ae a2;have Y:=ae b6;have HR:=ae hR;clear S h a2 b6 hR;unfold cV;obtain⟨w2,b7,a4⟩:=(bq.start HR.out).swap HS.out a J (by omega) (by omega);have H0:Hid (bq R B w1 (swp d a J) w2):=ae a4;obtain⟨Q,b8⟩:∃Q:Nat,Q=b-1:=⟨_,rfl⟩;have b9:(b:Int)-1=(Q:Int):=by omega
 have g9:=ae b9;have d3:=ae b8;have e4:Q<b/\a<=Q:=by omega
 clear a4 b8;go_enter func277,ntmps277;obtain⟨c0,c1⟩:=Y.out;rw[b5]at b7 c0 c1;rw[hD]at c0 c1;go_upto_block 0 with fail
 rw[<-hD];clear c0 c1 b7 b5 hD b9;obtain⟨d0,a9⟩:∃d0,swp d a J=d0:=⟨_,rfl⟩;rw[a9]at H0;have d4:=ae a9;clear a9;go_wp2_with fail
 go_loopg [9,10] (Q+1-a) (fun kx s9 d5 wr=>∃(i j:Nat) (q:Array α),s9=.int .i64 i/\d5=.int .i64 j/\a<i/\i<=j+1/\j<b/\j+1-i<=kx/\bq R B w1 q wr/\Hid (fl lt a i j q=fl lt a (a+1) Q d0))
 case atStart=>exact⟨a+1,Q,d0,by first|rfl|go_num,rfl,by omega,by omega,by omega,by omega,H0.out,ae rfl⟩
 case round=>
  obtain⟨i,j,q,rfl,rfl,h0,h1,e5,h2,H,HE⟩:=hrel;have d6:=ae H;clear H;go_upto_block 2 with fail
  go_cut [9] (fun su wx=>∃y:Nat,su=.int .i64 y/\i<=y/\y<=j+1/\bq R B w1 q wx/\Hid (y=cj (fun x=>!lt q[a]! x) q j (i)))
  case first=>as_aux_lemma=>
   go_wp2_with fail
   go_loopw [9] (fun Z b0=>∃(y:Nat),Z=.int .i64 y/\i<=y/\y<=j+1/\bq R B w1 q b0/\Hid (cj (fun x=>!lt q[a]! x) q j y=cj (fun x=>!lt q[a]! x) q j (i))) (fun Z _=>j+1-(intOf Z).toNat)
   case atStart=>exact⟨i,by first|rfl|go_num,ak _,by omega,d6.out,ae rfl⟩
   case round=>
    obtain⟨y,rfl,c3,c4,H,HU⟩:=hrel;have G:=ae H;clear H;obtain⟨c0,c1⟩:=Y.out.so G.out a8;by_cases L:y<=j
    ·have e1:decide ((y:Int)<=(j:Int))=true:=by simp;omega
     cases M:lt q[a]! q[y]! with
     |false=>
      have I:=ae M;clear M;go_wp2_with(first
       |( go_at_fn g;refine(G.out.aG HS.out (a) (y) (by omega) (by omega) (by omega) (by omega)).mono ?_;rintro e wq ⟨rfl,k⟩
          rw[I.out];have K:=ae k;clear k))
      go_roundw
      case rel=>exact⟨y+1,by go_num,by omega,by omega,K.out,ae (by rw[<-HU.out,ek _ _ _ _ L (by simp[I.out])])⟩
      case measure=>simp[intOf];omega
     |true=>
      have I:=ae M;clear M;go_wp2_with(first
       |( go_at_fn g;refine(G.out.aG HS.out (a) (y) (by omega) (by omega) (by omega) (by omega)).mono ?_;rintro e wq ⟨rfl,k⟩
          rw[I.out];have K:=ae k;clear k))
      go_meet
      exact⟨y,rfl,c3,c4,K.out,ae (by rw[<-HU.out,bZ _ _ _ _ (.inr (by simp[I.out]))])⟩
    have e1:decide ((y:Int)<=(j:Int))=false:=by simp;omega
    go_wp2_with fail
    go_meet
    exact⟨y,rfl,c3,c4,G.out,ae (by rw[<-HU.out,bZ _ _ _ _ (.inl L)])⟩
  case rest=>
   obtain⟨z,rfl,e6,e7,U,b1⟩:=hcut;have d7:=ae U;clear U;go_upto_block 4 with fail
   go_cut [10] (fun su wx=>∃s:Nat,su=.int .i64 s/\z<=s+1/\s<=j/\bq R B w1 q wx/\Hid (s=bP (fun x=>lt q[a]! x) q z j))
   case first=>as_aux_lemma=>
    go_wp2_with fail
    go_loopw [10] (fun Z b0=>∃(s:Nat),Z=.int .i64 s/\z<=s+1/\s<=j/\bq R B w1 q b0/\Hid (bP (fun x=>lt q[a]! x) q z s=bP (fun x=>lt q[a]! x) q z j)) (fun Z _=>(intOf Z).toNat)
    case atStart=>exact⟨j,rfl,by omega,ak _,d7.out,ae rfl⟩
    case round=>
     obtain⟨s,rfl,c5,c6,H,HU⟩:=hrel;have G:=ae H;clear H;obtain⟨c0,c1⟩:=Y.out.so G.out a8;by_cases L:z<=s
     ·have e1:decide ((z:Int)<=(s:Int))=true:=by simp;omega
      cases M:lt q[a]! q[s]! with
      |true=>
       have I:=ae M;clear M;go_wp2_with(first
         |(go_at_fn g;refine(G.out.aG HS.out (a) (s) (by omega) (by omega) (by omega) (by omega)).mono ?_;rintro e wq ⟨rfl,k⟩
           rw[I.out];have K:=ae k;clear k))
       go_roundw
       case rel=>exact⟨s-1,by rw[show((s-1:Nat):Int)=(s:Int)-1 by omega],by omega,by omega,K.out,ae (by rw[<-HU.out,dD _ _ _ _ L (by omega) (by simp[I.out])])⟩
       case measure=>simp[intOf];omega
      |false=>
       have I:=ae M;clear M;go_wp2_with(first
         |(go_at_fn g;refine(G.out.aG HS.out (a) (s) (by omega) (by omega) (by omega) (by omega)).mono ?_;rintro e wq ⟨rfl,k⟩
           rw[I.out];have K:=ae k;clear k))
       go_meet
       exact⟨s,rfl,c5,c6,K.out,ae (by rw[<-HU.out,bB _ _ _ _ (.inr (by simp[I.out]))])⟩
     have e1:decide ((z:Int)<=(s:Int))=false:=by simp;omega
     go_wp2_with fail
     go_meet
     exact⟨s,rfl,c5,c6,G.out,ae (by rw[<-HU.out,bB _ _ _ _ (.inl L)])⟩
   case rest=>
    obtain⟨O,rfl,e8,e9,V,b2⟩:=hcut;have b3:=ae V;clear V;by_cases d8:O<z
    ·have e1:decide ((O:Int)<(z:Int))=true:=by simp;omega
     go_wp2_with fail
     go_ret;have e:partitionEqual lt d a b J=(z,q):=by
      unfold partitionEqual;rw[<-d3.out,d4.out,<-HE.out,partEq_break lt a i j q b1.out b2.out d8]
     rw[e];exact⟨rfl,c7.out _ _ b3.out⟩
    have e1:decide ((O:Int)<(z:Int))=false:=by simp;omega
    have g0:=scans_lt lt a i j q (by omega) b1.out b2.out (by omega);obtain⟨w3,hs,a7⟩:=b3.out.swap HS.out z O (by omega) (by omega);obtain⟨c0,c1⟩:=Y.out.so b3.out a8;have H3:=ae a7;clear a7;go_wp2_with fail
    go_roundg (O-1+1-(z+1))
    case measure=>omega
    case rel=>exact⟨z+1,O-1,swp q z O,by go_num,by rw[show((O-1:Nat):Int)=(O:Int)-1 by omega],by omega,by omega,by omega,by omega,H3.out,ae (by rw[<-HE.out,partEq_go lt a i j q b1.out b2.out (by omega)])⟩
end
section
variable{α:Type}[Inhabited α]{lt:α->α->Bool}{R:ap->Array α->Prop}{B size g:Nat}{lb:Array aJ}{sf:Nat}{sb:Array aJ}
theorem Jm(S:fQ prog lt R B size g lb sf sb)(a b pv:Nat)(d:Array α)(w:ap)(h:R w d)(l2:a<b)(hp:a<=pv/\pv<b)(hb:b<=size):
  aV prog 278 #[cV g lb sf sb,.int .i64 a,.int .i64 b,.int .i64 pv] w fun e w'=>e=.returned (.tuple #[.int .i64 ((partition lt d a b pv).1:Nat),.bool (partition lt d a b pv).2.1])/\bq R B w (partition lt d a b pv).2.2 w':=by
 obtain⟨D,w1,hD,e5,e6,Z,hR,d4⟩:=ii S h 299;have eg:=S.enter;have HS:=ae S;have i7:=S.lim;have d5:=ae d4;have O:=ae e6;have HR:=ae hR;clear S h d4 e6 hR;unfold cV;obtain⟨w2,e7,d6⟩:=(bq.start HR.out).swap HS.out a pv (by omega) (by omega);have H0:Hid (bq R B w1 (swp d a pv) w2):=ae d6;obtain⟨J,e8⟩:∃J:Nat,J=b-1:=⟨_,rfl⟩;have d8:(b:Int)-1=(J:Int):=by omega
 have l3:=ae d8;have e9:=ae e8;have i9:J<b/\a<=J:=by omega
 clear d6 e8;go_enter func278,ntmps278;obtain⟨c0,c1⟩:=O.out;rw[e5]at e7 c0 c1;rw[hD]at c0 c1;obtain⟨i0,g0⟩:∃i0:Nat,i0=a+1:=⟨_,rfl⟩;have h5:Hid ((a:Int)+1=(i0:Int)):=ae (by omega);have g3:=ae g0;have j3:a<i0/\i0<=J+1:=by omega
 go_upto_block 0 with fail
 rw[<-hD]
 try rw[d8]
 rw[h5.out];clear c0 c1 e7 e5 hD d8 g0;obtain⟨z,d9⟩:∃d0,swp d a pv=d0:=⟨_,rfl⟩;rw[d9]at H0;have g4:=ae d9.symm;clear d9;go_upto_block 0 with fail
 go_cut [10] (fun su wx=>∃s:Nat,su=.int .i64 s/\i0<=s/\s<=J+1/\bq R B w1 z wx/\Hid (s=cj (fun x=>lt x z[a]!) z J (i0)))
 case first=>as_aux_lemma=>
  go_wp2_with fail
  go_loopw [10] (fun Q a3=>∃(s:Nat),Q=.int .i64 s/\i0<=s/\s<=J+1/\bq R B w1 z a3/\Hid (cj (fun x=>lt x z[a]!) z J s=cj (fun x=>lt x z[a]!) z J (i0))) (fun Q _=>J+1-(intOf Q).toNat)
  case atStart=>exact⟨i0,by first|rfl|go_num,ak _,by omega,H0.out,ae rfl⟩
  case round=>
   obtain⟨s,rfl,b1,b2,G,U⟩:=hrel;have y:=ae G;clear G;obtain⟨c0,c1⟩:=O.out.so y.out Z;by_cases L:s<=J
   ·have e1:decide ((s:Int)<=(J:Int))=true:=by simp;omega
    cases M:lt z[s]! z[a]! with
    |true=>
     have I:=ae M;clear M;go_wp2_with(first
      |( go_at_fn g;refine(y.out.aG HS.out (s) (a) (by omega) (by omega) (by omega) (by omega)).mono ?_;rintro e wq ⟨rfl,k⟩
         rw[I.out];have K:=ae k;clear k))
     go_roundw
     case rel=>exact⟨s+1,by go_num,by omega,by omega,K.out,ae (by rw[<-U.out,ek _ _ _ _ L (by simp[I.out])])⟩
     case measure=>simp[intOf];omega
    |false=>
     have I:=ae M;clear M;go_wp2_with(first
      |( go_at_fn g;refine(y.out.aG HS.out (s) (a) (by omega) (by omega) (by omega) (by omega)).mono ?_;rintro e wq ⟨rfl,k⟩
         rw[I.out];have K:=ae k;clear k))
     go_meet
     exact⟨s,rfl,b1,b2,K.out,ae (by rw[<-U.out,bZ _ _ _ _ (.inr (by simp[I.out]))])⟩
   have e1:decide ((s:Int)<=(J:Int))=false:=by simp;omega
   go_wp2_with fail
   go_meet
   exact⟨s,rfl,b1,b2,y.out,ae (by rw[<-U.out,bZ _ _ _ _ (.inl L)])⟩
 case rest=>
  obtain⟨V,rfl,j6,j7,b6,c5⟩:=hcut;have g5:=ae b6;clear b6;go_upto_block 2 with fail
  go_cut [11] (fun su wx=>∃q:Nat,su=.int .i64 q/\V<=q+1/\q<=J/\bq R B w1 z wx/\Hid (q=bP (fun x=>!lt x z[a]!) z V J))
  case first=>as_aux_lemma=>
   go_wp2_with fail
   go_loopw [11] (fun Q a3=>∃(q:Nat),Q=.int .i64 q/\V<=q+1/\q<=J/\bq R B w1 z a3/\Hid (bP (fun x=>!lt x z[a]!) z V q=bP (fun x=>!lt x z[a]!) z V J)) (fun Q _=>(intOf Q).toNat)
   case atStart=>exact⟨J,rfl,by omega,ak _,g5.out,ae rfl⟩
   case round=>
    obtain⟨q,rfl,b3,b4,G,U⟩:=hrel;have y:=ae G;clear G;obtain⟨c0,c1⟩:=O.out.so y.out Z;by_cases L:V<=q
    ·have e1:decide ((V:Int)<=(q:Int))=true:=by simp;omega
     cases M:lt z[q]! z[a]! with
     |false=>
      have I:=ae M;clear M;go_wp2_with(first
        |( go_at_fn g;refine(y.out.aG HS.out (q) (a) (by omega) (by omega) (by omega) (by omega)).mono ?_;rintro e wq ⟨rfl,k⟩
           rw[I.out];have K:=ae k;clear k))
      go_roundw
      case rel=>exact⟨q-1,by rw[show((q-1:Nat):Int)=(q:Int)-1 by omega],by omega,by omega,K.out,ae (by rw[<-U.out,dD _ _ _ _ L (by omega) (by simp[I.out])])⟩
      case measure=>simp[intOf];omega
     |true=>
      have I:=ae M;clear M;go_wp2_with(first
        |( go_at_fn g;refine(y.out.aG HS.out (q) (a) (by omega) (by omega) (by omega) (by omega)).mono ?_;rintro e wq ⟨rfl,k⟩
           rw[I.out];have K:=ae k;clear k))
      go_meet
      exact⟨q,rfl,b3,b4,K.out,ae (by rw[<-U.out,bB _ _ _ _ (.inr (by simp[I.out]))])⟩
    have e1:decide ((V:Int)<=(q:Int))=false:=by simp;omega
    go_wp2_with fail
    go_meet
    exact⟨q,rfl,b3,b4,y.out,ae (by rw[<-U.out,bB _ _ _ _ (.inl L)])⟩
  case rest=>
   obtain⟨j1,rfl,j8,j9,b8,c6⟩:=hcut;have b5:=ae b8;clear b8;by_cases c7:j1<V
   ·have e1:decide ((j1:Int)<(V:Int))=true:=by simp;omega
    obtain⟨w3,hs,a1⟩:=b5.out.swap HS.out j1 a (by omega) (by omega);obtain⟨c0,c1⟩:=O.out.so b5.out Z;have H3:=ae a1;clear a1;go_wp2_with fail
    go_ret2;rw[part_first_break lt d a b pv g3.out e9.out g4.out c5.out c6.out c7];exact⟨rfl,d5.out _ _ H3.out⟩
   have e1:decide ((j1:Int)<(V:Int))=false:=by simp;omega
   have d7:=eb lt a i0 J z (by omega) c5.out c6.out (by omega);have g7:=ae (part_first_go lt d a b pv g3.out e9.out g4.out c5.out c6.out (by omega));obtain⟨w3,hs,a1⟩:=b5.out.swap HS.out V j1 (by omega) (by omega);obtain⟨c0,c1⟩:=O.out.so b5.out Z;have H3:=ae a1;clear a1;obtain⟨i4,g8⟩:∃i4:Nat,i4=V+1:=⟨_,rfl⟩;obtain⟨j4,g9⟩:∃j4:Nat,j4=j1-1:=⟨_,rfl⟩;have h1:Hid ((V:Int)+1=(i4:Int)):=ae (by omega);have h2:Hid ((j1:Int)-1=(j4:Int)):=ae (by omega);obtain⟨d3,e0⟩:∃d3,swp z V j1=d3:=⟨_,rfl⟩;rw[e0,<-g8,<-g9]at g7;rw[e0]at H3;have e2:a<i4/\i4<=j4+1/\j4<b:=by omega
   go_upto_block 4 with fail
   rw[h1.out];rw[h2.out];clear hs c0 c1 e0 g8 g9 g5 b5 c5 c6 d7 c7 e1;go_wp2_with fail
   go_loopg [10,11] (j4+1-i4) (fun kx s9 h6 wr=>∃(i j:Nat) (z:Array α),s9=.int .i64 i/\h6=.int .i64 j/\a<i/\i<=j+1/\j<b/\j+1-i<=kx/\bq R B w1 z wr/\Hid (partLoop lt a i j z=partLoop lt a i4 j4 d3))
   case atStart=>exact⟨i4,j4,d3,rfl,rfl,e2.1,e2.2.1,e2.2.2,ak _,H3.out,ae rfl⟩
   case round=>
    obtain⟨i,j,H,rfl,rfl,l4,l5,k0,l6,G,HE⟩:=hrel;have h7:=ae G;clear G;go_upto_block 6 with fail
    go_cut [10] (fun su wx=>∃s:Nat,su=.int .i64 s/\i<=s/\s<=j+1/\bq R B w1 H wx/\Hid (s=cj (fun x=>lt x H[a]!) H j (i)))
    case first=>as_aux_lemma=>
     go_wp2_with fail
     go_loopw [10] (fun Q a3=>∃(s:Nat),Q=.int .i64 s/\i<=s/\s<=j+1/\bq R B w1 H a3/\Hid (cj (fun x=>lt x H[a]!) H j s=cj (fun x=>lt x H[a]!) H j (i))) (fun Q _=>j+1-(intOf Q).toNat)
     case atStart=>exact⟨i,by first|rfl|go_num,ak _,by omega,h7.out,ae rfl⟩
     case round=>
       obtain⟨s,rfl,b1,b2,G,U⟩:=hrel;have y:=ae G;clear G;obtain⟨c0,c1⟩:=O.out.so y.out Z;by_cases L:s<=j
       · have e1:decide ((s:Int)<=(j:Int))=true:=by simp;omega
         cases M:lt H[s]! H[a]! with
         |true=>
           have I:=ae M;clear M;go_wp2_with(first
            |( go_at_fn g;refine(y.out.aG HS.out (s) (a) (by omega) (by omega) (by omega) (by omega)).mono ?_;rintro e wq ⟨rfl,k⟩
               rw[I.out];have K:=ae k;clear k))
           go_roundw
           case rel=>exact⟨s+1,by go_num,by omega,by omega,K.out,ae (by rw[<-U.out,ek _ _ _ _ L (by simp[I.out])])⟩
           case measure=>simp[intOf];omega
         |false=>
           have I:=ae M;clear M;go_wp2_with(first
            |( go_at_fn g;refine(y.out.aG HS.out (s) (a) (by omega) (by omega) (by omega) (by omega)).mono ?_;rintro e wq ⟨rfl,k⟩
               rw[I.out];have K:=ae k;clear k))
           go_meet
           exact⟨s,rfl,b1,b2,K.out,ae (by rw[<-U.out,bZ _ _ _ _ (.inr (by simp[I.out]))])⟩
       have e1:decide ((s:Int)<=(j:Int))=false:=by simp;omega
       go_wp2_with fail
       go_meet
       exact⟨s,rfl,b1,b2,y.out,ae (by rw[<-U.out,bZ _ _ _ _ (.inl L)])⟩
    case rest=>
     obtain⟨Y,rfl,k1,k2,c3,e3⟩:=hcut;have h8:=ae c3;clear c3;go_upto_block 8 with fail
     go_cut [11] (fun su wx=>∃q:Nat,su=.int .i64 q/\Y<=q+1/\q<=j/\bq R B w1 H wx/\Hid (q=bP (fun x=>!lt x H[a]!) H Y j))
     case first=>as_aux_lemma=>
      go_wp2_with fail
      go_loopw [11] (fun Q a3=>∃(q:Nat),Q=.int .i64 q/\Y<=q+1/\q<=j/\bq R B w1 H a3/\Hid (bP (fun x=>!lt x H[a]!) H Y q=bP (fun x=>!lt x H[a]!) H Y j)) (fun Q _=>(intOf Q).toNat)
      case atStart=>exact⟨j,rfl,by omega,ak _,h8.out,ae rfl⟩
      case round=>
        obtain⟨q,rfl,b3,b4,G,U⟩:=hrel;have y:=ae G;clear G;obtain⟨c0,c1⟩:=O.out.so y.out Z;by_cases L:Y<=q
        · have e1:decide ((Y:Int)<=(q:Int))=true:=by simp;omega
          cases M:lt H[q]! H[a]! with
          |false=>
           have I:=ae M;clear M;go_wp2_with(first
             |(go_at_fn g;refine(y.out.aG HS.out (q) (a) (by omega) (by omega) (by omega) (by omega)).mono ?_;rintro e wq ⟨rfl,k⟩
               rw[I.out];have K:=ae k;clear k))
           go_roundw
           case rel=>exact⟨q-1,by rw[show((q-1:Nat):Int)=(q:Int)-1 by omega],by omega,by omega,K.out,ae (by rw[<-U.out,dD _ _ _ _ L (by omega) (by simp[I.out])])⟩
           case measure=>simp[intOf];omega
          |true=>
           have I:=ae M;clear M;go_wp2_with(first
             |(go_at_fn g;refine(y.out.aG HS.out (q) (a) (by omega) (by omega) (by omega) (by omega)).mono ?_;rintro e wq ⟨rfl,k⟩
               rw[I.out];have K:=ae k;clear k))
           go_meet
           exact⟨q,rfl,b3,b4,K.out,ae (by rw[<-U.out,bB _ _ _ _ (.inr (by simp[I.out]))])⟩
        have e1:decide ((Y:Int)<=(q:Int))=false:=by simp;omega
        go_wp2_with fail
        go_meet
        exact⟨q,rfl,b3,b4,y.out,ae (by rw[<-U.out,bB _ _ _ _ (.inl L)])⟩
     case rest=>
      obtain⟨j5,rfl,k3,k4,c4,e4⟩:=hcut;have c8:=ae c4;clear c4;by_cases c7:j5<Y
      · have e1:decide ((j5:Int)<(Y:Int))=true:=by simp;omega
        obtain⟨w4,hs,a2⟩:=c8.out.swap HS.out j5 a (by omega) (by omega);obtain⟨c0,c1⟩:=O.out.so c8.out Z;have H4:=ae a2;clear a2;go_wp2_with fail
        go_ret2;rw[g7.out,<-HE.out,part_break lt a i j H e3.out e4.out c7];exact⟨rfl,d5.out _ _ H4.out⟩
      have e1:decide ((j5:Int)<(Y:Int))=false:=by simp;omega
      have d7:=eb lt a i j H (by omega) e3.out e4.out (by omega);obtain⟨w4,hs,a2⟩:=c8.out.swap HS.out Y j5 (by omega) (by omega);obtain⟨c0,c1⟩:=O.out.so c8.out Z;have H4:=ae a2;clear a2;go_wp2_with fail
      go_roundg (j5-1+1-(Y+1))
      case measure=>omega
      case rel=>exact⟨Y+1,j5-1,swp H Y j5,by go_num,by rw[show((j5-1:Nat):Int)=(j5:Int)-1 by omega],by omega,by omega,by omega,by omega,H4.out,ae (by rw[<-HE.out,part_go lt a i j H e3.out e4.out (by omega)])⟩
end
section
variable{α:Type}[Inhabited α]{lt:α->α->Bool}{R:ap->Array α->Prop}{B size g:Nat}{lb:Array aJ}{sf:Nat}{sb:Array aJ}
theorem Fg(S:fQ prog lt R B size g lb sf sb)(a b:Nat)(d:Array α)(w:ap)(h:R w d)(h4:a<b)(hb:b<=size):
  aV prog 276 #[cV g lb sf sb,.int .i64 a,.int .i64 b] w fun e w'=>e=.returned (.bool (aX lt d a b).2)/\bq R B w (aX lt d a b).1 w':=by
 obtain⟨D,w1,hD,b5,b6,M,hR,a1⟩:=ii S h 299;have eg:=S.enter;have Q:=ae S;have g7:=S.lim;have Y:=ae a1;have O:=ae b6;have HR:=ae hR;clear S h a1 b6 hR;unfold cV;go_enter func276,ntmps276;go_wp2_with fail
 rw[<-b5,<-hD];clear b5 hD;go_loopg [7,8] 5 (fun kx s7 s8 wr=>∃(i s:Nat) (G:Array α),s7=.int .i64 i/\s8=.int .i64 s/\a<i/\i<=b/\s<=5/\5-s<=kx/\bq R B w1 G wr/\Hid (partialIns lt a b (5-s) i G=aX lt d a b))
 case atStart=>exact⟨a+1,0,d,by first|rfl|go_num,rfl,by omega,by omega,by omega,by omega,bq.start HR.out,ae rfl⟩
 case round=>
  obtain⟨i,s,G,rfl,rfl,h5,d8,h6,d9,q,HE⟩:=hrel;have b7:=ae q;clear q;by_cases hs:s<5
  ·have e5:decide ((s:Int)<5)=true:=by simp;omega
   go_upto_block 2 with fail
   clear e5;go_cut [7] (fun su wx=>∃k:Nat,su=.int .i64 k/\i<=k/\k<=b/\bq R B w1 G wx/\Hid (dU lt G b i=k))
   case first=>as_aux_lemma=>
    go_wp2_with fail
    go_loopw [7] (fun vi U=>∃(k:Nat),vi=.int .i64 k/\i<=k/\k<=b/\bq R B w1 G U/\Hid (dU lt G b k=dU lt G b i)) (fun vi _=>b-(intOf vi).toNat)
    case atStart=>exact⟨i,rfl,ak _,d8,b7.out,ae rfl⟩
    case round=>
     obtain⟨k,rfl,a7,a8,q,L⟩:=hrel;have y:=ae q;clear q;obtain⟨c0,c1⟩:=O.out.so y.out M;by_cases c2:k<b
     ·have e1:decide ((k:Int)<(b:Int))=true:=by simp;omega
      cases I:lt G[k]! G[k-1]! with
      |false=>
       have H:=ae I;clear I;go_wp2_with(first
        |( go_at_fn g;refine(y.out.aG Q.out (k) (k-1) (by omega) (by omega) (by omega) (by omega)).mono ?_;rintro e wq ⟨rfl,k⟩
           rw[H.out];have K:=ae k;clear k))
       go_roundw
       case rel=>exact⟨k+1,by go_num,by omega,by omega,K.out,ae (by rw[<-L.out,scanSorted_go lt G b k c2 H.out])⟩
       case measure=>simp[intOf];omega
      |true=>
       have H:=ae I;clear I;go_wp2_with(first
        |( go_at_fn g;refine(y.out.aG Q.out (k) (k-1) (by omega) (by omega) (by omega) (by omega)).mono ?_;rintro e wq ⟨rfl,k⟩
           rw[H.out];have K:=ae k;clear k))
       go_meet
       exact⟨k,rfl,a7,a8,K.out,ae (by rw[<-L.out,dQ lt G b k (.inr H.out)])⟩
     have e1:decide ((k:Int)<(b:Int))=false:=by simp;omega
     go_wp2_with fail
     go_meet
     exact⟨k,rfl,a7,a8,y.out,ae (by rw[<-L.out,dQ lt G b k (.inl c2)])⟩
   case rest=>
    obtain⟨k,rfl,a7,a8,q,HK⟩:=hcut;have Z:=ae q;clear q;by_cases a9:k=b
    ·have e1:((k:Int)==(b:Int))=true:=by simp;omega
     clear d9;go_wp2_with fail
     go_ret;have e:aX lt d a b=(G,true):=by rw[<-HE.out,pi_true lt a b s i G hs (HK.out.trans a9)]
     rw[e];exact⟨rfl,Y.out _ _ Z.out⟩
    have e1:((k:Int)==(b:Int))=false:=by simp;omega
    by_cases c3:b-a<50
    ·have e2:decide ((b:Int)-(a:Int)<50)=true:=by simp;omega
     go_wp2_with fail
     go_ret;have e:aX lt d a b=(G,false):=by rw[<-HE.out,pi_short lt a b s i G hs (by rw[HK.out];exact a9) c3]
     rw[e];exact⟨rfl,Y.out _ _ Z.out⟩
    have e2:decide ((b:Int)-(a:Int)<50)=false:=by simp;omega
    have V:=ae (pi_go lt a b s i k G hs HK.out a9 c3);obtain⟨w3,e0,a4⟩:=Z.out.sK Q.out (k:Int) ((k:Int)-1) k (k-1) (by omega) (by omega) (by omega) (by omega);obtain⟨c0,c1⟩:=O.out.so Z.out M;have H3:=ae a4;clear a4;go_upto_if 47 with(fail)
    clear e0 c0 c1 e1 e2;obtain⟨cb,b0⟩:∃cb,decide ((2:Int)<=(k:Int)-(a:Int))=cb:=⟨_,rfl⟩;rw[b0];have c5:=ae b0;clear b0;obtain⟨d3,c6⟩:∃d3,swp G k (k-1)=d3:=⟨_,rfl⟩;rw[c6]at H3 V;clear c6;go_cut [9] (fun _ wx=>∃J,bq R B w1 J wx/\Hid (J=es lt a k d3))
    case first=>as_aux_lemma=>
     by_cases hc:k-a>=2
     ·obtain rfl:cb=true:=by rw[<-c5.out];simp;omega
      go_wp2_with fail
      go_loopg [9] (k-1) (fun kx s9 U=>∃(j:Nat) (z:Array α),s9=.int .i64 j/\j<=k-1/\j<=kx/\bq R B w1 z U/\Hid (shiftDown lt j z=shiftDown lt (k-1) d3))
      case atStart=>exact⟨k-1,d3,by rw[show((k-1:Nat):Int)=(k:Int)-1 by omega],ak _,ak _,H3.out,ae rfl⟩
      case round=>
       obtain⟨j,z,rfl,e4,e7,q,L⟩:=hrel;have y:=ae q;clear q;obtain⟨c0,c1⟩:=O.out.so y.out M;by_cases hj:1<=j
       ·have e3:decide ((1:Int)<=(j:Int))=true:=by simp;omega
        cases I:lt z[j]! z[j-1]! with
        |true=>
          have H:=ae I;clear I;go_wp2_with(first
            |(go_at_fn g;refine(y.out.aG Q.out (j) (j-1) (by omega) (by omega) (by omega) (by omega)).mono ?_;rintro e wq ⟨rfl,k⟩
              rw[H.out];obtain⟨d0,d1⟩:=O.out.so k M;obtain⟨e8,hs,k3⟩:=k.sK Q.out ((j:Nat):Int) (((j:Nat):Int)-1) (j) (j-1) (by omega) (by omega) (by omega) (by omega);have K:=ae k3;clear k k3))
          go_roundg (j-1)
          case measure=>omega
          case rel=>exact⟨j-1,swp z j (j-1),by rw[show((j-1:Nat):Int)=(j:Int)-1 by omega],by omega,ak _,K.out,ae (by rw[<-L.out,shiftDown_go lt j z hj H.out])⟩
        |false=>
          have H:=ae I;clear I;go_wp2_with(first
            |(go_at_fn g;refine(y.out.aG Q.out (j) (j-1) (by omega) (by omega) (by omega) (by omega)).mono ?_;rintro e wq ⟨rfl,k⟩
              rw[H.out];have K:=ae k;clear k))
          go_meet
          exact⟨z,K.out,ae (by unfold es;rw[if_pos hc,<-L.out,dZ lt j z (.inr H.out)])⟩
       have e3:decide ((1:Int)<=(j:Int))=false:=by simp;omega
       go_wp2_with fail
       go_meet
       exact⟨z,y.out,ae (by unfold es;rw[if_pos hc,<-L.out,dZ lt j z (.inl (by omega))])⟩
     obtain rfl:cb=false:=by rw[<-c5.out];simp;omega
     go_wp2_with fail
     go_meet
     exact⟨d3,H3.out,ae (by unfold es;rw[if_neg hc])⟩
    case rest=>
     obtain⟨J,a6,e9⟩:=hcut;have H4:=ae a6;clear a6;rw[<-e9.out]at V;by_cases hc:b-k>=2
     ·have e1:decide ((2:Int)<=(b:Int)-(k:Int))=true:=by simp;omega
      go_wp2_with fail
      go_loopg [10] (b-(k+1)) (fun kx s9 U=>∃(j:Nat) (z:Array α),s9=.int .i64 j/\k+1<=j/\j<=b/\b-j<=kx/\bq R B w1 z U/\Hid (shiftUp lt b j z=shiftUp lt b (k+1) J))
      case atStart=>exact⟨k+1,J,by first|rfl|go_num,ak _,by omega,ak _,H4.out,ae rfl⟩
      case round=>
       obtain⟨j,z,rfl,e4,e7,h7,q,L⟩:=hrel;have y:=ae q;clear q;obtain⟨c0,c1⟩:=O.out.so y.out M;by_cases hj:j<b
       ·have e3:decide ((j:Int)<(b:Int))=true:=by simp;omega
        cases I:lt z[j]! z[j-1]! with
        |true=>
         have H:=ae I;clear I;go_wp2_with(first
           |( go_at_fn g;refine(y.out.aG Q.out (j) (j-1) (by omega) (by omega) (by omega) (by omega)).mono ?_;rintro e wq ⟨rfl,k⟩
              rw[H.out];obtain⟨d0,d1⟩:=O.out.so k M;obtain⟨e8,hs,k3⟩:=k.sK Q.out ((j:Nat):Int) (((j:Nat):Int)-1) (j) (j-1) (by omega) (by omega) (by omega) (by omega);have K:=ae k3;clear k k3))
         go_roundg (b-(j+1))
         case measure=>omega
         case rel=>exact⟨j+1,swp z j (j-1),by go_num,by omega,by omega,ak _,K.out,ae (by rw[<-L.out,shiftUp_go lt b j z hj H.out])⟩
        |false=>
         have H:=ae I;clear I;go_wp2_with(first
           |( go_at_fn g;refine(y.out.aG Q.out (j) (j-1) (by omega) (by omega) (by omega) (by omega)).mono ?_;rintro e wq ⟨rfl,k⟩
              rw[H.out];have K:=ae k;clear k))
         have e6:dF lt b k J=z:=by unfold dF;rw[if_pos hc,<-L.out,ew lt b j z (.inr H.out)]
         go_roundg (5-(s+1))
         case measure=>omega
         case rel=>exact⟨k,s+1,dF lt b k J,rfl,by go_num,by omega,by omega,by omega,ak _,by rw[e6];exact K.out,ae (by rw[<-HE.out,V.out])⟩
       have e3:decide ((j:Int)<(b:Int))=false:=by simp;omega
       have e6:dF lt b k J=z:=by unfold dF;rw[if_pos hc,<-L.out,ew lt b j z (.inl hj)]
       go_wp2_with fail
       go_roundg (5-(s+1))
       case measure=>omega
       case rel=>exact⟨k,s+1,dF lt b k J,rfl,by go_num,by omega,by omega,by omega,ak _,by rw[e6];exact y.out,ae (by rw[<-HE.out,V.out])⟩
     have e1:decide ((2:Int)<=(b:Int)-(k:Int))=false:=by simp;omega
     have e6:dF lt b k J=J:=by unfold dF;rw[if_neg hc]
     go_wp2_with fail
     go_roundg (5-(s+1))
     case measure=>omega
     case rel=>exact⟨k,s+1,dF lt b k J,rfl,by go_num,by omega,by omega,by omega,ak _,by rw[e6];exact H4.out,ae (by rw[<-HE.out,V.out])⟩
  have e5:decide ((s:Int)<5)=false:=by simp;omega
  obtain rfl:s=5:=by omega
  go_wp2_with fail
  go_ret;have e:aX lt d a b=(G,false):=by rw[<-HE.out,pi_end]
  rw[e];exact⟨rfl,Y.out _ _ b7.out⟩
end
section
variable{α:Type}[Inhabited α]{lt:α->α->Bool}{R:ap->Array α->Prop}{B size g:Nat}{lb:Array aJ}{sf:Nat}{sb:Array aJ}
structure ln(R:ap->Array α->Prop)(N cb:Nat)(d:Array α)(s:Nat)(w:ap):Prop where
 row:R w d
 cell:w.cell? ⟨cb,0,none⟩=some (.int .i64 s)
 free:w.frozen? ⟨cb,0,none⟩=false
 new:N<=cb
structure xm(R:ap->Array α->Prop)(N:Nat):Prop where
 le:∀{w:ap} {d:Array α},R w d->N<=w.heap.size
 keep:∀{w w':ap} {d:Array α},R w d->ag (fun b=>N<=b) w w'->R w' d
omit [Inhabited α] in
theorem ln.gr{N b:Nat}{d:Array α}{s:Nat}{w w':ap}(F:xm R N)(h:ln R N b d s w)(k:Gr w w'):ln R N b d s w':=
 ⟨F.keep h.row (ag.ah k),k.keeps h.cell,by rw[World.frozen?_of_block (k.block _ (ad h.cell))];exact h.free,h.new⟩
omit [Inhabited α] in
theorem ln.set{N b:Nat}{d:Array α}{s t:Nat}{w:ap}(F:xm R N)(h:ln R N b d s w):ln R N b d t (w.setCell ⟨b,0,none⟩ (.int .i64 t)):=
 ⟨F.keep h.row (ag.setCell w _ h.new),World.cell?_setCell_same w _ _ h.cell,by simpa using h.free,h.new⟩
theorem zN(S:fQ prog lt R B size g lb sf sb)(N D:Nat)(F:xm R N)(a b s:Nat)(d:Array α)(w:ap)(h:ln R N D d s w)(ha:a<size)(Q:b<size)(hs:s<1000):
  aV prog 305 #[cV g lb sf sb,.int .i64 a,.int .i64 b,.pointer (some ⟨D,0,none⟩)] w fun e M=>e=.returned (.tuple #[.int .i64 ((order2 lt d a b s).1:Nat),.int .i64 ((order2 lt d a b s).2.1:Nat)])/\ln R N D d (order2 lt d a b s).2.2 M/\ag (fun k=>k=D) w M:=by
 have y:=(Gr.refl w).alloc (.cells #[.func (.func g) #[] lb,.func (.func sf) #[] sb] 299);have L:=uE g lb sf sb w 299;have V:=ad h.cell;have H:=ae (h.gr F y);have O:=ae y;have I:=ae F;have G:=S.less H.out.row b a Q ha;have Y:=S.enter;obtain⟨Z,c1⟩:=L;unfold cV;clear S F y h;go_enter func305,ntmps305;cases q:lt d[b]! d[a]! with
 |true=>
  have e:order2 lt d a b s=(b,a,s+1):=by unfold order2;rw[q];rfl
  rw[e];rw[q]at G;clear e q;go_wp2_with(first
   |(go_at_fn g;refine G.mono ?_;rintro e U ⟨rfl,k⟩
     have z:=ae (H.out.gr I.out k);have J:=ae k;have z0:=z.out.cell;have z1:=z.out.free;clear k))
  go_ret2;exact⟨rfl,z.out.set I.out,(ag.ah (O.out.trans J.out)).trans (ag.setCell _ _ rfl)⟩
 |false=>
  have e:order2 lt d a b s=(a,b,s):=by unfold order2;rw[q];rfl
  rw[e];rw[q]at G;clear e q;go_wp2_with(first
   |(go_at_fn g;refine G.mono ?_;rintro e U ⟨rfl,k⟩
     have z:=ae (H.out.gr I.out k);have J:=ae k;clear k))
  go_ret2;exact⟨rfl,z.out,ag.ah (O.out.trans J.out)⟩
theorem zO(S:fQ prog lt R B size g lb sf sb)(N G:Nat)(F:xm R N)(a b c s:Nat)(d:Array α)(w:ap)(h:ln R N G d s w)(ha:a<size)(hb:b<size)(hc:c<size)(hs:s<900):
  aV prog 300 #[cV g lb sf sb,.int .i64 a,.int .i64 b,.int .i64 c,.pointer (some ⟨G,0,none⟩)] w fun e w'=>e=.returned (.int .i64 ((median lt d a b c s).1:Nat))/\ln R N G d (median lt d a b c s).2 w'/\ag (fun k=>k=G) w w':=by
 have M:=(Gr.refl w).alloc (.cells #[.func (.func g) #[] lb,.func (.func sf) #[] sb] 299);have U:=uE g lb sf sb w 299;have a9:=ad h.cell;have H1:=ae (h.gr F M);have HG:=ae M;have HF:=ae F;have V:=ae S;have q:¬w.heap.size=G:=by omega
 have y:=ae U;clear M h S F U;obtain⟨w1,L⟩:∃w1,w1=w.alloc (.cells #[.func (.func g) #[] lb,.func (.func sf) #[] sb] 299):=⟨_,rfl⟩;obtain⟨D,Y⟩:∃D,D=w.heap.size:=⟨_,rfl⟩;rw[<-L]at H1 HG y;rw[<-Y]at q y;obtain⟨r1,Z⟩:∃r1,order2 lt d a b s=r1:=⟨_,rfl⟩;obtain⟨r2,h2⟩:∃r2,order2 lt d r1.2.1 c r1.2.2=r2:=⟨_,rfl⟩;obtain⟨O,h3⟩:∃O,order2 lt d r1.1 r2.1 r2.2.2=O:=⟨_,rfl⟩;have em:median lt d a b c s=(O.2.1,O.2.2):=by unfold median;simp only[Z,h2,h3]
 rw[em];clear em;have Q:=cg lt d s ha hb;have q1:=bF lt d a b s;rw[Z]at Q q1;have b2:=cg lt d r1.2.2 Q.2 hc;have q2:=bF lt d r1.2.1 c r1.2.2;rw[h2]at b2 q2;have H:=zN V.out N G HF.out a b s d w1 H1.out ha hb (by omega);rw[Z]at H;have I:=fun w (h:ln R N G d r1.2.2 w)=>zN V.out N G HF.out r1.2.1 c r1.2.2 d w h Q.2 hc (by omega);rw[h2]at I;have J:=fun w (h:ln R N G d r2.2.2 w)=>zN V.out N G HF.out r1.1 r2.1 r2.2.2 d w h Q.1 b2.1 (by omega);rw[h3]at J;obtain⟨d8,d9,e0⟩:=r1;obtain⟨e1,e2,e3⟩:=r2;obtain⟨e4,e5,e6⟩:=O;unfold cV at H I J;simp only at H I J;have a1:=ae H;have a2:=ae I;have a3:=ae J;obtain⟨c0,c1⟩:=y.out;unfold cV;clear Z h2 h3 Q q1 b2 q2 H I J V a9;rw[L,Y]at c0 c1;go_enter func300,ntmps300;have a4:=ae L;have HD:=ae Y;clear L Y;go_wp2_with fail
 rw[<-a4.out,<-HD.out];clear c0 c1 a4 HD;refine a1.out.mono ?_;rintro e w2 ⟨rfl,k,z⟩;have d0:=z.keeps q y.out.c0;have d1:=z.keeps q y.out.c1;have K1:=ae k;have G1:=ae z;clear k z a1;go_wp2_with fail
 refine(a2.out _ K1.out).mono ?_;rintro e w3 ⟨rfl,k,z⟩;have d2:=z.keeps q d0;have d3:=z.keeps q d1;have K2:=ae k;have G2:=ae (G1.out.trans z);clear k z a2 d0 d1;go_wp2_with fail
 refine(a3.out _ K2.out).mono ?_;rintro e w4 ⟨rfl,k,z⟩;have K3:=ae k;have G3:=ae (G2.out.trans z);clear k z a3 d2 d3;go_wp2_with fail
 go_ret;exact⟨rfl,K3.out,(ag.ah HG.out).trans G3.out⟩
theorem lQ(S:fQ prog lt R B size g lb sf sb)(N y:Nat)(F:xm R N)(a s:Nat)(d:Array α)(w:ap)(h:ln R N y d s w)(M:1<=a)(ha:a+1<size)(hs:s<900):
  aV prog 299 #[cV g lb sf sb,.int .i64 a,.pointer (some ⟨y,0,none⟩)] w fun e D=>e=.returned (.int .i64 ((medianAdjacent lt d a s).1:Nat))/\ln R N y d (medianAdjacent lt d a s).2 D/\ag (fun k=>k=y) w D:=by
 have q:=(Gr.refl w).alloc (.cells #[.func (.func g) #[] lb,.func (.func sf) #[] sb] 299);obtain⟨O,Q⟩:=uE g lb sf sb w 299;have H:=S.lim;have b:=zO S N y F (a-1) a (a+1) s d _ (h.gr F q) (by omega) (by omega) ha hs;rw[show((a-1:Nat):Int)=(a:Int)-1 by omega,show((a+1:Nat):Int)=(a:Int)+1 by omega]at b;unfold cV at b;have z:=ae b;have I:=ae q;unfold cV;unfold medianAdjacent;generalize median lt d (a-1) a (a+1) s=m at*;clear b q S F h;go_enter func299,ntmps299;go_wp2_with(first
  |(go_at_call 300;refine z.out.mono ?_;rintro e U ⟨rfl,k,G⟩
    have J:=ae k;have L:=ae G;clear k G))
 go_ret;exact⟨rfl,J.out,(ag.ah I.out).trans L.out⟩
end
section
variable{α:Type}[Inhabited α]{lt:α->α->Bool}{R:ap->Array α->Prop}{B size g:Nat}{lb:Array aJ}{sf:Nat}{sb:Array aJ}
def lR:Hint->Int
 | .unknown=>0
 | .increasing=>1
 | .decreasing=>2
theorem jy(lt:α->α->Bool)(d:Array α)(a b c s n:Nat)(ha:a<n)(y:b<n)(hc:c<n):(median lt d a b c s).1<n/\(median lt d a b c s).2<=s+3:=by
 have q:=cg lt d s ha y;have D:=bF lt d a b s;have z:=cg lt d (order2 lt d a b s).2.2 q.2 hc;have G:=bF lt d (order2 lt d a b s).2.1 c (order2 lt d a b s).2.2;have B:=cg lt d (order2 lt d (order2 lt d a b s).2.1 c (order2 lt d a b s).2.2).2.2 q.1 z.1;have H:=bF lt d (order2 lt d a b s).1 (order2 lt d (order2 lt d a b s).2.1 c (order2 lt d a b s).2.2).1 (order2 lt d (order2 lt d a b s).2.1 c (order2 lt d a b s).2.2).2.2;unfold median;simp only[];exact⟨B.2,by omega⟩
def sN(lt:α->α->Bool)(d:Array α)(a q l:Nat):Nat×Nat:=
 if l>=50 then median lt d (medianAdjacent lt d (a+q) 0).1 (medianAdjacent lt d (a+q*2) (medianAdjacent lt d (a+q) 0).2).1 (medianAdjacent lt d (a+q*3) (medianAdjacent lt d (a+q*2) (medianAdjacent lt d (a+q) 0).2).2).1 (medianAdjacent lt d (a+q*3) (medianAdjacent lt d (a+q*2) (medianAdjacent lt d (a+q) 0).2).2).2
 else median lt d (a+q) (a+q*2) (a+q*3) 0
theorem BK(lt:α->α->Bool)(d:Array α)(a b:Nat)(h:8<=b-a):cl lt d a b=((sN lt d a ((b-a)/4) (b-a)).1,if(sN lt d a ((b-a)/4) (b-a)).2=0 then .increasing else if(sN lt d a ((b-a)/4) (b-a)).2=12 then .decreasing else .unknown):=by
 unfold cl sN;simp only[Nat.mul_one];rw[if_pos h]
theorem DJ(S:fQ prog lt R B size g lb sf sb)(a b:Nat)(d:Array α)(w:ap)(h:R w d)(g6:a+12<b)(hb:b<=size):
  aV prog 274 #[cV g lb sf sb,.int .i64 a,.int .i64 b] w fun e w'=>e=.returned (.tuple #[.int .i64 ((cl lt d a b).1:Nat),.int .i64 (lR (cl lt d a b).2)])/\R w' d/\Gr w w':=by
 obtain⟨N,a0,a6⟩:=S.bg;have HF:Hid (xm R N):=ae ⟨a0,a6⟩;have HS:=ae S;have e1:=S.lim;have g7:=a0 h;obtain⟨H,b3⟩:∃H,H=b-a:=⟨_,rfl⟩;obtain⟨q,hq⟩:∃q,q=H/4:=⟨_,rfl⟩;have HL:Hid ((b:Int)-(a:Int)=(H:Int)):=ae (by omega);have L:(H:Int).tdiv 4=(q:Int):=by rw[Int.tdiv_eq_ediv_of_nonneg (by omega)];omega
 have HQ:=ae L;have EC:=ae (BK lt d a b (by omega));rw[<-b3,<-hq]at EC;obtain⟨m,hm⟩:∃m,sN lt d a q H=m:=⟨_,rfl⟩;rw[hm]at EC;have b4:=(Gr.refl w).alloc (.cells #[.func (.func g) #[] lb,.func (.func sf) #[] sb] 299);have b5:=ae (uE g lb sf sb w 299);rw[EC.out];have e3:H+a<=b/\b<=H+a:=by omega
 have g8:4*q<=H/\H<4*q+4:=by omega
 clear b3 hq;unfold cV;go_enter func274,ntmps274;clear L;go_upto_region 2 with(fail)
 rw[HL.out];have a1:=b4.alloc (.cells #[.int .i64 0] 3);have M:((w.alloc (.cells #[.func (.func g) #[] lb,.func (.func sf) #[] sb] 299)).alloc (.cells #[.int .i64 0] 3)).cell? ⟨(w.alloc (.cells #[.func (.func g) #[] lb,.func (.func sf) #[] sb] 299)).heap.size,0,none⟩=some (.int .i64 0):=by rw[az];rfl
 have J:((w.alloc (.cells #[.func (.func g) #[] lb,.func (.func sf) #[] sb] 299)).alloc (.cells #[.int .i64 0] 3)).frozen? ⟨(w.alloc (.cells #[.func (.func g) #[] lb,.func (.func sf) #[] sb] 299)).heap.size,0,none⟩=false:=by simp
 have b2:=b5.out.gr ((Gr.refl _).alloc (.cells #[.int .i64 0] 3));have a7:(w.alloc (.cells #[.func (.func g) #[] lb,.func (.func sf) #[] sb] 299)).heap.size=w.heap.size+1:=by simp
 go_upto_region 3 with(fail)
 rw[a7]at M J
 try rw[a7]
 generalize(w.alloc (.cells #[.func (.func g) #[] lb,.func (.func sf) #[] sb] 299)).alloc (.cells #[.int .i64 0] 3)=w2 at*;have K2:Hid (ln R N (w.heap.size+1) d 0 w2):=ae ⟨a6 h (ag.ah a1),M,J,by omega⟩;have y:¬w.heap.size=w.heap.size+1:=by omega
 have g9:=ae a1;have e4:w.heap.size+1<w2.heap.size:=ad M;obtain⟨O,Q⟩:=b2;have G2:Hid (ag (fun k=>k=w.heap.size+1) w w2):=ae (ag.ah a1);have I:Hid (∀w',ag (fun k=>k=w.heap.size+1) w w'->Gr w w'):=ae fun w' k=>k.gr (Gr.refl w) (fun x e=>by have e2:x=w.heap.size+1:=e;omega);clear b4 a1 b5 M J a7 a6 a0 h S;generalize w.heap.size+1=cb at*;generalize w.heap.size=D at*;have L:=HQ.out;go_upto_region 6 with(fail)
 clear L;have e8:decide ((8:Int)<=(H:Int))=true:=by simp;omega
 by_cases b6:50<=H
 ·have d4:decide ((50:Int)<=(H:Int))=true:=by simp;omega
  have em:sN lt d a q H=median lt d (medianAdjacent lt d (a+q) 0).1 (medianAdjacent lt d (a+q*2) (medianAdjacent lt d (a+q) 0).2).1 (medianAdjacent lt d (a+q*3) (medianAdjacent lt d (a+q*2) (medianAdjacent lt d (a+q) 0).2).2).1 (medianAdjacent lt d (a+q*3) (medianAdjacent lt d (a+q*2) (medianAdjacent lt d (a+q) 0).2).2).2:=if_pos b6;obtain⟨U,h1⟩:∃U,medianAdjacent lt d (a+q) 0=U:=⟨_,rfl⟩;obtain⟨V,h2⟩:∃V,medianAdjacent lt d (a+q*2) U.2=V:=⟨_,rfl⟩;obtain⟨m3,h3⟩:∃m3,medianAdjacent lt d (a+q*3) V.2=m3:=⟨_,rfl⟩;rw[h1,h2,h3,hm]at em;have p1:=jy lt d (a+q-1) (a+q) (a+q+1) 0 size (by omega) (by omega) (by omega);have c2:U.1<size/\U.2<=0+3:=by rw[<-h1];exact p1
  have p2:=jy lt d (a+q*2-1) (a+q*2) (a+q*2+1) U.2 size (by omega) (by omega) (by omega);have c3:V.1<size/\V.2<=U.2+3:=by rw[<-h2];exact p2
  have p3:=jy lt d (a+q*3-1) (a+q*3) (a+q*3+1) V.2 size (by omega) (by omega) (by omega);have c4:m3.1<size/\m3.2<=V.2+3:=by rw[<-h3];exact p3
  have C1:=fun w (k:ln R N cb d 0 w)=>lQ HS.out N cb HF.out (a+q) 0 d w k (by omega) (by omega) (by omega);have C2:=fun w (k:ln R N cb d U.2 w)=>lQ HS.out N cb HF.out (a+q*2) U.2 d w k (by omega) (by omega) (by omega);have C3:=fun w (k:ln R N cb d V.2 w)=>lQ HS.out N cb HF.out (a+q*3) V.2 d w k (by omega) (by omega) (by omega);have Y:=fun w (k:ln R N cb d m3.2 w)=>zO HS.out N cb HF.out U.1 V.1 m3.1 m3.2 d w k c2.1 c3.1 c4.1 (by omega);rw[h1,show((a+q:Nat):Int)=(a:Int)+(q:Int)by omega]at C1;rw[h2,show((a+q*2:Nat):Int)=(a:Int)+(q:Int)*2 by omega]at C2;rw[h3,show((a+q*3:Nat):Int)=(a:Int)+(q:Int)*3 by omega]at C3;rw[<-em]at Y;unfold cV at C1 C2 C3 Y;have c8:=ae C1;have c9:=ae C2;have d0:=ae C3;have Z:=ae Y;clear C1 C2 C3 Y h1 h2 h3 em hm p1 p2 p3 c2 c3 c4;go_wp2_with fail
  refine(c8.out _ K2.out).mono ?_;rintro e w3 ⟨rfl,k,z⟩;have K3:=ae k;have G3:=ae (G2.out.trans z);have O:=z.keeps y O;have Q:=z.keeps y Q;clear k z c8;go_wp2_with fail
  refine(c9.out _ K3.out).mono ?_;rintro e w4 ⟨rfl,k,z⟩;have K4:=ae k;have G4:=ae (G3.out.trans z);have O:=z.keeps y O;have Q:=z.keeps y Q;clear k z c9;go_wp2_with fail
  refine(d0.out _ K4.out).mono ?_;rintro e w5 ⟨rfl,k,z⟩;have K5:=ae k;have G5:=ae (G4.out.trans z);have O:=z.keeps y O;have Q:=z.keeps y Q;clear k z d0;go_wp2_with fail
  refine(Z.out _ K5.out).mono ?_;rintro e w6 ⟨rfl,k,z⟩;have K6:=ae k;have G6:=ae (G5.out.trans z);have O:=z.keeps y O;have Q:=z.keeps y Q;clear k z Z;have s:m.2=0\/m.2=12\/(m.2≠0/\m.2≠12):=by omega
  have M:=K6.out.cell;rcases s with s|s|⟨s,G⟩
  ·have J:((m.2:Nat):Int)=0:=by omega
   rw[J]at M;go_wp2_with fail
   go_ret2;exact⟨by first|rfl|simp[lR,s]|simp[lR,s,G],K6.out.row,I.out _ G6.out⟩
  ·have J:((m.2:Nat):Int)=12:=by omega
   rw[J]at M;go_wp2_with fail
   go_ret2;exact⟨by first|rfl|simp[lR,s]|simp[lR,s,G],K6.out.row,I.out _ G6.out⟩
  have J:(((m.2:Nat):Int)==0)=false:=by simp;omega
  have z2:(((m.2:Nat):Int)==12)=false:=by simp;omega
  go_wp2_with fail
  go_ret2;exact⟨by first|rfl|simp[lR,s]|simp[lR,s,G],K6.out.row,I.out _ G6.out⟩
 have d4:decide ((50:Int)<=(H:Int))=false:=by simp;omega
 have em:sN lt d a q H=median lt d (a+q) (a+q*2) (a+q*3) 0:=if_neg b6;rw[hm]at em;have Y:=fun w (k:ln R N cb d 0 w)=>zO HS.out N cb HF.out (a+q) (a+q*2) (a+q*3) 0 d w k (by omega) (by omega) (by omega) (by omega);rw[<-em,show((a+q:Nat):Int)=(a:Int)+(q:Int)by omega,show((a+q*2:Nat):Int)=(a:Int)+(q:Int)*2 by omega,show((a+q*3:Nat):Int)=(a:Int)+(q:Int)*3 by omega]at Y;unfold cV at Y;have Z:=ae Y;clear Y em hm;go_wp2_with fail
 refine(Z.out _ K2.out).mono ?_;rintro e w3 ⟨rfl,k,z⟩;have K3:=ae k;have G3:=ae (G2.out.trans z);have O:=z.keeps y O;have Q:=z.keeps y Q;clear k z Z;have s:m.2=0\/m.2=12\/(m.2≠0/\m.2≠12):=by omega
 have M:=K3.out.cell;rcases s with s|s|⟨s,G⟩
 ·have J:((m.2:Nat):Int)=0:=by omega
  rw[J]at M;go_wp2_with fail
  go_ret2;exact⟨by first|rfl|simp[lR,s]|simp[lR,s,G],K3.out.row,I.out _ G3.out⟩
 ·have J:((m.2:Nat):Int)=12:=by omega
  rw[J]at M;go_wp2_with fail
  go_ret2;exact⟨by first|rfl|simp[lR,s]|simp[lR,s,G],K3.out.row,I.out _ G3.out⟩
 have J:(((m.2:Nat):Int)==0)=false:=by simp;omega
 have z2:(((m.2:Nat):Int)==12)=false:=by simp;omega
 go_wp2_with fail
 go_ret2;exact⟨by first|rfl|simp[lR,s]|simp[lR,s,G],K3.out.row,I.out _ G3.out⟩
end
