/-
  Part 18 of the proof.
-/
import Derived.Test.YtldmhjbdahjhdaaGreatDoorZa17
open Go.Proofs.Tryz
open Go.Lib renaming hid->ae,frozen_of_heap->cl
open List renaming length_append->ak,take_of_length_le->ap,mem_singleton->aJ,take_succ_eq_append_getElem->aQ,length_cons->aS,length_nil->aV,length_map->aX,length_take->bh,mem_cons_of_mem->bj,append_nil->bt,mem_cons_self->bu,getElem_concat_length->bF,pairwise_map->bM,map_cons->bQ,getElem_mem->bT,mem_map->bX,mem_append->b_,mem_append_right->cf,length_filter_le->cg,sum_cons->cj,foldl_append->cK,all_eq_true->cL,getElem_map->cO,mem_flatMap->cW,drop_zero->de
open Go.World renaming cell?_alloc_new->az,ownsRow_nil->bP
open Go renaming World->aU,Calls->bB,Value->bZ
open Nat renaming zero_add->bc,zero_le->be,le_refl->bv,le_trans->cD
open Go.IntKind renaming wrap_i64->bz,i64->ch
open Go.Sort renaming ahead->bA,putRowK->bW,alloc_eq_grow->co,mapBlock->da,grow->dg,putRow->dD
open Array renaming length_toList->bC,ext'->dF
open Go.RowKit renaming wrap64->cs
open List.Pairwise renaming nil->cF
open Go.World.ownsRow renaming stored->dh,cells->dA
open Go.Sort.HoldsK renaming cell->di
open Go.Value renaming slice->dr
open Go.Proofs renaming sortWorldK->dJ
open Go.Proofs.Tryz renaming ntmps51->dQ,func51->dU
open Option.some renaming inj->dS
open List.Perm renaming refl->dT
open Prod.mk renaming injEq->dZ
set_option maxRecDepth 100000
set_option maxHeartbeats 100000000
set_option linter.all false
namespace Go.Proofs.YtldmhjbdahjhdaaGreatDoor
section
open Go Go.RowKit
def qC{b:Type}(l:List (List b)):Nat:=(l.map fun x=>x.length+1).sum
theorem vy(p:UInt8->Bool):∀(l b:List UInt8),qC (cr p b l)<=b.length+l.length+1
 |[],b=>by
  rw[cr]
  split
  ·simp[qC]
  simp[qC]
 |c::l,b=>by
  rw[cr]
  split
  ·have:=vy p l (b++[c]);rw[ak]at this;simp only[aS,aV]at this⊢;omega
  split
  ·have:=vy p l [];simp only[aS,aV]at this⊢;omega
  have:=vy p l [];have e:qC (b::cr p [] l)=b.length+1+qC (cr p [] l):=by simp[qC]
  rw[e];simp only[aS,aV]at this⊢;omega
theorem GO:∀(T:List (List UInt8×List UInt8)) (s:List UInt8),(∀e∈T,e.2.length<=e.1.length)->(jx T s).length<=s.length
 |[],s,_=>bv _
 |( e,r)::rest,s,h=>by
   rw[jx];have b:=h (e,r) bu;simp only at b
   split
   · rename_i hs
     split
     ·exact bv _
     rename_i y
     have z:e.length<=s.length:=(List.isSuffixOf_iff_suffix.1 hs).length_le;rw[ak,bh];omega
   exact GO rest s fun e q=>h e (bj _ q)
theorem Rr:∀e∈jw,e.2.length<=e.1.length:=by decide
theorem Rs(y:List UInt8):(eZ y).data.toList.length<=y.length:=by
 unfold eZ nS;refine cD (GO jw _ Rr) ?_;simp only[bh];omega
theorem Lw{w:ByteArray}(h:Jj w.data.toList):cI w/\w.size<=12/\1<=w.size:=by
 refine⟨⟨?_,by have:=h.2.1;omega⟩,by rw[size_data];exact h.2.1,?_⟩
 ·rw[cL];intro c hc;have b:=cL.1 h.2.2 c hc;have q:c≠0:=by
   intro e;subst e
   revert b
   decide
  simpa using q
 rw[size_data];cases s:w.data.toList with
 |nil=>exact absurd s h.1
 |cons a l=>simp
theorem Lx(l:List (List UInt8)):qC (l.map fun x=>(eZ (x.map a_)).data.toList)<=qC l:=by
 induction l with
 |nil=>exact bv _
 |cons x l b=>
  have q:=Rs (x.map a_);rw[aX]at q;simp only[qC,bQ,cj]at b⊢;omega
theorem Rt(l:List ByteArray):qA l=18*l.length+qC (l.map fun x=>x.data.toList):=by
 induction l with
 |nil=>rfl
 |cons x l b=>
  rw[sE,b];simp only[qC,bQ,cj,aS,size_data];omega
theorem Ru(l:List ByteArray)(h:∀x∈l,1<=x.size):2*l.length<=qC (l.map fun x=>x.data.toList):=by
 induction l with
 |nil=>exact bv _
 |cons x l b=>
  have q:=h x bu;have s:=b fun y z=>h y (bj _ z);rw[size_data]at q;simp only[qC,bQ,cj,aS]at s⊢;omega
theorem ot{s:ByteArray}(hs:s.size<=40):(aD s).length<=20/\qA (aD s)<=401/\∀w∈aD s,cI w/\w.size<=12:=by
 have hf:∀w∈aD s,cI w/\w.size<=12/\1<=w.size:=fun w hw=>Lw (yt s w hw);have q:qC ((aD s).map fun x=>x.data.toList)<=41:=by
  rw[sG,List.map_map];refine cD (Lx _) ?_;have:=vy bD s.data.toList [];rw[size_data]at hs;simp only[aV]at this;omega
 have y:=Ru (aD s) fun x b=>(hf x b).2.2;refine⟨by omega,by rw[Rt];omega,fun w hw=>⟨(hf w hw).1,(hf w hw).2.1⟩⟩
end
section
open Go Go.RowKit Go.Shelf Go.Lib Go.Sort
def bS.val(p:bS):bZ:=.agg #[.int .i64 p.1,.int .i64 p.2]
def gb(a0 w:aU)(v:bZ)(xs:List bS):Prop:=w.ownsRow a0.heap.size 47 2 v xs.length (dp xs)
theorem gb.row{a0 w:aU}{v:bZ}{xs:List bS}(h:gb a0 w v xs):w.ownsRow a0.heap.size 47 2 v xs.length (dp xs):=h
theorem gb.gr{a0 w w':aU}{v:bZ}{xs:List bS}(h:gb a0 w v xs)(g:Gr w w'):gb a0 w' v xs:=aF h g
theorem gb.back{a0 s w:aU}{v:bZ}{xs:List bS}(h:gb s w v xs)(g:Gr a0 s):gb a0 w v xs:=by
 refine⟨h.row.1,?_⟩;rcases h.row.2 with b|⟨g',cap,q,b,y,z⟩
 ·exact .inl b
 exact .inr ⟨g',cap,q,b,cD g.size y,z⟩
theorem RL:(prog.info? 47).map (fun i=>(i.zero,i.size,i.bytes))=some (some (.agg #[.int .i64 0,.int .i64 0]),2,16):=by kernel_rfl
theorem gb.ur{a0 w:aU}{v:bZ}{xs:List bS}(h:gb a0 w v xs):(v=.slice none 0 0/\xs=[])\/∃B cap,v=.slice (some ⟨B,0,none⟩) xs.length cap/\xs.length<=cap/\a0.heap.size<=B/\B<w.heap.size/\jo w B xs:=by
 have hc:=fun g b=>dA (g:=g) h.row b;rcases h.row.2 with⟨rfl,D⟩|⟨g,cap,H,rfl,G,q,s,_⟩
 ·exact .inl ⟨rfl,List.eq_nil_of_length_eq_zero D⟩
 refine .inr ⟨g,cap,rfl,s,G,(Array.getElem?_eq_some_iff.1 q).1,fun i hi=>?_⟩;have b:=nw xs i hi;have y:=hc g rfl _ _ b.1;have z:=hc g rfl _ _ b.2;have e:∀j,(⟨g,0,none⟩:Addr).add j=⟨g,j,none⟩:=by
  intro j;unfold Addr.add;split<;>simp_all
 rw[e]at y z;exact⟨⟨y,cl q _⟩,⟨z,cl q _⟩⟩
theorem gb.own{a0 w:aU}{v:bZ}{xs:List bS}(h:gb a0 w v xs):dP a0 w v xs:=h.ur
theorem jR{a0 w:aU}{q:Array Oper}{rest:List Oper}{o:Oper}{a:Act}{Q:Exit->Act->aU->Prop}(D:o.guard=none)(s x:Operand)
  (M:o.op=.call {callee:=.builtin .append,args:=#[s,x],argTypes:=#[41,41]}) (v:bZ) (us:List bS) (hs:a.eval s=v) (z:gb a0 w v us) (p:bS)
  (O:a.eval x=.slice (some ⟨w.heap.size,0,none⟩) 1 1) (Y:us.length+1<=1000000) (S:Gr a0 w)
  (h:∀y w',gb a0 w' y (us++[p])->Gr a0 w'->wpList prog q Q rest (a.put o.dst y) w'):wpList prog q Q (o::rest) a (w.alloc (.cells #[.int .i64 p.1,.int .i64 p.2] 47)):=by
 obtain⟨b,B,J⟩:∃b,prog.info? 47=some b/\(b.zero,b.size,b.bytes)=(some (.agg #[.int .i64 0,.int .i64 0]),2,16):=by
  have h:=RL;cases L:prog.info? 47 with
  |none=>rw[L]at h;cases h
  |some b=>rw[L]at h;exact⟨b,rfl,dS h⟩
 simp only[dZ]at J;obtain⟨G,H,I⟩:=J;refine bK (P:=prog) D s x 41 M 47 b (.agg #[.int .i64 0,.int .i64 0]) 2 16 underlying41 B G H I rfl (by decide) v us.length (dp us) hs z.row [.int .i64 p.1,.int .i64 p.2] rfl (by intro u hu;simp only[List.mem_cons,List.not_mem_nil,or_false]at hu;rcases hu with rfl|rfl<;>rfl) O S (by omega) (by omega)
  (fun y w' U V=>h y w' ?_ V)
 unfold gb;rw[ak,lL];exact U
theorem LS(xs:List bS)(r o b:Int):(dp (xs++[(r,o)])).set (xs.length*2+1) (.int .i64 b)=dp (xs++[(r,b)]):=by
 rw[lL,lL,List.set_append_right _ _ (by rw[lk];omega),lk];have:xs.length*2+1-xs.length*2=1:=by omega
 rw[this]
 rfl
theorem gb.again{a0 w:aU}{g cap:Nat}{xs:List bS}{r o:Int}(h:gb a0 w (.slice (some ⟨g,0,none⟩) (xs.length+1) cap) (xs++[(r,o)]))(b:Int):
  gb a0 (w.setCell ⟨g,xs.length*2+1,none⟩ (.int .i64 b)) (.slice (some ⟨g,0,none⟩) (xs.length+1) cap) (xs++[(r,b)]):=by
 have q:=h.row;rw[ak]at q;have s:=dh q (xs.length*2+1) (.int .i64 b);rw[LS]at s;unfold gb;rw[ak];exact s.1
abbrev uQ:Type:={p:bS//0<=p.1/\p.1<=2147483648}
instance:Inhabited uQ:=⟨⟨(0,0),by decide⟩⟩
def tk(x:uQ):List bZ:=[.int .i64 x.1.1,.int .i64 x.1.2]
def DY(x y:uQ):Int:=x.1.1-y.1.1
theorem yF(x y:uQ):ltOf DY x y=decide (x.1.1<y.1.1):=by
 unfold ltOf DY;by_cases h:x.1.1<y.1.1
 ·rw[decide_eq_true h];simp;omega
 rw[decide_eq_false h];simp;omega
theorem Um:SWO (ltOf DY) where
 irrefl x:=by rw[yF];simp
 trans x y z h1 h2:=by
  rw[yF]at*;simp only[decide_eq_true_eq]at*;omega
 ntrans x y z h1 h2:=by
  rw[yF]at*;simp only[decide_eq_false_iff_not]at*;omega
theorem Xp(w:aU)(a b:Obj):(w.alloc a).alloc b=dg (w.drewN 0) #[a,b]:=by
 rw[co,co,Sort.grow_grow]
 rfl
theorem VV(x y:uQ)(w:aU):bB prog 54 #[bS.val x.1,bS.val y.1] w fun e B=>e=.returned (.int .i64 (DY x y))/\∃q z,B=dg (w.drewN q) z:=by
 obtain⟨⟨b,D⟩,ha⟩:=x;obtain⟨⟨s,G⟩,H⟩:=y;unfold bS.val DY;simp only at ha H⊢;have hw:ch.wrap (b-s)=b-s:=by rw[bz];omega
 go_enter func54,ntmps54;go_wp2_with fail
 go_ret;refine⟨rfl,0,#[.cells #[.int .i64 b,.int .i64 D] 47,.cells #[.int .i64 s,.int .i64 G] 47],?_⟩;exact Xp w _ _
theorem Un(b q size:Nat)(w:aU):CmpLays prog 54 #[] tk 2 DY b q size w:=
 fun _ _ _ _ x y=>VV x y _
theorem Oo{w:aU}{B:Nat}{xs:List uQ}(h:jo w B (xs.map (·.1))):HoldsK tk 2 w B 0 xs.toArray:=by
 intro j b;rw[size_flatK]at b;rw[get_flatK _ _ _ _ b];have hi:j/2<xs.length:=by simp at b;omega
 obtain⟨q,s⟩:=h (j/2) (by rw[aX];exact hi);simp only[cO]at q s;have z:xs.toArray[j/2]! =xs[j/2]:=by simp[hi]
 rw[z,bc];rcases Nat.mod_two_eq_zero_or_one j with e|e
 ·rw[e];have y:j/2*2=j:=by omega
  rw[y]at q;exact q
 rw[e];have y:j/2*2+1=j:=by omega
 rw[y]at s;exact s
theorem Oq{w:aU}{B:Nat}{d:Array uQ}(h:HoldsK tk 2 w B 0 d):jo w B (d.toList.map (·.1)):=by
 intro i hi;have b:i<d.size:=by simpa using hi
 have q:=di h (i:=i) (c:=0) b (by omega);have s:=di h (i:=i) (c:=1) b (by omega);have y:d[i]! =d[i]:=by simp[b]
 rw[y,bc,Nat.add_zero]at q;rw[y,bc]at s;simp only[cO,Array.getElem_toList];exact⟨q,s⟩
theorem vO(w:aU)(b q:Nat)(d:Array uQ)(k:Nat)(h:k≠b):(bW tk 2 w b q d).heap[k]?=w.heap[k]?:=by
 unfold bW dD da;simp[Array.getElem?_modify,Ne.symm h]
theorem Ot(xs:List uQ)(B cap:Nat)(w:aU)(h:jo w B (xs.map (·.1)))(V:B<w.heap.size)(hl:xs.length<=1000000):
  bB prog 53 #[.slice (some ⟨B,0,none⟩) xs.length cap,.func (.func 54) #[] #[]] w fun e H=>
   e=.returned (.tuple #[])/\∃I:List uQ,I.Perm xs/\(I.Pairwise fun a b=>a.1.1<=b.1.1)/\jo H B (I.map (·.1))/\ag (fun i=>i=B) w H:=by
 have eg:∀args w,(callFunc 54 args).run prog w=.ok (.enter 54 args) w:=enters_of func54 (by kernel_rfl) rfl;have Y:=Oo h;have y:xs.toArray.size=xs.length:=by simp
 have s:=AnyQ.slices_SortFunc Tryz.Ft 2 isAgg47 sizeOf47 tk (fun _=>rfl) (fun x v hv=>by simp[tk]at hv;rcases hv with rfl|rfl<;>rfl) DY Um 54 #[] B 0 cap xs.toArray w eg (Un B 0 xs.toArray.size w) Y V (by rw[y];omega);rw[y]at s
 change bB prog 53 _ _ _ at s;refine s.mono ?_;rintro e H ⟨rfl,q,n,Z,⟨z,_,D⟩,hs,rfl⟩;have J:=holdsK_putRowK tk 2 (bA w n) B 0 xs.toArray q (holdsK_ahead tk 2 w n B 0 _ Y) z;have L:B<(bW tk 2 (bA w n) B 0 q).heap.size:=by
  unfold bW dD da;simpa[bA]using V
 have G:q.toList.length=xs.length:=by rw[bC,z,y]
 refine⟨rfl,q.toList,?_,?_,Oq (holdsK_grow tk 2 _ Z B 0 q L J),?_⟩
 ·have e1:(q.extract 0 xs.length)=q:=by
   apply dF;simp only[Array.toList_extract,de,Nat.sub_zero];exact ap (Nat.le_of_eq G)
  have e2:(xs.toArray.extract 0 xs.length)=xs.toArray:=by
   apply dF;simp
  rw[e1,e2]at D;simpa using D
 ·rw[List.pairwise_iff_getElem];intro i j hi hj M;have hh:=hs i j (be _) M (by omega);have O:i<q.size:=by rw[<-bC];exact hi
  have Q:j<q.size:=by rw[<-bC];exact hj
  rw[yF]at hh;simpa[O,Q]using hh
 refine⟨rfl,rfl,rfl,?_,fun k hk S=>?_⟩
 ·unfold dJ;simp only[dg,Array.size_append];have:(bW tk 2 (bA w n) B 0 q).heap.size=w.heap.size:=by
   unfold bW dD da;simp[bA]
  omega
 unfold dJ;have U:k<(bW tk 2 (bA w n) B 0 q).heap.size:=by
  unfold bW dD da;simpa[bA]using hk
 rw[heap_grow_old _ Z U,vO _ _ _ _ _ S]
 rfl
theorem Jy(w:aU)(b:bZ):
  bB prog 53 #[.slice none 0 0,b] w (ar w (.tuple #[])):=by
 exact ar.of_same (AnyF.slices_SortFunc_none Tryz.Ft none 0 b w)
theorem DZ:∀(xs:List bS),(∀x∈xs,0<=x.1/\x.1<=2147483648)->∃b:List uQ,b.map (·.1)=xs
 |[],_=>⟨[],rfl⟩
 |x::xs,h=>by
  obtain⟨b,e⟩:=DZ xs fun y q=>h y (bj _ q);exact⟨⟨x,h x bu⟩::b,by rw[bQ,e]⟩
theorem Jz(a0 w:aU)(v:bZ)(xs:List bS)(h:dP a0 w v xs)(G:Gr a0 w)(H:xs.length<=1000000)(s:∀x∈xs,0<=x.1/\x.1<=2147483648):
  bB prog 53 #[v,.func (.func 54) #[] #[]] w fun e y=>
   e=.returned (.tuple #[])/\∃q:List bS,q.Perm xs/\(q.Pairwise fun a b=>a.1<=b.1)/\dP a0 y v q/\Gr a0 y:=by
 rcases h with⟨rfl,rfl⟩|⟨B,cap,rfl,I,J,L,M⟩
 ·refine(Jy w _).mono ?_;rintro e y ⟨rfl,D⟩;exact⟨rfl,[],dT _,cF,.inl ⟨rfl,rfl⟩,G.trans D⟩
 obtain⟨O,rfl⟩:=DZ xs s;rw[aX]at I H⊢;refine(Ot O B cap w M L H).mono ?_;rintro e y ⟨rfl,q,z,hw,Q,s⟩;refine⟨rfl,q.map (·.1),z.map _,bM.2 hw,.inr ⟨B,cap,by rw[aX,z.length_eq],by rw[aX,z.length_eq];exact I,J,Nat.lt_of_lt_of_le L s.2.2.2.1,Q⟩,s.gr G (fun k S=>by rw[S];exact J)⟩
theorem PN(xs:List bS)(v:bZ)(row:Int)(w:aU)(G:kT w v xs)(hl:xs.length<=1000000):
  bB prog 52 #[v,.int .i64 row] w (ar w (.int .i64 (gl xs row))):=by
 have U:=ae G;obtain⟨V,ca,rfl⟩:=G.form;obtain⟨R,J⟩:∃R,gl xs row=R:=⟨_,rfl⟩;rw[J];have HR:=ae J;clear G J;go_enter func52,ntmps52;go_wp2_with fail
 go_loopw [9] (fun L Y=>∃i:Nat,i<=xs.length/\L=.int .i64 i/\gl (xs.drop i) row=R/\Gr w Y) (fun L _=>xs.length-(intOf L).toNat)
 case atStart=>exact⟨0,be _,rfl,by rw[de];exact HR.out,Gr.refl _⟩
 case round=>
  obtain⟨i,hi,rfl,hf,z⟩:=hrel;have HF:=ae hf;have Z:=ae z;by_cases q:i<xs.length
  ·obtain⟨b,s,rfl,S,H⟩:∃b s,V=some ⟨b,s,none⟩/\b<w.heap.size/\cq w b s xs:=by
    rcases U.out with⟨_,e2⟩|⟨b,s,c,e,S,H⟩
    ·rw[e2]at q;exact absurd q (by simp)
    cases e;exact⟨b,s,rfl,S,H⟩
   have O:(i:Int)<(xs.length:Int):=by omega
   have c1:=z.keeps (H i q).1;have c2:=z.keeps (H i q).2;have hd:xs.drop i=xs[i]::xs.drop (i+1):=List.drop_eq_getElem_cons q;rw[hd]at hf;generalize G:xs[i]=x at*;obtain⟨D,I⟩:=x;simp only at c1 c2;have y:=z.alloc (.cells #[.int .i64 D,.int .i64 I] 47);have k1:(wr.alloc (.cells #[.int .i64 D,.int .i64 I] 47)).cell? ⟨wr.heap.size,0,none⟩=some (.int .i64 D):=by
    rw[az]
    rfl
   have k2:(wr.alloc (.cells #[.int .i64 D,.int .i64 I] 47)).cell? ⟨wr.heap.size,1,none⟩=some (.int .i64 I):=by
    rw[az]
    rfl
   unfold gl at hf;by_cases M:D=row
   ·rw[if_pos M]at hf;subst M;subst hf;have B:=ae y;clear z y hd;go_wp2_with fail
    go_ret;exact ar.mk rfl B.out
   rw[if_neg M]at hf;have Q:=ae hf;have B:=ae y;clear hf z y hd;go_wp2_with fail
   exact⟨⟨i+1,q,by go_num,Q.out,B.out⟩,by simp[intOf];omega⟩
  have O:¬(i:Int)<(xs.length:Int):=by omega
  have hd:xs.drop i=[]:=List.drop_eq_nil_of_le (by omega);rw[hd]at hf;have hf:(0:Int)=R:=hf;subst hf;clear z hd;go_wp2_with fail
  go_ret;exact ar.mk rfl Z.out
theorem uR(l:List aa)(i:Nat)(h:i<l.length):fH (l.take (i+1))=ow (fH (l.take i)) l[i]:=by
 rw[aQ h,Bj]
theorem qO(out:List bS)(p:aa):(out=[]/\ow out p=[(p.1,1)])\/(∃d r o,out=d++[(r,o)]/\r=p.1/\ow out p=d++[(r,o+1)])\/∃d r o,out=d++[(r,o)]/\r≠p.1/\ow out p=out++[(p.1,1)]:=by
 unfold ow;cases b:out.getLast? with
 |none=>exact .inl ⟨List.getLast?_eq_none_iff.1 b,rfl⟩
 |some x=>
  obtain⟨d,hd⟩:=List.getLast?_eq_some_iff.1 b;obtain⟨r,o⟩:=x;by_cases e:r=p.1
  ·refine .inr (.inl ⟨d,r,o,hd,e,?_⟩);rw[hd,List.dropLast_concat];exact if_pos e
  exact .inr (.inr ⟨d,r,o,hd,e,if_neg e⟩)
theorem RM:∀(l:List aa),(fH l).length<=l.length:=by
 intro l;suffices h:∀i,i<=l.length->(fH (l.take i)).length<=i by
  have:=h l.length (bv _);rw[List.take_length]at this;exact this
 intro i
 induction i with
 |zero=>intro _;simp[fH]
 |succ i b=>
  intro hi;have b:=b (by omega);rw[uR l i (by omega)];rcases qO (fH (l.take i)) l[i]with⟨_,e⟩|⟨d,r,o,q,_,e⟩|⟨d,r,o,_,_,e⟩
  ·rw[e];simp
  ·rw[e];rw[q,ak]at b;rw[ak];simp only[aS,aV]at b⊢;omega
  rw[e,ak];simp only[aS,aV];omega
theorem JA(l:List aa):∀i,i<=l.length->∀x∈fH (l.take i),1<=x.2/\x.2<=(i:Int):=by
 intro i
 induction i with
 |zero=>intro _ x b;simp[fH]at b
 |succ i q=>
  intro hi x b;have q:=q (by omega);rw[uR l i (by omega)]at b;rcases qO (fH (l.take i)) l[i]with⟨_,e⟩|⟨d,r,o,s,_,e⟩|⟨d,r,o,_,_,e⟩
  ·rw[e]at b;rw[aJ.1 b];show(1:Int)<=1/\(1:Int)<=_;omega
  ·rw[e]at b;rw[s]at q;rcases b_.1 b with b|b
   ·have:=q x (List.mem_append_left _ b);omega
   have:=q (r,o) (cf _ (aJ.2 rfl));rw[aJ.1 b];show 1<=o+1/\o+1<=_;have y:1<=o/\o<=(i:Int):=this;omega
  rw[e]at b;rcases b_.1 b with b|b
  ·have:=q x b;omega
  rw[aJ.1 b];show(1:Int)<=1/\(1:Int)<=_;omega
theorem PO(xs:List aa)(v:bZ)(w:aU)(hx:kT w v xs)(hl:xs.length<=100000):
  bB prog 103 #[v] w fun e w'=>∃v',e=.returned v'/\gb w w' v' (fH xs)/\Gr w w':=by
 have HX:=ae hx;obtain⟨ao,ca,rfl⟩:=hx.form;clear hx;go_enter func103,ntmps103;go_wp2_with fail
 go_loopw [3,9] (fun ov iv w'=>∃i:Nat,i<=xs.length/\iv=.int .i64 i/\gb w w' ov (fH (xs.take i))/\Gr w w') (fun _ iv _=>xs.length-(intOf iv).toNat)
 case atStart=>exact⟨0,be _,rfl,bP _ _ _ _,Gr.refl _⟩
 case round=>
  obtain⟨i,hi,rfl,V,Z⟩:=hrel;have HO:=ae V;have HG:=ae Z;by_cases I:i<xs.length
  ·obtain⟨b,Q,rfl,hb,hp⟩:∃b Q,ao=some ⟨b,Q,none⟩/\b<w.heap.size/\cq w b Q xs:=by
    rcases HX.out with⟨_,B⟩|⟨b,Q,c,e,hb,hp⟩
    ·rw[B]at I;exact absurd I (by simp)
    cases e;exact⟨b,Q,rfl,hb,hp⟩
   have d1:(i:Int)<(xs.length:Int):=by omega
   have c1:=Z.keeps (hp i I).1;have c2:=Z.keeps (hp i I).2;have a4:=uR xs i I;have J:=RM (xs.take i);have a5:=JA xs i hi;rw[bh]at J;generalize hx:xs[i]=x at*;obtain⟨M,x2⟩:=x;simp only at c1 c2;have gA:Gr wr (wr.alloc (.cells #[.int .i64 M,.int .i64 x2] 104)):=(Gr.refl wr).alloc _;have k1:(wr.alloc (.cells #[.int .i64 M,.int .i64 x2] 104)).cell? ⟨wr.heap.size,0,none⟩=some (.int .i64 M):=by
    rw[az]
    rfl
   have b7:=Z.trans gA;have Y:=V.gr gA;generalize hW:wr.alloc (.cells #[.int .i64 M,.int .i64 x2] 104)=w1 at*;obtain⟨out,c5⟩:∃out,fH (xs.take i)=out:=⟨_,rfl⟩;rw[c5]at a4 J Y a5;have d2:=ae a5;clear a5;have b8:=ae hW;clear HO V Z gA hW;have b9:∀(z:List bS),ow out (M,x2)=z->fH (xs.take (i+1))=z:=fun z hz=>a4.trans hz;have a6:=ae b9;have y:=ae Y;have a7:=ae b7;obtain⟨av,cv,d3⟩:=Y.own.form;subst d3;rw[<-b8.out]at k1;clear b9 a4 Y b7;go_upto_region 6 with fail
   rw[b8.out]at k1⊢;rcases qO out (M,x2)with⟨rfl,hA⟩|⟨q,r,o,rfl,er,hA⟩|⟨q,r,o,rfl,er,hA⟩
   ·have HA:=ae (a6.out _ hA);have c0:¬(0:Int)<((([]:List bS).length:Nat):Int):=by simp
    clear hA;go_quiet (fail)
    go_wp2_with(at_builtin;refine jR (a0:=w) rfl _ _ rfl _ [] rfl (y.out.gr ((Gr.refl _).drewN _)) (M,1) rfl (by simp) (a7.out.drewN _) ?_;intro v2 w2 H a8)
    refine⟨⟨i+1,I,by go_num,?_,a8⟩,by simp[intOf];omega⟩;rw[HA.out];exact H
   ·have HA:=ae (a6.out _ hA);obtain⟨g,cap,a9⟩:∃g cap,dr av (q++[(r,o)]).length cv=.slice (some ⟨g,0,none⟩) (q++[(r,o)]).length cap:=by
     rcases y.out.ur with⟨_,B⟩|⟨g,cap,B,_⟩
     ·simp at B
     exact⟨g,cap,B⟩
    cases a9;have s:(q++[(r,o)]).length=q.length+1:=by simp
    obtain⟨rr,oo,U⟩:w1.cell? ⟨g,q.length*2,none⟩=some (.int .i64 r)/\w1.cell? ⟨g,q.length*2+1,none⟩=some (.int .i64 o)/\True:=by
     rcases y.out.ur with⟨O,_⟩|⟨g2,c2,B,_,_,_,D⟩
     ·cases O
     cases B;have h7:=D q.length (by rw[s];omega);simp only[bF]at h7;exact⟨h7.1.1,h7.2.1,trivial⟩
    have d4:w1.frozen? ⟨g,q.length*2+1,none⟩=false:=by
     rcases y.out.ur with⟨O,_⟩|⟨g2,c2,B,_,_,_,D⟩
     ·cases O
     cases B;exact(D q.length (by rw[s];omega)).2.2
    have c3:w.heap.size<=g:=by
     rcases y.out.ur with⟨O,_⟩|⟨g2,c2,B,_,h3,_⟩
     ·cases O
     cases B;exact h3
    have H:=(by simpa only[s]using y.out:gb w w1 (.slice (some ⟨g,0,none⟩) (q.length+1) cv) (q++[(r,o)]));have S:=ae H;rw[s]at J⊢;obtain⟨G,L⟩:∃G,q.length+1=G:=⟨_,rfl⟩;rw[L]at J S⊢;have c4:=ae L;have c0:(0:Int)<(G:Int):=by omega
    have c6:0<G:=by omega
    have d5:ch.wrap ((G:Int)-1)=(q.length:Int):=by
     rw[bz];omega
    have d6:cs (q.length:Int)=(q.length:Int):=by
     unfold cs;omega
    have c7:(q.length:Int)<(G:Int):=by omega
    have c8:q.length<G:=by omega
    replace er:r=M:=er;subst er;clear H y hA U J s L;have V:cs (o+1)=o+1:=by
     have:=d2.out (r,o) (cf _ (aJ.2 rfl));have h2:1<=o/\o<=(i:Int):=this;unfold cs;omega
    go_quiet (fail)
    go_wp2_with fail
    refine⟨⟨i+1,I,by go_num,?_,(a7.out.drewN _).setCell c3 _⟩,by simp[intOf];omega⟩;rw[HA.out];have b0:=(S.out.gr ((Gr.refl _).drewN nq));rw[<-c4.out]at b0⊢
    first|exact b0.again (o+1)|(rw[V];exact b0.again (o+1))
   have HA:=ae (a6.out _ hA);obtain⟨g,cap,a9⟩:∃g cap,dr av (q++[(r,o)]).length cv=.slice (some ⟨g,0,none⟩) (q++[(r,o)]).length cap:=by
    rcases y.out.ur with⟨_,B⟩|⟨g,cap,B,_⟩
    ·simp at B
    exact⟨g,cap,B⟩
   cases a9;have s:(q++[(r,o)]).length=q.length+1:=by simp
   obtain⟨rr,oo,U⟩:w1.cell? ⟨g,q.length*2,none⟩=some (.int .i64 r)/\w1.cell? ⟨g,q.length*2+1,none⟩=some (.int .i64 o)/\True:=by
    rcases y.out.ur with⟨O,_⟩|⟨g2,c2,B,_,_,_,D⟩
    ·cases O
    cases B;have h7:=D q.length (by rw[s];omega);simp only[bF]at h7;exact⟨h7.1.1,h7.2.1,trivial⟩
   have d4:w1.frozen? ⟨g,q.length*2+1,none⟩=false:=by
    rcases y.out.ur with⟨O,_⟩|⟨g2,c2,B,_,_,_,D⟩
    ·cases O
    cases B;exact(D q.length (by rw[s];omega)).2.2
   have c3:w.heap.size<=g:=by
    rcases y.out.ur with⟨O,_⟩|⟨g2,c2,B,_,h3,_⟩
    ·cases O
    cases B;exact h3
   have H:=(by simpa only[s]using y.out:gb w w1 (.slice (some ⟨g,0,none⟩) (q.length+1) cv) (q++[(r,o)]));have S:=ae H;rw[s]at J⊢;obtain⟨G,L⟩:∃G,q.length+1=G:=⟨_,rfl⟩;rw[L]at J S⊢;have c4:=ae L;have d7:Hid (gb w w1 (.slice (some ⟨g,0,none⟩) G cv) (q++[(r,o)])):=S;have d8:Hid ((q++[(r,o)]).length<=100000):=ae (by rw[s];omega);have c0:(0:Int)<(G:Int):=by omega
   have c6:0<G:=by omega
   have d5:ch.wrap ((G:Int)-1)=(q.length:Int):=by
    rw[bz];omega
   have d6:cs (q.length:Int)=(q.length:Int):=by
    unfold cs;omega
   have c7:(q.length:Int)<(G:Int):=by omega
   have c8:q.length<G:=by omega
   have h0:(r==M)=false:=by simpa using er
   have h1:¬r=M:=er;clear er;clear H y hA U J s L;go_quiet (fail)
   go_wp2_with(at_builtin;refine jR (a0:=w) rfl _ _ rfl _ (q++[(r,o)]) rfl (d7.out.gr ((Gr.refl _).drewN _)) (M,1) rfl (by have:=d8.out;omega) (a7.out.drewN _) ?_;intro v2 w2 H a8)
   refine⟨⟨i+1,I,by go_num,?_,a8⟩,by simp[intOf];omega⟩;rw[HA.out];exact H
  have d1:¬(i:Int)<(xs.length:Int):=by omega
  have ht:xs.take i=xs:=ap (by omega);rw[ht]at V;have HE:=ae (And.intro V Z);clear V Z ht;go_wp2_with fail
  go_ret;exact⟨_,rfl,HE.out.1,HE.out.2⟩
def iO(L:ByteArray->List aa)(fs:List ByteArray):List aa:=fs.foldl (fun a x=>setOf af (a++L x)) []
theorem LU(L:ByteArray->List aa)(fs:List ByteArray)(i:Nat)(h:i<fs.length):iO L (fs.take (i+1))=setOf af (iO L (fs.take i)++L fs[i]):=by
 unfold iO;rw[aQ h,cK]
 rfl
def jg(L:ByteArray->List aa)(a:List aa)(ws:List ByteArray):List aa:=ws.foldl (fun a x=>kD a (L x)) a
theorem uS(L:ByteArray->List aa)(a:List aa)(ws:List ByteArray)(i:Nat)(h:i<ws.length):jg L a (ws.take (i+1))=kD (jg L a (ws.take i)) (L ws[i]):=by
 unfold jg;rw[aQ h,cK]
 rfl
structure sQ(X:Tr)(n:ByteArray)(L:ByteArray->List aa)(ls:List (ByteArray×Int×ByteArray)):Prop where
 has:∀wd,cI wd->∃PS,yp X n wd PS/\PS.flatten=L wd
 Jf:∀wd,(L wd).length<=1000
 ZP:Uk X n ls
 ZQ:∀e∈ls,cI e.1
 ZR:ls.length<=1000
 cap:∀fs,(iO L fs).length<=1000
section
variable{w:aU}{FP TP PB DB M:Nat}{c:Ch}{sv:Head}{t:Int}{d:Dk}
theorem xt(h:jn w FP TP PB DB M c sv t d){X:Tr}(y:X.lays c d.pg 3){n:ByteArray}(hn:cI n){L:ByteArray->List aa}{ls:List (ByteArray×Int×ByteArray)}(z:sQ X n L ls){wd:ByteArray}(b:cI wd){W:aU}(g:Gr w W):
  bB prog 21 #[.pointer (some ⟨FP,0,none⟩),.string n,.string wd] W fun e q=>∃v,e=.returned (.tuple #[v,.nilIface])/\dP W q v (L wd)/\Gr W q:=by
 obtain⟨H,B,D⟩:=z.has wd b;refine(GG (h.gr g) y hn b B).mono ?_;rintro e q ⟨v,rfl,s,G⟩;rw[D]at s;exact⟨v,rfl,s.own,G⟩
theorem RN(h:jn w FP TP PB DB M c sv t d){X:Tr}(hl:X.lays c d.pg 3){n:ByteArray}(hn:cI n){L:ByteArray->List aa}{ls:List (ByteArray×Int×ByteArray)}(hT:sQ X n L ls){NB b:Nat}{y:ByteArray}{ws:List ByteArray}(hq:gv NB w (.leaf 1 (y::ws) 0) b)(b0:∀x∈y::ws,cI x)(i3:ws.length<=1000):
   bB prog 51 #[.pointer (some ⟨FP,0,none⟩),.string n,.pointer (some ⟨b,0,none⟩)] w fun e U=>∃v,e=.returned (.tuple #[v,.nilIface])/\gb w U v (fH (jg L (setOf af (L y)) ws))/\Gr w U:=by
 obtain⟨_,c0,⟨v,c1,ao,cc,bb,rfl,b1,b2⟩,c2,c3,c4⟩:=hq;obtain⟨rfl,_,e2⟩:=b1 (by simp);have b3:=fun(wd:ByteArray) (V:cI wd) (W:aU) (g:Gr w W)=>xt h hl hn hT V g;have b4:=ae b3;have b5:=ae b0;have D:=ae hT.Jf;have h5:=ae hT.cap;have b6:=ae b2;have a4:(y::ws).length=ws.length+1:=rfl;rw[a4]at c1 e2;have i4:(1:Int)<=(cc:Int):=by omega
 have h6:1<=cc:=by omega
 have i5:(1:Int)<=((ws.length+1:Nat):Int):=by omega
 clear b3 b0 b2 h hl hn hT b1 a4;go_enter dU,dQ;go_wp2_with fail
 go_loopw [11,51] (fun av iv U=>∃i:Nat,i<=1/\iv=.int .i64 i/\dP w U av (iO L ([y].take i))/\Gr w U) (fun _ iv _=>1-(intOf iv).toNat)
 case atStart=>exact⟨0,be _,rfl,.inl ⟨rfl,rfl⟩,Gr.refl _⟩
 case round=>as_aux_lemma=>
  obtain⟨i,hi,rfl,B,z⟩:=hrel;by_cases Y:i<1
  ·have e3:i=0:=by omega
   subst e3;have cw:=z.keeps (b6.out 0 (by simp));have e4:(y::ws)[0]'(by simp)=y:=rfl;rw[e4]at cw;rw[bc]at cw;have hp:=b4.out y (b5.out y bu) wr z;have HP:=ae hp;have HO:=ae B;have G:=ae z;obtain⟨a1,b7,H⟩:=B.form;clear hp B z;subst H;go_wp2_with fail
   refine HP.out.mono ?_;rintro e w1 ⟨v1,rfl,q,s⟩;have c5:=D.out y;have c6:=yo (iO L ([y].take 0)) (L y) _ v1 w1 (HO.out.lZ.gr s) q.lZ (by show([]:List aa).length+_<=_;simp only[aV];omega);have e5:=ae c6;have I:=ae (G.out.trans s);obtain⟨a2,c7,J⟩:=q.form;clear c6 s q;subst J;go_wp2_with fail
   refine e5.out.mono ?_;rintro e w2 ⟨v2,rfl,O,Q⟩;have HR:=ae (And.intro (O.back I.out) (I.out.trans Q));clear O Q;go_wp2_with fail
   exact⟨⟨1,bv _,rfl,HR.out.1,HR.out.2⟩,by simp[intOf]⟩
  have e6:i=1:=by omega
  subst e6;have c8:iO L ([y].take 1)=setOf af (L y):=rfl;rw[c8]at B;obtain⟨S,Z⟩:∃S,setOf af (L y)=S:=⟨_,rfl⟩;rw[Z]at B;have a7:=ae Z;have c9:S.length<=1000:=by
   rw[<-Z];have:=jc af (L y);have:=D.out y;omega
  have e7:=ae c9;have HO:=ae B;have G:=ae z;have d0:=z.keeps c0;have d1:=z.keeps c1;have d2:=z.keeps c2;clear B z c8 Z c9;go_wp2_with fail
  all_goals
   obtain⟨wo,d4⟩:∃wo,wr=wo:=⟨_,rfl⟩;rw[d4]at HO G⊢;clear d0 d1 d2 d4 wr;go_loopw [11,82] (fun av iv U=>∃i:Nat,i<=ws.length/\iv=.int .i64 i/\dP w U av (jg L S (ws.take i))/\Gr w U) (fun _ iv _=>ws.length-(intOf iv).toNat)
   case atStart=>exact⟨0,be _,rfl,HO.out,G.out⟩
   case round=>as_aux_lemma=>
    obtain⟨i,hi,rfl,B,z⟩:=hrel;have d5:(jg L S (ws.take i)).length<=1000:=by
     cases i with
     |zero=>exact e7.out
     |succ j=>
       rw[uS L S ws j (by omega)];unfold kD;have h1:=cg (fun x=>!!ou (jg L S (ws.take j)) x) (L (ws[j]'(by omega)));have h2:=D.out (ws[j]'(by omega));omega
    by_cases Y:i<ws.length
    ·first
      |(exfalso;omega)
      |skip
     all_goals
       have e8:(i:Int)<(ws.length:Int):=by omega
       have cw:=z.keeps (b6.out (i+1) (by rw[aS];omega));rw[List.getElem_cons_succ,show 0+(i+1)=1+i by omega]at cw;have a0:=uS L S ws i Y;have hp:=b4.out ws[i] (b5.out _ (bj _ (bT Y))) wr z;have c5:=D.out ws[i];obtain⟨wd,V⟩:∃wd,ws[i]=wd:=⟨_,rfl⟩;obtain⟨FA,d6⟩:∃FA,jg L S (ws.take i)=FA:=⟨_,rfl⟩;rw[V]at cw a0 hp c5;rw[d6]at a0 B d5;have d0:=z.keeps c0;have HP:=ae hp;have HO:=ae B;have G:=ae z;have e9:=ae a0;obtain⟨a1,b7,H⟩:=B.form;clear hp B z a0 V d6;subst H;go_wp2_with fail
       refine HP.out.mono ?_;rintro e w1 ⟨v1,rfl,q,s⟩;have d7:=Rw FA (L wd) _ v1 w1 (HO.out.lZ.gr s) q.lZ (by omega) (by omega);have g0:=ae d7;have I:=ae (G.out.trans s);have d1:=s.keeps d0;obtain⟨a2,c7,J⟩:=q.form;clear d7 s q d0;subst J;go_wp2_with fail
       refine g0.out.mono ?_;rintro e w2 ⟨v2,rfl,O,Q⟩;have HR:=ae (And.intro (O.back I.out) (I.out.trans Q));clear O Q;go_wp2_with fail
       exact⟨⟨i+1,Y,by go_num,by rw[e9.out];exact HR.out.1,HR.out.2⟩,by simp[intOf];omega⟩
    have e8:¬(i:Int)<(ws.length:Int):=by omega
    have g3:ws.take i=ws:=ap (by omega);rw[g3]at B d5;have hh:=PO _ _ wr B.lZ (by omega);rw[<-a7.out]at hh;have HH:=ae hh;have G:=ae z;obtain⟨a1,b7,H⟩:=B.form;clear hh B z;subst H;rw[a7.out]at HH;go_wp2_with fail
    refine HH.out.mono ?_;rintro e w1 ⟨v1,rfl,q,s⟩;rw[<-a7.out]at q;have HR:=ae (And.intro (q.back G.out) (G.out.trans s));obtain⟨a2,c7,J⟩:=q.own.form;clear q s;subst J;go_wp2_with fail
    go_ret2;exact⟨_,rfl,HR.out.1,HR.out.2⟩
end
section
variable{w:aU}{FP TP PB DB M:Nat}{c:Ch}{sv:Head}{t:Int}{d:Dk}
theorem RP(h:jn w FP TP PB DB M c sv t d)(a6:mA w){X:Tr}(hl:X.lays c d.pg 3){n:ByteArray}(hn:cI n){L:ByteArray->List aa}{ls:List (ByteArray×Int×ByteArray)}(H:sQ X n L ls){NB b:Nat}{s:ByteArray}(hq:gv NB w (.leaf 2 [s] 0) b):
   bB prog 51 #[.pointer (some ⟨FP,0,none⟩),.string n,.pointer (some ⟨b,0,none⟩)] w fun e w'=>∃v,e=.returned (.tuple #[v,.nilIface])/\gb w w' v (fH (iO L (aq (nW s ls))))/\Gr w w':=by
 obtain⟨_,c0,⟨v,c1,ao,cc,bb,rfl,a7,a8⟩,c2,c3,c4⟩:=hq;obtain⟨rfl,_,d6⟩:=a7 (by simp);have a9:=fun(wd:ByteArray) (B:cI wd) (W:aU) (g:Gr w W)=>xt h hl hn H B g;have b0:=Ul h a6 hl hn H.ZP s;have cw:=a8 0 (by simp);rw[bc]at cw;have b2:[s][0]'(by simp)=s:=rfl;rw[b2]at cw;have I:∀x∈aq (nW s ls),cI x:=fun x hx=>by
   have h1:=(jb x _).1 hx;obtain⟨e,he,rfl⟩:=bX.1 (List.mem_filter.1 h1).1;exact H.ZQ e he
 have c9:(aq (nW s ls)).length<=1000:=by
   have h1:=ig (nW s ls);have h2:=DX s ls;have h3:=H.ZR;omega
 have d7:=ae a9;have b3:=ae b0;have b4:=ae I;have d1:=ae H.Jf;have J:=ae H.cap;have O:([s]:List ByteArray).length=1:=rfl;rw[O]at c1 d6;have i3:(1:Int)<=(cc:Int):=by omega
 obtain⟨fs,U⟩:∃fs,aq (nW s ls)=fs:=⟨_,rfl⟩;simp only[U]at b3 b4 c9;have d8:=ae U;clear a9 b0 I a8 h hl hn H a7 O a6 b2 U;go_enter dU,dQ;go_wp2_with fail
 refine b3.out.mono ?_;rintro e w1 ⟨v1,rfl,d9,b5⟩;obtain⟨a1,i4,b1,e0,b6,Q⟩:=d9;subst e0;have e1:=ae b6;have e2:=ae Q;have V:=ae b5;clear b6 Q b5;go_wp2_with fail
 go_loopw [11,51] (fun av iv w'=>∃i:Nat,i<=fs.length/\iv=.int .i64 i/\dP w w' av (iO L (fs.take i))/\Gr w1 w') (fun _ iv _=>fs.length-(intOf iv).toNat)
 case atStart=>exact⟨0,be _,rfl,.inl ⟨rfl,rfl⟩,Gr.refl _⟩
 case round=>as_aux_lemma=>
  obtain⟨i,hi,rfl,z,S⟩:=hrel;by_cases D:i<fs.length
  ·have e3:(i:Int)<(fs.length:Int):=by omega
   obtain⟨rfl,i5⟩:=e1.out (by omega);have cw:=S.keeps (e2.out i D);rw[bc]at cw;have G:=LU L fs i D;have hp:=d7.out fs[i] (b4.out _ (bT D)) wr (V.out.trans S);have e4:=d1.out fs[i];have b7:=J.out (fs.take i);obtain⟨wd,B⟩:∃wd,fs[i]=wd:=⟨_,rfl⟩;obtain⟨FA,b8⟩:∃FA,iO L (fs.take i)=FA:=⟨_,rfl⟩;rw[B]at cw G hp e4;rw[b8]at G z b7;have HP:=ae hp;have HO:=ae z;have HG:=ae S;have e5:=ae G;obtain⟨a3,e6,Y⟩:=z.form;clear hp z S G B b8;subst Y;go_wp2_with fail
   refine HP.out.mono ?_;rintro e w3 ⟨v3,rfl,q,y⟩;have c5:=yo FA (L wd) _ v3 w3 (HO.out.lZ.gr y) q.lZ (by omega);have e7:=ae c5;have c6:=ae (HG.out.trans y);obtain⟨a2,e8,Z⟩:=q.form;clear c5 y q;subst Z;go_wp2_with fail
   refine e7.out.mono ?_;rintro e w4 ⟨v4,rfl,c7,c8⟩;have HR:=ae (And.intro (c7.back (V.out.trans c6.out)) (c6.out.trans c8));clear c7 c8;go_wp2_with fail
   exact⟨⟨i+1,D,by go_num,by rw[e5.out];exact HR.out.1,HR.out.2⟩,by simp[intOf];omega⟩
  have e3:¬(i:Int)<(fs.length:Int):=by omega
  have e9:fs.take i=fs:=ap (by omega);rw[e9]at z;have b7:=J.out fs;have a0:=V.out.trans S;have d0:=a0.keeps c0;have hh:=PO _ _ wr z.lZ (by omega);have HH:=ae hh;have HG:=ae a0;obtain⟨a3,e6,Y⟩:=z.form;clear hh z S a0;subst Y;go_wp2_with fail
  refine HH.out.mono ?_;rintro e w3 ⟨v3,rfl,q,y⟩;have HR:=ae (And.intro (q.back HG.out) (HG.out.trans y));obtain⟨a2,e8,Z⟩:=q.own.form;rw[<-d8.out]at HR;clear q y;subst Z;go_wp2_with fail
  go_ret2;exact⟨_,rfl,HR.out.1,HR.out.2⟩
def pI(b:List Int):List bS:=b.map fun r=>(r,1)
theorem RQ(h:jn w FP TP PB DB M c sv t d){X:Tr}(hl:X.lays c d.pg 3){n:ByteArray}(hn:cI n){L:ByteArray->List aa}{ls:List (ByteArray×Int×ByteArray)}(hT:sQ X n L ls){NB b:Nat}{q wb:ByteArray}(hq:gv NB w (.leaf 3 [q,wb] 3) b)(c5:cI q/\cI wb):
   bB prog 51 #[.pointer (some ⟨FP,0,none⟩),.string n,.pointer (some ⟨b,0,none⟩)] w fun e I=>∃v,e=.returned (.tuple #[v,.nilIface])/\gb w I v (pI (setOf aG (bG 3 (setOf af (L q)) (L wb))))/\Gr w I:=by
 obtain⟨_,c0,⟨v,c1,ao,cc,bb,rfl,c6,b1⟩,c2,c3,c4⟩:=hq;obtain⟨rfl,_,g4⟩:=c6 (by simp);have c7:=fun(wd:ByteArray) (g5:cI wd) (W:aU) (g:Gr w W)=>xt h hl hn hT g5 g;have cw:=b1 0 (by simp);rw[bc]at cw;have c8:[q,wb][0]'(by simp)=q:=rfl;rw[c8]at cw;have cv:=b1 1 (by simp);rw[bc]at cv;have d3:[q,wb][1]'(by simp)=wb:=rfl;rw[d3]at cv;have d4:=ae c7;have d5:=ae c5;have V:=ae hT.Jf;have HC:=ae (And.intro cw cv);have a9:([q,wb]:List ByteArray).length=2:=rfl;rw[a9]at c1 g4;have k9:(1:Int)<=(cc:Int):=by omega
 have j8:1<=cc:=by omega
 have l0:¬cc=1:=by omega
 clear c7 c5 b1 h hl hn hT c6 a9 c8 d3 cw cv;go_enter dU,dQ;go_wp2_with fail
 go_loopw [11,51] (fun av O I=>∃i:Nat,i<=1/\O=.int .i64 i/\dP w I av (iO L ([q].take i))/\Gr w I) (fun _ O _=>1-(intOf O).toNat)
 case atStart=>exact⟨0,be _,rfl,.inl ⟨rfl,rfl⟩,Gr.refl _⟩
 case round=>as_aux_lemma=>
  obtain⟨i,hi,rfl,s,z⟩:=hrel;by_cases G:i<1
  ·have g6:i=0:=by omega
   subst g6;have cw:=z.keeps HC.out.1;have hp:=d4.out q d5.out.1 wr z;have HP:=ae hp;have Y:=ae s;have HG:=ae z;obtain⟨a1,g7,b2⟩:=s.form;clear hp s z;subst b2;go_wp2_with fail
   refine HP.out.mono ?_;rintro e w1 ⟨v1,rfl,H,D⟩;have g8:=V.out q;have d6:=yo (iO L ([q].take 0)) (L q) _ v1 w1 (Y.out.lZ.gr D) H.lZ (by show([]:List aa).length+_<=_;simp only[aV];omega);have g9:=ae d6;have a5:=ae (HG.out.trans D);obtain⟨a2,h0,b3⟩:=H.form;clear d6 D H;subst b3;go_wp2_with fail
   refine g9.out.mono ?_;rintro e w2 ⟨v2,rfl,J,Q⟩;have HR:=ae (And.intro (J.back a5.out) (a5.out.trans Q));clear J Q;go_wp2_with fail
   exact⟨⟨1,bv _,rfl,HR.out.1,HR.out.2⟩,by simp[intOf]⟩
  have h4:i=1:=by omega
  subst h4;have d7:iO L ([q].take 1)=setOf af (L q):=rfl;rw[d7]at s;obtain⟨S,a6⟩:∃S,setOf af (L q)=S:=⟨_,rfl⟩;rw[a6]at s;have h5:=ae a6;have d8:S.length<=1000:=by
    rw[<-a6];have:=jc af (L q);have:=V.out q;omega
  have d9:=ae d8;have Y:=ae s;have HG:=ae z;have d0:=z.keeps c0;have d1:=z.keeps c1;have d2:=z.keeps c2;clear s z d7 a6 d8;go_wp2_with fail
  obtain⟨wo,e0⟩:∃wo,wr=wo:=⟨_,rfl⟩;rw[e0]at Y HG⊢;clear d0 d1 d2 e0 wr;go_loopw [11,82] (fun av O I=>O=.int .i64 0/\dP w I av S/\Gr w I) (fun _ _ _=>1)
  case atStart=>exact⟨rfl,Y.out,HG.out⟩
  case round=>as_aux_lemma=>
   obtain⟨rfl,s,z⟩:=hrel;have cw:=z.keeps HC.out.2;have hp:=d4.out wb d5.out.2 wr z;have g8:=V.out wb;have d0:=z.keeps c0;have d2:=z.keeps c2;have HP:=ae hp;have Y:=ae s;have HG:=ae z;obtain⟨a1,g7,b2⟩:=s.form;clear hp s z;subst b2;go_wp2_with fail
   refine HP.out.mono ?_;rintro e w1 ⟨v1,rfl,H,D⟩;have b4:=VD S (L wb) _ v1 3 w1 (Y.out.lZ.gr D) H.lZ (by have:=d9.out;omega) (by omega);obtain⟨y,a7⟩:∃y,setOf aG (bG 3 S (L wb))=y:=⟨_,rfl⟩;have l1:y.length<=1000:=by
     rw[<-a7];have h1:=jc aG (bG 3 S (L wb));have h2:(bG 3 S (L wb)).length<=S.length:=by
      unfold bG;rw[aX];exact cg _ _
     have h3:=d9.out;omega
   rw[a7]at b4;have h6:=ae a7;have h8:=ae b4;have a5:=ae (HG.out.trans D);have d0:=D.keeps d0;have d2:=D.keeps d2;obtain⟨a2,h0,b3⟩:=H.form;clear b4 D H a7;subst b3;go_wp2_with fail
   refine h8.out.mono ?_;rintro e w2 ⟨v2,rfl,J,Q⟩;have h9:=ae J;have e1:=ae (a5.out.trans Q);obtain⟨a3,l2,i0⟩:=J.form;clear J Q d0 d2;subst i0;go_wp2_with fail
   go_loopw [20,109] (fun ov O I=>∃j:Nat,j<=y.length/\O=.int .i64 j/\gb w2 I ov (pI (y.take j))/\Gr w2 I) (fun _ O _=>y.length-(intOf O).toNat)
   case atStart=>exact⟨0,be _,rfl,bP _ _ _ _,Gr.refl _⟩
   case round=>as_aux_lemma=>
    obtain⟨j,hj,rfl,s,U⟩:=hrel;by_cases G:j<y.length
    ·have i1:(j:Int)<(y.length:Int):=by omega
     obtain⟨B3,rfl,Z⟩:∃B3,a3=some ⟨B3,0,none⟩/\w2.cell? ⟨B3,j,none⟩=some (.int .i64 y[j]):=by
      rcases h9.out with⟨_,e2⟩|⟨B,cap,e,_,_,_,hh⟩
      ·rw[e2]at G;exact absurd G (by simp)
      cases e;have h7:=(hh j (by simpa using G)).1;rw[bc]at h7;exact⟨B,rfl,by simpa[G]using h7⟩
     have i2:=U.keeps Z;have b5:pI (y.take (j+1))=pI (y.take j)++[(y[j],1)]:=by
      unfold pI;rw[aQ G,List.map_append]
      rfl
     have e3:(pI (y.take j)).length+1<=1000000:=by
      unfold pI;rw[aX,bh];omega
     obtain⟨r,hr⟩:∃r,y[j]=r:=⟨_,rfl⟩;rw[hr]at i2 b5;have i3:=ae b5;have Y:=ae s;have i4:=ae U;have i5:=ae e3;clear s U b5 hr Z e3;go_wp2_with(at_builtin;refine jR (a0:=w2) rfl _ _ rfl _ (pI (y.take j)) rfl Y.out (r,1) rfl i5.out i4.out ?_;intro v8 w8 i6 i7)
     exact⟨⟨j+1,G,by go_num,by rw[i3.out];exact i6,i7⟩,by simp[intOf];omega⟩
    have i1:¬(j:Int)<(y.length:Int):=by omega
    have e4:y.take j=y:=ap (by omega);rw[e4]at s;have HR:Hid (gb w wr u20 (pI (setOf aG (bG 3 (setOf af (L q)) (L wb))))/\Gr w wr):=ae ⟨by rw[h5.out,h6.out];exact s.back e1.out,e1.out.trans U⟩;obtain⟨a4,l3,i9⟩:=s.own.form;clear s U e4;subst i9;go_wp2_with fail
    go_ret2;exact⟨_,rfl,HR.out.1,HR.out.2⟩
end
def xu(L:ByteArray->List aa)(ls:List (ByteArray×Int×ByteArray))(kind:Int)(ws:List ByteArray)(r:Int):Nat:=
 if kind=1 then cC (jg L (setOf af (L (ws.headD ⟨#[]⟩))) ws.tail) r
 else if kind=2 then cC (iO L (aq (nW (ws.headD ⟨#[]⟩) ls))) r
 else if r∈setOf aG (bG 3 (setOf af (L (ws.headD ⟨#[]⟩))) (L (ws.tail.headD ⟨#[]⟩)))then 1 else 0
def HN(L:ByteArray->List aa)(ls:List (ByteArray×Int×ByteArray)):Qy->Int->Nat
 | .leaf kind ws _,r=>xu L ls kind ws r
 | .node kind a b,r=>eI kind (HN L ls a r) (HN L ls b r)
def pJ:Qy->Prop
 | .leaf kind ws bg=>(kind=1/\bg=0/\∃q r,ws=q::r/\(∀x∈q::r,cI x)/\r.length<=1000)\/(kind=2/\bg=0/\∃q,ws=[q])\/(kind=3/\bg=3/\∃a b,ws=[a,b]/\cI a/\cI b)
 | .node kind a b=>(kind=4\/kind=5\/kind=6)/\pJ a/\pJ b
structure Bl(L:ByteArray->List aa)(ls:List (ByteArray×Int×ByteArray)):Prop where
 row:∀kind ws r,0<xu L ls kind ws r->1<=r/\r<=8000
 BI:∀kind ws r,xu L ls kind ws r<=1000
 ZS:∀w0,bU af (L w0)
theorem Up{L:ByteArray->List aa}{ls:List (ByteArray×Int×ByteArray)}{kind:Int}{a b:Qy}:HN L ls (.node kind a b)=fun r=>eI kind (HN L ls a r) (HN L ls b r):=rfl
theorem JB{L:ByteArray->List aa}{ls:List (ByteArray×Int×ByteArray)}(h:Bl L ls):∀(q:Qy) (r:Int),0<HN L ls q r->1<=r/\r<=8000
 | .leaf kind ws bg,r,s=>h.row kind ws r s
 | .node kind a b,r,s=>by
  have y:=vz kind (HN L ls a r) (HN L ls b r);have z:0<eI kind (HN L ls a r) (HN L ls b r):=s;rcases Nat.eq_zero_or_pos (HN L ls a r)with e|e
  ·exact JB h b r (by omega)
  exact JB h a r e
theorem B_{L:ByteArray->List aa}{ls:List (ByteArray×Int×ByteArray)}(h:Bl L ls):∀(q:Qy) (r:Int),HN L ls q r<=1000*jA q
 | .leaf kind ws bg,r=>h.BI kind ws r
 | .node kind a b,r=>by
  have s:=vz kind (HN L ls a r) (HN L ls b r);have y:=B_ h a r;have z:=B_ h b r;show eI kind (HN L ls a r) (HN L ls b r)<=1000*(jA a+jA b);omega
structure oA(L:ByteArray->List aa)(ls:List (ByteArray×Int×ByteArray))(q:Qy)(out:List bS):Prop where
 PP:jF out (HN L ls q)
 row:∀x∈out,1<=x.1/\x.1<=8000
 BI:∀x∈out,0<=x.2/\x.2<=1000*(jA q:Int)
 len:out.length<=8001
theorem D0{L:ByteArray->List aa}{ls:List (ByteArray×Int×ByteArray)}(h:Bl L ls){q:Qy}{out:List bS}(z:jF out (HN L ls q)):oA L ls q out:=by
 have b:∀x∈out,1<=x.1/\x.1<=8000:=fun x s=>JB h q x.1 (z.val x s).2;refine⟨z,b,fun x s=>?_,?_⟩
 ·have B:=(z.val x s).1;have G:=B_ h q x.1;omega
 have B:(out.map (·.1)).length<=8001:=GJ (bM.2 z.up) fun x s=>by
  obtain⟨y,D,rfl⟩:=bX.1 s;have:=b y D;omega
 rw[aX]at B;exact B
theorem JC{L:ByteArray->List aa}{ls:List (ByteArray×Int×ByteArray)}(h:Bl L ls){q:Qy}{out:List bS}(b:oA L ls q out)(r:Int):0<=gl out r/\gl out r<=1000*(jA q:Int):=by
 rw[rI b.PP];have:=B_ h q r;omega
theorem Ou(q:List Int)(s:bU aG q):jF (pI q) (fun r=>if r∈q then 1 else 0):=by
 refine⟨?_,fun x y=>?_,fun r z=>?_⟩
 ·unfold pI;refine bM.2 (s.imp fun{a b} h=>?_);simpa[aG]using h
 ·obtain⟨r,B,rfl⟩:=bX.1 y;simp only[if_pos B];exact⟨rfl,Nat.one_pos⟩
 by_cases h:r∈q
 ·exact⟨(r,1),bX.2 ⟨r,h,rfl⟩,rfl⟩
 simp only[if_neg h]at z;omega
theorem yG{l:List aa}(h:bU af l):l.Pairwise fun a b=>a.1<=b.1:=h.imp fun{a b} q=>by
 rw[eD]at q;omega
theorem wk(L:ByteArray->List aa)(b:∀x,bU af (L x)):∀(ws:List ByteArray) (a:List aa),bU af a->bU af (jg L a ws)
 |[],_,h=>h
 |x::ws,a,_=>wk L b ws (kD a (L x)) ((b x).sublist List.filter_sublist)
theorem Fp(L:ByteArray->List aa)(fs:List ByteArray):bU af (iO L fs):=by
 unfold iO;suffices h:∀(fs:List ByteArray) (a:List aa),bU af a->bU af (fs.foldl (fun a x=>setOf af (a++L x)) a)from h fs [] cF
 intro fs
 induction fs with
 |nil=>intro a h;exact h
 |cons x fs b=>intro a _;exact b _ (cx bI _)
theorem Uq{lb:List bS}{b x2 N:Int}(h:gl lb b=N):iq 4 lb (b,x2)=if 0<N then[(b,x2+N)]else[]:=by
 unfold iq;simp only[h];by_cases q:0<N
 ·rw[if_pos (.inl ⟨trivial,q⟩),if_pos q]
 rw[if_neg (by omega),if_neg (by omega),if_neg q]
theorem Ur{lb:List bS}{b x2 N:Int}(h:gl lb b=N):iq 5 lb (b,x2)=[(b,x2+N)]:=by
 unfold iq;simp only[h];rw[if_pos (.inr trivial)]
theorem Us{lb:List bS}{b x2 N:Int}(h:gl lb b=N):iq 6 lb (b,x2)=if N=0 then[(b,x2)]else[]:=by
 unfold iq;simp only[h];rw[if_neg (by omega)];by_cases q:N=0
 ·rw[if_pos ⟨trivial,q⟩,if_pos q]
 rw[if_neg (by omega),if_neg q]
theorem Ov{kind:Int}{lb:List bS}{h x:bS}(b:x∈iq kind lb h):x.1=h.1:=by
 unfold iq at b
 split at b
 ·rw[aJ.1 b]
 split at b
 ·rw[aJ.1 b]
 cases b
theorem Ow{kind:Int}{q:List bS}{h x:bS}(b:x∈jz kind q h):x.1=h.1:=by
 unfold jz at b
 split at b
 ·rw[aJ.1 b]
 cases b
theorem Ut{b:List bS}{q x2 N:Int}(_:gl b q=N):jz 4 b (q,x2)=[]:=by
 unfold jz;rw[if_neg (by omega)]
theorem Uu{b:List bS}{q x2 N:Int}(_:gl b q=N):jz 6 b (q,x2)=[]:=by
 unfold jz;rw[if_neg (by omega)]
theorem Uv{s:List bS}{b x2 N:Int}(h:gl s b=N):jz 5 s (b,x2)=if N=0 then[(b,x2)]else[]:=by
 unfold jz;simp only[h];by_cases q:N=0
 ·rw[if_pos ⟨trivial,q⟩,if_pos q]
 rw[if_neg (by omega),if_neg q]
section
variable{w:aU}{FP TP PB DB M:Nat}{c:Ch}{sv:Head}{t:Int}{d:Dk}
theorem VW{s:Nat}{w w':aU}(g:Gr w w')(q:Qy)(b:Nat)(h:gv s w q b):gv s w' q b:=gv.fL (ag.ah g) q b h
theorem Ox(h:jn w FP TP PB DB M c sv t d)(z:mA w){X:Tr}(B:X.lays c d.pg 3){n:ByteArray}(hn:cI n){L:ByteArray->List aa}{ls:List (ByteArray×Int×ByteArray)}(D:sQ X n L ls)(J:Bl L ls){S b:Nat}{kind bg:Int}{ws:List ByteArray}(G:gv S w (.leaf kind ws bg) b)(H:pJ (.leaf kind ws bg)):
  bB prog 12 #[.pointer (some ⟨FP,0,none⟩),.string n,.pointer (some ⟨b,0,none⟩)] w fun e q=>∃v out,e=.returned (.tuple #[v,.nilIface])/\dP w q v out/\oA L ls (.leaf kind ws bg) out/\Gr w q:=by
 have s:∀(out:List bS),jF out (HN L ls (.leaf kind ws bg))->(kind=1\/kind=2\/kind=3)->
   bB prog 51 #[.pointer (some ⟨FP,0,none⟩),.string n,.pointer (some ⟨b,0,none⟩)] w (fun e q=>∃v,e=.returned (.tuple #[v,.nilIface])/\gb w q v out/\Gr w q)->
   bB prog 12 #[.pointer (some ⟨FP,0,none⟩),.string n,.pointer (some ⟨b,0,none⟩)] w fun e q=>∃v out,e=.returned (.tuple #[v,.nilIface])/\dP w q v out/\oA L ls (.leaf kind ws bg) out/\Gr w q:=by
  intro out Q U hc;have V:=ae (D0 J Q);have Y:=ae hc;obtain⟨_,c0,_⟩:=G;clear Q hc h z B hn D J H;rcases U with rfl|rfl|rfl
  all_goals
   go_enter func12,ntmps12;go_wp2_with fail
   refine Y.out.mono ?_;rintro e w1 ⟨v1,rfl,y,I⟩;have HR:=ae (And.intro y.own I);obtain⟨a1,c1,O⟩:=y.own.form;clear y I;subst O;go_wp2_with fail
   go_ret2;exact⟨_,out,rfl,HR.out.1,V.out,HR.out.2⟩
 rcases H with⟨rfl,rfl,Z,r,rfl,hw,hr⟩|⟨rfl,rfl,Z,rfl⟩|⟨rfl,rfl,wa,wb,rfl,ha,hb⟩
 ·refine s _ ?_ (.inl rfl) (RN h B hn D G hw hr);exact(LO (yG (wk L J.ZS r _ (cx bI _)))).1
 ·refine s _ ?_ (.inr (.inl rfl)) (RP h z B hn D G);exact(LO (yG (Fp L _))).1
 refine s _ ?_ (.inr (.inr rfl)) (RQ h B hn D G ⟨ha,hb⟩);exact Ou _ (cx kR _)
end
section
variable{w:aU}{FP TP PB DB M:Nat}{c:Ch}{sv:Head}{t:Int}{d:Dk}
theorem Md(_:jn w FP TP PB DB M c sv t d){K:Int}(hk:K=4\/K=5\/K=6){n:ByteArray}{L:ByteArray->List aa}{ls:List (ByteArray×Int×ByteArray)}(hF:Bl L ls){NB b:Nat}{ql qr:Qy}(hq:gv NB w (.node K ql qr) b)(o0:jA ql+jA qr<=100000)
  (hL:∀(W:aU) (bl:Nat),Gr w W->gv NB W ql bl->bB prog 12 #[.pointer (some ⟨FP,0,none⟩),.string n,.pointer (some ⟨bl,0,none⟩)] W fun e V=>∃v out,e=.returned (.tuple #[v,.nilIface])/\dP W V v out/\oA L ls ql out/\Gr W V)
  (hR:∀(W:aU) (br:Nat),Gr w W->gv NB W qr br->bB prog 12 #[.pointer (some ⟨FP,0,none⟩),.string n,.pointer (some ⟨br,0,none⟩)] W fun e V=>∃v out,e=.returned (.tuple #[v,.nilIface])/\dP W V v out/\oA L ls qr out/\Gr W V):
  bB prog 12 #[.pointer (some ⟨FP,0,none⟩),.string n,.pointer (some ⟨b,0,none⟩)] w fun e V=>∃v out,e=.returned (.tuple #[v,.nilIface])/\dP w V v out/\oA L ls (.node K ql qr) out/\Gr w V:=by
 obtain⟨_,c0,_,_,bl,br,c3,c4,g4,g5⟩:=hq;have HK:=ae hk;rcases hk with hk|hk|hk
 all_goals
  rw[hk]at c0;have H0:=ae hk;clear hk;have g6:=hL w bl (Gr.refl w) g4;have b5:=ae g6;have k9:=ae g5;have HR:=ae hR;have HF:=ae hF;clear g6 g5 hR hL g4 hF;go_enter func12,ntmps12;go_wp2_with fail
  refine b5.out.mono ?_;rintro e w1 ⟨v1,s,rfl,d6,g7,b2⟩;have g8:=HR.out w1 br b2 (VW b2 qr br k9.out);have d0:=b2.keeps c0;have d4:=b2.keeps c4;have l0:=ae g8;have l1:=ae d6;have b3:=ae g7;have l2:=ae b2;obtain⟨a1,l3,l4⟩:=d6.form;clear g8 d6 g7 b2;subst l4;go_wp2_with fail
  refine l0.out.mono ?_;rintro e H ⟨v2,lb,rfl,c5,g9,b6⟩;have o1:=ae c5;have b4:=ae g9;have o2:=ae b6;have h0:=ae ((l1.out.gr b6).lZ);have h3:=ae (c5.lZ);have e0:=b6.keeps d0;have h4:=ae (l2.out.trans b6);obtain⟨a2,l5,l6⟩:=c5.form;clear c5 g9 b6 d0 d4;subst l6;go_wp2_with fail
  go_loopw [11,59] (fun ov iv V=>∃i:Nat,i<=s.length/\iv=.int .i64 i/\gb H V ov (pE K (s.take i) lb)/\Gr H V) (fun _ iv _=>s.length-(intOf iv).toNat)
  case atStart=>exact⟨0,be _,rfl,bP _ _ _ _,Gr.refl _⟩
  case round=>as_aux_lemma=>
   obtain⟨i,hi,rfl,I,U⟩:=hrel;by_cases q:i<s.length
   ·have d7:(i:Int)<(s.length:Int):=by omega
    obtain⟨B1,n1,rfl,o3,h5⟩:∃b O,a1=some ⟨b,O,none⟩/\b<H.heap.size/\cq H b O s:=by
      rcases h0.out with⟨_,e2⟩|⟨b,O,c,e,hb,hp⟩
      ·rw[e2]at q;exact absurd q (by simp)
      cases e;exact⟨b,O,rfl,hb,hp⟩
    have k0:=U.keeps (h5 i q).1;have k1:=U.keeps (h5 i q).2;have a3:=Oi K s lb i q;have d8:=b3.out.BI s[i] (bT q);have d5:=yC (iq K lb) (xr K lb) (s.take i);rw[bh]at d5;have o4:=b3.out.len;have Q:(pE K (s.take i) lb).length+1<=1000000:=by
      unfold pE;omega
    obtain⟨⟨G,x2⟩,J⟩:∃x,s[i]=x:=⟨_,rfl⟩;rw[J]at k0 k1 a3 d8;simp only at k0 k1 d8;have h6:=JC HF.out b4.out G;have a4:=fun(W:aU) (g:Gr H W)=>PN lb (.slice a2 lb.length l5) G W (h3.out.gr g) (by have:=b4.out.len;omega);obtain⟨N,hN⟩:∃N,gl lb G=N:=⟨_,rfl⟩;simp only[hN]at h6 a4;have o5:ch.wrap (x2+N)=x2+N:=by
      rw[bz];omega
    have n2:cs (x2+N)=x2+N:=by
      unfold cs;omega
    have gA:Gr wr (wr.alloc (.cells #[.int .i64 G,.int .i64 x2] 47)):=(Gr.refl wr).alloc _;have b0:(wr.alloc (.cells #[.int .i64 G,.int .i64 x2] 47)).cell? ⟨wr.heap.size,0,none⟩=some (.int .i64 G):=by
      rw[az]
      rfl
    have b1:(wr.alloc (.cells #[.int .i64 G,.int .i64 x2] 47)).cell? ⟨wr.heap.size,1,none⟩=some (.int .i64 x2):=by
      rw[az]
      rfl
    have q0:=(U.trans gA).keeps e0;have d9:=ae a4;have S:=ae a3;have o6:=ae hN;have HO:=ae (I.gr gA);have HG:=ae (U.trans gA);have b9:=ae Q
    first|have z:=Uq (x2:=x2) hN;rw[<-H0.out]at z|have z:=Ur (x2:=x2) hN;rw[<-H0.out]at z|have z:=Us (x2:=x2) hN;rw[<-H0.out]at z
    have B:=ae z;obtain⟨b8,c6,a5⟩:=I.own.form;clear I U a4 a3 hN d5 Q J d8 h6 gA z;subst a5;go_wp2_with fail
    generalize hW:wr.alloc (.cells #[.int .i64 G,.int .i64 x2] 47)=wa at*;refine(d9.out _ HG.out).mono ?_;rintro e w3 ⟨rfl,D⟩;have b0:=D.keeps b0;have b1:=D.keeps b1;have q0:=D.keeps q0;have Y:=ae (HO.out.gr D);have Z:=ae (HG.out.trans D);clear D hW
    first
      |by_cases hc:0<N
       ·rw[if_pos hc]at B;go_wp2_with(at_builtin;refine jR (a0:=H) rfl _ _ rfl _ (pE K (s.take i) lb) rfl Y.out (G,x2+N) rfl b9.out Z.out ?_;intro v8 w8 a6 a7)
        exact⟨⟨i+1,q,by go_num,by rw[S.out,B.out];exact a6,a7⟩,by simp[intOf];omega⟩
       rw[if_neg hc]at B;go_wp2_with fail
       exact⟨⟨i+1,q,by go_num,by rw[S.out,B.out,bt];exact Y.out,Z.out⟩,by simp[intOf];omega⟩
      |by_cases hc:N=0
       ·rw[if_pos hc]at B;subst hc;go_wp2_with(at_builtin;refine jR (a0:=H) rfl _ _ rfl _ (pE K (s.take i) lb) rfl Y.out (G,x2) rfl b9.out Z.out ?_;intro v8 w8 a6 a7)
        exact⟨⟨i+1,q,by go_num,by rw[S.out,B.out];exact a6,a7⟩,by simp[intOf];omega⟩
       rw[if_neg hc]at B;have l7:(N==0)=false:=by simpa using hc
       go_wp2_with fail
       exact⟨⟨i+1,q,by go_num,by rw[S.out,B.out,bt];exact Y.out,Z.out⟩,by simp[intOf];omega⟩
      |go_wp2_with(at_builtin;refine jR (a0:=H) rfl _ _ rfl _ (pE K (s.take i) lb) rfl Y.out (G,x2+N) rfl b9.out Z.out ?_;intro v8 w8 a6 a7)
       exact⟨⟨i+1,q,by go_num,by rw[S.out,B.out];exact a6,a7⟩,by simp[intOf];omega⟩
   have d7:¬(i:Int)<(s.length:Int):=by omega
   have h8:s.take i=s:=ap (by omega);rw[h8]at I;obtain⟨OA,c7⟩:∃OA,pE K s lb=OA:=⟨_,rfl⟩;have h9:OA.length<=8001:=by
     rw[<-c7];have h1:=yC (iq K lb) (xr K lb) s;have h2:=b3.out.len;unfold pE;omega
   rw[c7]at I;have i0:=ae c7;have j0:=ae h9;have HO:=ae I;have HG:=ae U;obtain⟨b8,c6,a5⟩:=I.own.form;clear I U h8 c7 h9;subst a5;go_wp2_with fail
   obtain⟨wo,i1⟩:∃wo,wr=wo:=⟨_,rfl⟩;rw[i1]at HO HG⊢;clear i1 wr;go_loopw [11,109] (fun ov iv V=>∃j:Nat,j<=lb.length/\iv=.int .i64 j/\gb H V ov (OA++rJ K s (lb.take j))/\Gr H V) (fun _ iv _=>lb.length-(intOf iv).toNat)
   case atStart=>exact⟨0,be _,rfl,by show gb H wo _ (OA++[]);rw[bt];exact HO.out,HG.out⟩
   case round=>as_aux_lemma=>
    obtain⟨j,hj,rfl,I,U⟩:=hrel;have a9:=yC (jz K s) (DV K s) (lb.take j);rw[bh]at a9;have Q:(OA++rJ K s (lb.take j)).length+1<=1000000:=by
     have h1:=b4.out.len;have h2:=j0.out;rw[ak];unfold rJ;omega
    by_cases q:j<lb.length
    ·have d7:(j:Int)<(lb.length:Int):=by omega
     obtain⟨B2,n3,rfl,o7,i3⟩:∃b O,a2=some ⟨b,O,none⟩/\b<H.heap.size/\cq H b O lb:=by
      rcases h3.out with⟨_,e2⟩|⟨b,O,c,e,hb,hp⟩
      ·rw[e2]at q;exact absurd q (by simp)
      cases e;exact⟨b,O,rfl,hb,hp⟩
     have k0:=U.keeps (i3 j q).1;have k1:=U.keeps (i3 j q).2;have a3:=Oj K s lb j q;have o8:=b4.out.len;obtain⟨CL,e1⟩:∃CL,OA++rJ K s (lb.take j)=CL:=⟨_,rfl⟩;rw[e1]at I Q;have b5:=ae e1;clear e1;obtain⟨⟨G,x2⟩,J⟩:∃x,lb[j]=x:=⟨_,rfl⟩;rw[J]at k0 k1 a3;simp only at k0 k1;have a4:=fun(W:aU) (g:Gr H W)=>PN s (.slice a1 s.length l3) G W (h0.out.gr g) (by have:=b3.out.len;omega);obtain⟨N,hN⟩:∃N,gl s G=N:=⟨_,rfl⟩;simp only[hN]at a4;have gA:Gr wr (wr.alloc (.cells #[.int .i64 G,.int .i64 x2] 47)):=(Gr.refl wr).alloc _;have b0:(wr.alloc (.cells #[.int .i64 G,.int .i64 x2] 47)).cell? ⟨wr.heap.size,0,none⟩=some (.int .i64 G):=by
      rw[az]
      rfl
     have b1:(wr.alloc (.cells #[.int .i64 G,.int .i64 x2] 47)).cell? ⟨wr.heap.size,1,none⟩=some (.int .i64 x2):=by
      rw[az]
      rfl
     have q0:=(U.trans gA).keeps e0;have d9:=ae a4;have S:=ae a3;have HO:=ae (I.gr gA);have HG:=ae (U.trans gA);have b9:=ae Q
     first|have z:=Ut (x2:=x2) hN;rw[<-H0.out]at z|have z:=Uv (x2:=x2) hN;rw[<-H0.out]at z|have z:=Uu (x2:=x2) hN;rw[<-H0.out]at z
     have B:=ae z;obtain⟨b8,c6,a5⟩:=I.own.form;clear I U a4 a3 hN a9 Q J gA z;subst a5;go_wp2_with fail
     first
      |exact⟨⟨j+1,q,by go_num,by rw[S.out,B.out,bt,b5.out];exact HO.out,HG.out⟩,by simp[intOf];omega⟩
      |generalize hW:wr.alloc (.cells #[.int .i64 G,.int .i64 x2] 47)=wa at*
       refine(d9.out _ HG.out).mono ?_;rintro e w3 ⟨rfl,D⟩;have b0:=D.keeps b0;have b1:=D.keeps b1;have Y:=ae (HO.out.gr D);have Z:=ae (HG.out.trans D);clear D hW;by_cases hc:N=0
       ·rw[if_pos hc]at B;subst hc;go_wp2_with(at_builtin;refine jR (a0:=H) rfl _ _ rfl _ CL rfl Y.out (G,x2) rfl b9.out Z.out ?_;intro v8 w8 a6 a7)
        exact⟨⟨j+1,q,by go_num,by rw[S.out,B.out,<-List.append_assoc,b5.out];exact a6,a7⟩,by simp[intOf];omega⟩
       rw[if_neg hc]at B;have l7:(N==0)=false:=by simpa using hc
       go_wp2_with fail
       exact⟨⟨j+1,q,by go_num,by rw[S.out,B.out,bt,b5.out];exact Y.out,Z.out⟩,by simp[intOf];omega⟩
    have d7:¬(j:Int)<(lb.length:Int):=by omega
    have i4:lb.take j=lb:=ap (by omega);rw[i4]at I Q;have e3:∀x∈OA++rJ K s lb,0<=x.1/\x.1<=2147483648:=fun x J=>by
     rw[<-i0.out]at J;rcases b_.1 J with J|J
     ·obtain⟨y,hy,J⟩:=cW.1 J;have h1:=b3.out.row y hy;have h2:=Ov J;omega
     obtain⟨y,hy,J⟩:=cW.1 J;have h1:=b4.out.row y hy;have h2:=Ow J;omega
    obtain⟨AL,e4⟩:∃AL,OA++rJ K s lb=AL:=⟨_,rfl⟩;rw[e4]at I e3 Q;have l8:=ae e4;clear e4;have i5:=Jz H wr _ _ I.own U (by omega) e3;have l9:=ae i5;obtain⟨b8,c6,a5⟩:=I.own.form;clear I U i5 i4 e3 a9 Q;subst a5;go_wp2_with fail
    refine l9.out.mono ?_;rintro e w9 ⟨rfl,ys,e5,i6,i7,i9⟩;rw[<-l8.out,<-i0.out]at e5;have hj:=Ol (kind:=K) (by rcases HK.out with e|e|e<;>rw[e]<;>decide) b3.out.PP b4.out.PP e5 i6;rw[<-Up]at hj;have HR:Hid (dP H w9 (.slice b8 AL.length c6) ys/\oA L ls (.node K ql qr) ys/\Gr H w9):=ae ⟨i7,D0 HF.out hj,i9⟩;clear e5 i6 i7 i9 hj;go_wp2_with fail
    go_ret2;exact⟨_,ys,rfl,HR.out.1.back h4.out,HR.out.2.1,h4.out.trans HR.out.2.2⟩
end
end
section
open Go Go.RowKit
section
variable{w:aU}{FP TP PB DB M:Nat}{c:Ch}{sv:Head}{t:Int}{d:Dk}
theorem JJ(h:jn w FP TP PB DB M c sv t d)(y:mA w){X:Tr}(G:X.lays c d.pg 3){n:ByteArray}(hn:cI n){L:ByteArray->List aa}{ls:List (ByteArray×Int×ByteArray)}(H:sQ X n L ls)(D:Bl L ls){I:Nat}:
  ∀(q:Qy) (W:aU) (b:Nat),Gr w W->gv I W q b->pJ q->jA q<=100000->bB prog 12 #[.pointer (some ⟨FP,0,none⟩),.string n,.pointer (some ⟨b,0,none⟩)] W fun e Y=>∃v out,e=.returned (.tuple #[v,.nilIface])/\dP W Y v out/\oA L ls q out/\Gr W Y
 | .leaf kind ws bg,W,b,g,J,z,_=>Ox (h.gr g) (y.gr g) G hn H D J z
 | .node kind O Q,W,b,g,J,z,S=>by
  obtain⟨hk,U,V⟩:=z;have hs:jA O+jA Q<=100000:=S;have IL:=fun(s:aU) (Z:Nat) (g2:Gr W s) (B:gv I s O Z)=>JJ h y G hn H D O s Z (g.trans g2) B U (by omega);have IR:=fun(s:aU) (br:Nat) (g2:Gr W s) (B:gv I s Q br)=>JJ h y G hn H D Q s br (g.trans g2) B V (by omega);exact Md (h.gr g) hk D J hs IL IR
end
