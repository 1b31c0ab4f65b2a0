/-
  Part 12 of the proof.
-/
import Derived.Deep.OwnRows
import Derived.Test.YtldmhjbdahjhdaaGreatDoorZa2
open Go.Proofs.Tryz
open Go.Lib renaming hid->ae,indexByte->bh,extract_data->bC,contains_iff_indexByte->cW,trimPrefix->da,hasPrefix->dh,indexAny->dD,hasSuffix->ea,indexAny_none->ew,indexAny_hit->eB,containsAny->fl,trimSuffix->fn,validRune->fT,NoAny->iP
open Go.World renaming cell?_alloc_new->ak,cell?_setCell_other->bv,frozen?_setCell->bX,cell?_setCell_same->cg
open List renaming length_append->ap,length_drop->aU,take_of_length_le->aV,map_append->aX,drop_eq_nil_of_le->bc,drop_eq_getElem_cons->be,take_succ_eq_append_getElem->bt,getElem?_eq_getElem->bz,getElem_cons_zero->bB,length_take->bP,all_eq_true->bQ,isSuffixOf_iff_suffix->bZ,takeWhile_cons->b_,take_succ_cons->cf,getElem_drop->cl,all_append->cD,getElem?_take->cK,getElem?_eq_some_iff->de,mem_cons->dg,tail_suffix->dr,append_nil->dF,length_map->dJ,drop_drop->dT,mem_of_mem_take->dU,mem_of_getElem?->dZ,all_cons->eb,contains_cons->ej,mem_cons_self->ek,getElem?_map->el,contains_nil->es,length_cons->eA,getElem_mem->eH,length->eV,length_set->eY,nil_append->fe,map_cons->fK,map_nil->gs,mem_map->g5
open Bool renaming eq_false_iff->az,and_eq_true->bF,eq_iff_iff->bW,or_eq_true->cs,false_eq_true->cO,or_false->fM,or_assoc->fS
open Go renaming World->aJ,Calls->bj,Value->di,run_convert_bytes_back->dA,info_parts->eh,TypeId->ez,Ending->fy
open Go.ByteArray renaming toList_eq->aQ
open Go.Value renaming string->aS,int->gc,bool->ib
open Nat renaming zero_le->bu,le_refl->bA,add_zero->cF,lt_irrefl->fI,le_of_lt->gf,lt_or_ge->gw,le_trans->g4
open Go.Instr renaming index->bM
open ByteArray renaming size_extract->bT,data_append->g7,size_append->g8
open UInt8 renaming toNat_lt->ch,le_iff_toNat_le->co,toNat_inj->dQ,ofNat->g9
open Option renaming map_eq_some_iff->cj
open Array renaming getElem?_eq_some_iff->cL,getElem?_toList->dS
open Option.some renaming injEq->en,inj->iQ
open Go.Proofs.Tryz renaming underlying5->eT,ntmps130->fA,func130->g6,ntmps131->hI,ntmps135->hO,func131->ik,ntmps75->iu,func135->iF,func75->iT
open Go.Lib.NoAny renaming zero->iR
set_option maxRecDepth 100000
set_option maxHeartbeats 100000000
set_option linter.all false
namespace Go.Proofs.YtldmhjbdahjhdaaGreatDoor
section
open Go Go.RowKit
def nC(w:aJ)(b:Nat)(l:List UInt8):Prop:=∀i (h:i<l.length),w.cell? ⟨b,i,none⟩=some (.int .u8 (l[i].toNat:Int))/\w.frozen? ⟨b,i,none⟩=false
theorem nC.set{w:aJ}{b:Nat}{l:List UInt8}(h:nC w b l)(k:Nat)(s:k<l.length)(c:UInt8):nC (w.setCell ⟨b,k,none⟩ (.int .u8 (c.toNat:Int))) b (l.set k c):=by
 intro i hi;have q:i<l.length:=by simpa using hi
 refine⟨?_,by simpa using(h i q).2⟩;by_cases e:k=i
 ·subst e;rw[cg (w:=w) (a:=⟨b,k,none⟩) (v:=.int .u8 (c.toNat:Int)) (h:=(h k s).1)];simp
 rw[bv (w:=w) (a:=⟨b,k,none⟩) (b:=⟨b,i,none⟩) (v:=.int .u8 (c.toNat:Int)) (h:=by intro h;injection h with _ y _;exact e y),(h i q).1];simp[e]
theorem Jh(w:aJ)(s:ByteArray)(cap:Nat)(t:ez):nC (w.alloc (.cells (bytesRow s cap) t ((bytesRow s cap).size,(bytesRow s cap).size+1))) w.heap.size s.data.toList:=by
 intro i hi;have b:i<s.data.size:=by simpa using hi
 have q:i<(bytesRow s cap).size:=by
  unfold bytesRow;rw[Array.size_append,Array.size_map];omega
 refine⟨?_,?_⟩
 ·rw[World.cell?_alloc_mark];unfold bytesRow;rw[Array.getElem?_append_left (by simpa using b),Array.getElem?_map,Array.getElem?_eq_getElem b];simp
 rw[World.frozen?_alloc_mark];simp;omega
def a_(c:UInt8):UInt8:=if 65<=c/\c<=90 then c+32 else c
def bs(s:ByteArray):ByteArray:=⟨(s.data.toList.map a_).toArray⟩
def rD(l:List UInt8)(j:Nat):List UInt8:=(l.take j).map a_++l.drop j
theorem yq(l:List UInt8)(j:Nat):(rD l j).length=l.length:=by simp[rD];omega
theorem Dw(l:List UInt8)(j i:Nat)(b:j<=l.length):(rD l j)[i]?=if i<j then l[i]?.map a_ else l[i]?:=by
 unfold rD
 split
 ·rename_i h
  rw[List.getElem?_append_left (by simp;omega),el,cK,if_pos h]
 rename_i h
 rw[List.getElem?_append_right (by simp;omega),List.getElem?_drop]
 congr 1
 simp;omega
theorem GL(l:List UInt8)(j:Nat)(h:j<l.length)(b:j<(rD l j).length):(rD l j)[j]=l[j]:=by
 have:=Dw l j j (gf h);rw[if_neg (fI j),bz h,bz b]at this;exact iQ this
theorem Dx(l:List UInt8)(j:Nat)(h:j<l.length):rD l (j+1)=(rD l j).set j (a_ l[j]):=by
 apply List.ext_getElem?;intro i;rw[Dw l (j+1) i h,List.getElem?_set,Dw l j i (gf h)];by_cases e:j=i
 ·subst e;rw[if_pos (by omega),if_pos rfl,if_pos (by rw[yq];exact h),bz h]
  rfl
 rw[if_neg e];by_cases b:i<j
 ·rw[if_pos (by omega),if_pos b]
 rw[if_neg (by omega),if_neg b]
theorem Rn(l:List UInt8)(j:Nat)(h:l.length<=j):rD l j=l.map a_:=by
 unfold rD;rw[aV h,bc h,dF]
theorem uA(c:UInt8)(s:(65:Int)<=(c.toNat:Int))(y:(c.toNat:Int)<=90):((a_ c).toNat:Int)=(c.toNat:Int)+32:=by
 have b:(65:UInt8)<=c:=by rw[co];simpa using(by omega:65<=c.toNat)
 have q:c<=(90:UInt8):=by rw[co];simpa using(by omega:c.toNat<=90)
 unfold a_;rw[if_pos ⟨b,q⟩,UInt8.toNat_add];simp;omega
theorem xi(c:UInt8)(h:¬((65:Int)<=(c.toNat:Int)/\(c.toNat:Int)<=90)):a_ c=c:=by
 unfold a_;rw[if_neg];rintro⟨b,q⟩;rw[co]at b q;simp at b q;omega
theorem Lt(s:ByteArray)(hs:s.size<=9223372036854775807)(w:aJ):bj prog 86 #[.string s] w (ar w (.string (bs s))):=by
 have J:=fun w=>run_bytes_of_string (P:=prog) w 9 188 5 s underlying9 underlying188 eT;go_enter func86,ntmps86;go_wp2_with fail
 clear J;have z:nC (w.alloc (Obj.cells (bytesRow s (grownCap w s.size 0 5)) 5 ((bytesRow s (grownCap w s.size 0 5)).size,(bytesRow s (grownCap w s.size 0 5)).size+1))).drew w.heap.size (rD s.data.toList 0):=
  Jh w s (grownCap w s.size 0 5) 5
 generalize grownCap w s.size 0 5=cap at*;have B:Gr w (w.alloc (Obj.cells (bytesRow s cap) 5 ((bytesRow s cap).size,(bytesRow s cap).size+1))).drew:=(Gr.alloc (Gr.refl w) _).drew;generalize(w.alloc (Obj.cells (bytesRow s cap) 5 ((bytesRow s cap).size,(bytesRow s cap).size+1))).drew=w0 at*;have L:=ae z;clear z;go_loopw [10] (fun i O=>∃j:Nat,j<=s.size/\i=.int .i64 j/\Gr w O/\nC O w.heap.size (rD s.data.toList j)) (fun i _=>s.size-(intOf i).toNat)
 case atStart=>exact⟨0,bu _,rfl,B,L.out⟩
 case round=>
  obtain⟨j,Q,rfl,G,S⟩:=hrel;have q:=ae S;clear S B;by_cases M:j<s.size
  ·have y:j<s.data.toList.length:=by rw[<-size_data];exact M
   have b:j<(rD s.data.toList j).length:=by rw[yq];exact y
   have hc:=(q.out j b).1;have hf:=(q.out j b).2;rw[GL _ _ y]at hc;generalize D:s.data.toList[j]=c at*;have H:=ae D;clear D;have Z:=ch c;go_wp2_with fail
   ·have U:(65:Int)<=(c.toNat:Int):=by assumption
    have V:(c.toNat:Int)<=90:=by assumption
    have e:(c.toNat:Int)+97-65=((a_ c).toNat:Int):=by rw[uA c U V];omega
    refine⟨⟨j+1,by omega,by go_num,G.setCell (bA _) _,?_⟩,by simp[intOf];omega⟩;rw[e,Dx _ _ y,H.out];exact q.out.set j b _
   all_goals
    have e:a_ c=c:=xi c (by omega);refine⟨⟨j+1,by omega,by go_num,G,?_⟩,by simp[intOf];omega⟩;rw[Dx _ _ y,H.out,e,<-H.out,<-GL _ _ y b,List.set_getElem_self];exact q.out
  have I:=q.out;rw[Rn _ _ (by rw[<-size_data];omega)]at I;have hk:(convert 188 9 (.slice (some ⟨w.heap.size,0,none⟩) s.size cap)).run prog wr=.ok (.string (bs s)) wr:=by
   have:=dA (P:=prog) wr 188 9 5 ⟨w.heap.size,0,none⟩ cap (s.data.toList.map a_) underlying188 eT underlying9
    (fun j Q=>by
     have:=(I j Q).1;unfold Addr.add
     split
     ·rename_i Y;subst Y;exact this
     simpa using this)
   rw[dJ,<-size_data]at this;exact this
  clear I;go_wp2_with fail
  go_ret;exact ar.mk rfl G
theorem uB{b:Type}(L M:List b)(j:Nat)(h:j<L.length)(q:j<M.length)(s:L.take j=M.take j):(L.set j M[j]).take (j+1)=M.take (j+1):=by
 rw[bt (by simpa using h),bt q,List.take_set_of_le (bA j),s];simp
theorem py(s:ByteArray)(hs:s.size<=140737488355328)(w:aJ):bj prog 101 #[.string s] w (ar w (.string (bs s))):=by
 have M:=fun W=>run_make_row' (P:=prog) 188 5 (.int .u8 0) 1 underlying188 (by kernel_rfl) rfl .i64 .i64 s.size (by omega) (by omega) W;go_enter func101,ntmps101;go_wp2_with fail
 clear M;have B:∃L:List UInt8,L.length=s.size/\nC (w.alloc (Obj.cells (madeCells #[gc .u8 0] s.size) 5)) w.heap.size L/\L.take 0=(s.data.toList.map a_).take 0:=by
  refine⟨List.replicate s.size 0,by simp,fun i hi=>?_,rfl⟩;have O:i<s.size:=by simpa using hi
  refine⟨?_,by simp⟩;rw[ak,<-dS,toList_madeCells_one];simp[O]
 have Q:=ae B;clear B;have D:Gr w (w.alloc (Obj.cells (madeCells #[gc .u8 0] s.size) 5)):=(Gr.refl w).alloc _;generalize w.alloc (Obj.cells (madeCells #[gc .u8 0] s.size) 5)=w0 at*;go_loopw [11] (fun i U=>∃j:Nat,j<=s.size/\i=.int .i64 j/\Gr w U/\∃L:List UInt8,L.length=s.size/\nC U w.heap.size L/\L.take j=(s.data.toList.map a_).take j) (fun i _=>s.size-(intOf i).toNat)
 case atStart=>exact⟨0,bu _,rfl,D,Q.out⟩
 case round=>
  obtain⟨j,V,rfl,I,L,Y,Z,ht⟩:=hrel;have y:=ae Z;have J:=ae ht;have z:=ae Y;clear Z D ht Y;by_cases q:j<s.size
  ·have hl:j<s.data.toList.length:=by rw[<-size_data];exact q
   have b:j<L.length:=by rw[z.out];exact q
   have G:j<(s.data.toList.map a_).length:=by simpa using hl
   have hc:=(y.out j b).1;have hf:=(y.out j b).2;generalize L[j].toNat=cc at*;have hr:=ch s[j];have em:(s.data.toList.map a_)[j]=a_ s[j]:=by rw[List.getElem_map,bm s j q]
   go_wp2_with fail
   ·have H:(65:Int)<=(s[j].toNat:Int):=by assumption
    have h2:(s[j].toNat:Int)<=90:=by assumption
    have e:(s[j].toNat:Int)+32=((a_ s[j]).toNat:Int):=(uA _ H h2).symm;refine⟨⟨j+1,by omega,by go_num,I.setCell (bA _) _,L.set j (a_ s[j]),by rw[eY];exact z.out,?_,?_⟩,by simp[intOf];omega⟩
    ·rw[e];exact y.out.set j b _
    rw[<-em];exact uB L _ j b G J.out
   all_goals
    have e:a_ s[j]=s[j]:=xi _ (by omega);refine⟨⟨j+1,by omega,by go_num,I.setCell (bA _) _,L.set j s[j],by rw[eY];exact z.out,y.out.set j b _,?_⟩,by simp[intOf];omega⟩;rw[<-e,<-em];exact uB L _ j b G J.out
  have hx:=y.out;have hk:(convert 188 9 (.slice (some ⟨w.heap.size,0,none⟩) s.size s.size)).run prog wr=.ok (.string (bs s)) wr:=by
   have S:L=s.data.toList.map a_:=by
    have H:=J.out;rw[aV (by rw[z.out];omega),aV (by rw[dJ,<-size_data];omega)]at H;exact H
   have:=dA (P:=prog) wr 188 9 5 ⟨w.heap.size,0,none⟩ s.size L underlying188 eT underlying9
    (fun j V=>by
     have:=(hx j V).1;unfold Addr.add
     split
     ·rename_i h0;subst h0;exact this
     simpa using this)
   rw[z.out,S]at this;exact this
  clear hx;go_wp2_with fail
  go_ret;exact ar.mk rfl I
def jw:List (List UInt8×List UInt8):=[([115,115,101,115],[115,115]),([105,101,115],[121]),([115,115],[115,115]),([105,110,103],[]),([101,100],[]),([101,115],[101]),([115],[])]
def fj:Array di:=#[.string ⟨#[115,115,101,115]⟩,.string ⟨#[115,115]⟩,.string ⟨#[105,101,115]⟩,.string ⟨#[121]⟩,.string ⟨#[115,115]⟩,.string ⟨#[115,115]⟩,.string ⟨#[105,110,103]⟩,.string ⟨#[]⟩,.string ⟨#[101,100]⟩,.string ⟨#[]⟩,.string ⟨#[101,115]⟩,.string ⟨#[101]⟩,.string ⟨#[115]⟩,.string ⟨#[]⟩]
def fq(j:Nat):ByteArray:=⟨(jw.getD j ([],[])).1.toArray⟩
def uC(j:Nat):ByteArray:=⟨(jw.getD j ([],[])).2.toArray⟩
def fP(w:aJ):Prop:=∃t b,w.heap[(0:Nat)]?=some (.cells fj t b)
theorem fP.lt{w:aJ}(h:fP w):0<w.heap.size:=by
 obtain⟨t,b,h⟩:=h;exact(cL.1 h).1
theorem fP.gr{w w':aJ}(h:fP w)(g:Gr w w'):fP w':=by
 have b:=h.lt;obtain⟨t,q,h⟩:=h;exact⟨t,q,by rw[g.block _ b];exact h⟩
theorem NN(w:aJ):(bM 228 (.agg fj) (.int .i64 0)).run prog w=.ok (.agg #[.string (fq 0),.string (uC 0)]) w:=by kernel_rfl
theorem NO(w:aJ):(bM 228 (.agg fj) (.int .i64 1)).run prog w=.ok (.agg #[.string (fq 1),.string (uC 1)]) w:=by kernel_rfl
theorem NP(w:aJ):(bM 228 (.agg fj) (.int .i64 2)).run prog w=.ok (.agg #[.string (fq 2),.string (uC 2)]) w:=by kernel_rfl
theorem NQ(w:aJ):(bM 228 (.agg fj) (.int .i64 3)).run prog w=.ok (.agg #[.string (fq 3),.string (uC 3)]) w:=by kernel_rfl
theorem NR(w:aJ):(bM 228 (.agg fj) (.int .i64 4)).run prog w=.ok (.agg #[.string (fq 4),.string (uC 4)]) w:=by kernel_rfl
theorem NS(w:aJ):(bM 228 (.agg fj) (.int .i64 5)).run prog w=.ok (.agg #[.string (fq 5),.string (uC 5)]) w:=by kernel_rfl
theorem NT(w:aJ):(bM 228 (.agg fj) (.int .i64 6)).run prog w=.ok (.agg #[.string (fq 6),.string (uC 6)]) w:=by kernel_rfl
theorem GM(j:Nat)(b:j<7)(w:aJ):(bM 228 (.agg fj) (.int .i64 (j:Int))).run prog w=.ok (.agg #[.string (fq j),.string (uC j)]) w:=
 match j,b with
 |0,_=>NN w
 |1,_=>NO w
 |2,_=>NP w
 |3,_=>NQ w
 |4,_=>NR w
 |5,_=>NS w
 |6,_=>NT w
def jx:List (List UInt8×List UInt8)->List UInt8->List UInt8
 |[],s=>s
 |(e,r)::rest,s=>if e.isSuffixOf s then(if s.length-e.length<3 then s else s.take (s.length-e.length)++r)else jx rest s
def nS(s:ByteArray):ByteArray:=⟨(jx jw s.data.toList).toArray⟩
def Dy(s p:ByteArray):ByteArray:=⟨(fn s.data.toList p.data.toList).toArray⟩
theorem Dz(l:List UInt8)(j:Nat)(b:j<7):jx (jw.drop j) l=if(fq j).data.toList.isSuffixOf l then(if l.length-(fq j).data.toList.length<3 then l else l.take (l.length-(fq j).data.toList.length)++(uC j).data.toList)else jx (jw.drop (j+1)) l:=by
 match j,b with
 |0,_=>rfl
 |1,_=>rfl
 |2,_=>rfl
 |3,_=>rfl
 |4,_=>rfl
 |5,_=>rfl
 |6,_=>rfl
theorem TV(s p:ByteArray)(hs:s.size<=9223372036854775807)(h:p.data.toList.isSuffixOf s.data.toList=true)(w:aJ):
  bj prog 141 #[.string s,.string p] w fun e b=>e=.returned (.tuple #[.string (Dy s p),.bool true])/\w=b:=
 (Tryz.strings_CutSuffix s p w hs).mono fun _ _ ⟨q,hw⟩=>⟨by rw[q];unfold ea;rw[h];rfl,hw.symm⟩
theorem VA(s p:ByteArray)(hs:s.size<=9223372036854775807)(h:p.data.toList.isSuffixOf s.data.toList=false)(w:aJ):
  bj prog 141 #[.string s,.string p] w fun e b=>e=.returned (.tuple #[.string (Dy s p),.bool false])/\w=b:=
 (Tryz.strings_CutSuffix s p w hs).mono fun _ _ ⟨q,hw⟩=>⟨by rw[q];unfold ea;rw[h];rfl,hw.symm⟩
theorem DA(s p:ByteArray)(h:p.data.toList.isSuffixOf s.data.toList=true):(Dy s p).data.toList=s.data.toList.take (s.data.toList.length-p.data.toList.length):=by
 unfold Dy fn ea;rw[h];simp
theorem NU(s p:ByteArray)(h:p.data.toList.isSuffixOf s.data.toList=true):(Dy s p).size=s.size-p.size:=by
 rw[size_data,DA s p h,bP,<-size_data,<-size_data];omega
theorem AV(j:Nat)(b:j<7):(uC j).size<=2:=by
 match j,b with
 |0,_=>decide
 |1,_=>decide
 |2,_=>decide
 |3,_=>decide
 |4,_=>decide
 |5,_=>decide
 |6,_=>decide
theorem Lu(j:Nat)(b:j<7):(fq j).size<=4:=by
 match j,b with
 |0,_=>decide
 |1,_=>decide
 |2,_=>decide
 |3,_=>decide
 |4,_=>decide
 |5,_=>decide
 |6,_=>decide
theorem zI(a b:ByteArray):(a++b).data.toList=a.data.toList++b.data.toList:=by
 rw[g7,Array.toList_append]
theorem VB(s:ByteArray)(hs:s.size<=4611686018427387904)(w:aJ)(B:fP w):bj prog 88 #[.string s] w (ar w (.string (nS s))):=by
 obtain⟨O,Q,B⟩:=B;go_enter func88,ntmps88;go_wp2_with(refine wpList_load_row rfl 228 _ rfl 0 rfl O fj Q _ B underlying228 rfl (by kernel_rfl) ?_)
 clear B;go_loopw [8] (fun i S=>∃j:Nat,j<=7/\i=.int .i64 j/\Gr w S/\jx (jw.drop j) s.data.toList=jx jw s.data.toList) (fun i _=>7-(intOf i).toNat)
 case atStart=>exact⟨0,bu _,rfl,Gr.refl _,rfl⟩
 case round=>
  obtain⟨j,Z,rfl,H,D⟩:=hrel;have I:=ae D;clear D;by_cases z:j<7
  ·have L:=fun w=>GM j z w;have J:=ae (Dz s.data.toList j z);have Y:=AV j z;cases b:(fq j).data.toList.isSuffixOf s.data.toList
   ·have q:=ae b;clear b;go_wp2_with(go_at_call 141;refine(VA _ _ (by omega) q.out _).mono ?_;rintro e U ⟨rfl,rfl⟩)
    exact⟨⟨j+1,by omega,by go_num,H.alloc _,by rw[<-I.out,J.out,q.out];rfl⟩,by simp[intOf];omega⟩
   have q:=ae b;clear b;have G:=NU s (fq j) q.out;have V:=ae G;have M:(Dy s (fq j)).size<=s.size:=by omega
   clear G;go_wp2_with(go_at_call 141;refine(TV _ _ (by omega) q.out _).mono ?_;rintro e U ⟨rfl,rfl⟩)
   all_goals
    go_ret;refine ar.mk ?_ (H.alloc _);have y:s.data.toList.length-(fq j).data.toList.length=(Dy s (fq j)).size:=by rw[V.out,size_data,size_data]
    rw[show nS s=⟨(jx jw s.data.toList).toArray⟩from rfl,<-I.out,J.out,q.out,y];simp only[↓reduceIte]
   ·rw[if_pos (by omega)];rfl
   rw[if_neg (by omega)];refine congrArg aS (bE ?_);rw[zI,DA s _ q.out,<-y]
  go_wp2_with fail
  go_ret;obtain rfl:j=7:=by omega
  exact ar.mk (by rw[show nS s=⟨(jx jw s.data.toList).toArray⟩from rfl,<-I.out];rfl) H
theorem Lv(s p:ByteArray):((s.extract (s.size-p.size) s.size).toList==p.toList)=p.data.toList.isSuffixOf s.data.toList:=by
 rw[Lib.extract_toList,aQ,size_data,size_data,bW,beq_iff_eq,bZ,List.suffix_iff_eq_drop];rw[aV (by simp)];exact⟨fun e=>e.symm,fun e=>e.symm⟩
theorem Fb(s p:ByteArray)(h:s.size<p.size):p.data.toList.isSuffixOf s.data.toList=false:=by
 rw[az];intro e;have:=(bZ.1 e).length_le;rw[size_data,size_data]at h;omega
theorem vw(s:ByteArray)(hs:s.size<=4611686018427387904)(w:aJ):bj prog 102 #[.string s] w (ar w (.string (nS s))):=by
 go_enter func102,ntmps102;go_wp2_with fail
 go_loopw [14] (fun i L=>∃j:Nat,j<=7/\i=.int .i64 j/\Gr w L/\jx (jw.drop j) s.data.toList=jx jw s.data.toList) (fun i _=>7-(intOf i).toNat)
 case atStart=>exact⟨0,bu _,rfl,Gr.refl _,rfl⟩
 case round=>
  obtain⟨j,U,rfl,z,D⟩:=hrel;have B:=ae D;clear D;by_cases y:j<7
  ·have J:∀w,(bM 228 (.agg #[.string ⟨#[115,115,101,115]⟩,.string ⟨#[115,115]⟩,.string ⟨#[105,101,115]⟩,.string ⟨#[121]⟩,.string ⟨#[115,115]⟩,.string ⟨#[115,115]⟩,.string ⟨#[105,110,103]⟩,.string ⟨#[]⟩,.string ⟨#[101,100]⟩,.string ⟨#[]⟩,.string ⟨#[101,115]⟩,.string ⟨#[101]⟩,.string ⟨#[115]⟩,.string ⟨#[]⟩]) (.int .i64 (j:Int))).run prog w=.ok (.agg #[.string (fq j),.string (uC j)]) w:=fun w=>GM j y w;have G:=ae (Dz s.data.toList j y);have O:=AV j y;have Q:=Lu j y;by_cases I:s.size<(fq j).size
   ·have hd:decide (((s.size:Int)-((fq j).size:Int))<0)=true:=by simp;omega
    go_wp2_with fail
    go_quiet (fail)
    go_wp2_with fail
    exact⟨⟨j+1,by omega,by go_num,(z.alloc _).drewN _,by rw[<-B.out,G.out,Fb _ _ I];rfl⟩,by simp[intOf];omega⟩
   have hd:decide (((s.size:Int)-((fq j).size:Int))<0)=false:=by simp;omega
   have H:=ae (Lv s (fq j));go_wp2_with fail
   go_quiet (fail)
   go_wp2_with fail
   ·have q:(!(s.extract (s.size-(fq j).size) s.size).toList==(fq j).toList)=true:=by assumption
    rw[H.out]at q;have b:(fq j).data.toList.isSuffixOf s.data.toList=false:=by simpa using q
    exact⟨⟨j+1,by omega,by go_num,(z.alloc _).drewN _,by rw[<-B.out,G.out,b];rfl⟩,by simp[intOf];omega⟩
   ·have q:(!(s.extract (s.size-(fq j).size) s.size).toList==(fq j).toList)=false:=by assumption
    rw[H.out]at q;have b:(fq j).data.toList.isSuffixOf s.data.toList=true:=by simpa using q
    have hn:s.data.toList.length-(fq j).data.toList.length=s.size-(fq j).size:=by rw[size_data,size_data]
    clear q;have M:=ae b;have HN:=ae hn;clear b hn;have S:(s.extract 0 (s.size-(fq j).size)).size<=s.size:=by rw[bT];omega
    go_quiet (fail)
    go_wp2_with fail
    go_ret;refine ar.mk ?_ (((z.alloc _).drewN _).drewN _);rw[show nS s=⟨(jx jw s.data.toList).toArray⟩from rfl,<-B.out,G.out,if_pos M.out,HN.out,if_neg (by omega)];refine congrArg aS (bE ?_);rw[zI,bC];simp
   have q:(!(s.extract (s.size-(fq j).size) s.size).toList==(fq j).toList)=false:=by assumption
   rw[H.out]at q;have b:(fq j).data.toList.isSuffixOf s.data.toList=true:=by simpa using q
   have hn:s.data.toList.length-(fq j).data.toList.length=s.size-(fq j).size:=by rw[size_data,size_data]
   go_ret;refine ar.mk ?_ ((z.alloc _).drewN _);rw[show nS s=⟨(jx jw s.data.toList).toArray⟩from rfl,<-B.out,G.out,if_pos b,hn,if_pos (by omega)]
   rfl
  go_wp2_with fail
  go_ret;obtain rfl:j=7:=by omega
  exact ar.mk (by rw[show nS s=⟨(jx jw s.data.toList).toArray⟩from rfl,<-B.out];rfl) z
end
section
open Go
def bD(c:UInt8):Bool:=(decide ((97:Int)<=c.toNat)&&decide ((c.toNat:Int)<=122))||(decide ((65:Int)<=c.toNat)&&decide ((c.toNat:Int)<=90))||(decide ((48:Int)<=c.toNat)&&decide ((c.toNat:Int)<=57))||decide ((127:Int)<c.toNat)
def cr(p:UInt8->Bool)(b:List UInt8):List UInt8->List (List UInt8)
 |[]=>if b.isEmpty then[]else[b]
 |c::l=>if p c then cr p (b++[c]) l else if b.isEmpty then cr p [] l else b::cr p [] l
theorem we(p:UInt8->Bool)(x l:List UInt8)(h:x.all p=true):∀b,cr p b (x++l)=cr p (b++x) l:=by
 induction x with
 |nil=>intro b;simp
 |cons c x q=>
  intro b;simp only[eb,bF]at h;rw[List.cons_append,cr,if_pos h.1,q h.2];simp
theorem NV(p:UInt8->Bool)(x l:List UInt8)(c:UInt8)(h:x.all p=true)(b:x≠[])(hc:p c=false):cr p [] (x++c::l)=x::cr p [] l:=by
 rw[we p x _ h,fe,cr,if_neg (by simp[hc]),if_neg (by simpa using b)]
theorem NW(p:UInt8->Bool)(x:List UInt8)(h:x.all p=true)(b:x≠[]):cr p [] x=[x]:=by
 have:=we p x [] h [];rw[dF,fe]at this;rw[this,cr,if_neg (by simpa using b)]
theorem NX(p:UInt8->Bool)(l:List UInt8)(c:UInt8)(hc:p c=false):cr p [] (c::l)=cr p [] l:=by
 rw[cr,if_neg (by simp[hc])];rfl
theorem Ro(p:UInt8->Bool)(f:UInt8->UInt8)(hf:∀c,p (f c)=p c)(l:List UInt8):∀b,cr p (b.map f) (l.map f)=(cr p b l).map (List.map f):=by
 induction l with
 |nil=>intro b;cases b<;>simp[cr]
 |cons c l s=>
  intro b;simp only[fK,cr,hf]
  split
  ·rw[<-s];simp
  have q:=s [];rw[gs]at q;cases b with
  |nil=>simpa using q
  |cons d b=>simp[q]
end
section
open Go Go.RowKit
theorem zJ(c:UInt8)(w:aJ):bj prog 87 #[.int .u8 (c.toNat:Int)] w fun e s=>e=.returned (.bool (bD c))/\s=w:=by
 have z:=ch c;generalize q:bD c=b;have y:=ae q;clear q;go_enter func87,ntmps87;go_wp2_with fail
 all_goals
  go_ret;refine⟨congrArg (fun x=>Ending.returned (ib x)) ?_,rfl⟩;rw[<-y.out];unfold bD
  first|(simp[*];done)|(rw[bW];simp only[cs,bF,decide_eq_true_eq];omega)
theorem wg(c:UInt8):bD (a_ c)=bD c:=by
 by_cases h:(65:Int)<=(c.toNat:Int)/\(c.toNat:Int)<=90
 ·have e:=uA c h.1 h.2;unfold bD;rw[e,bW];simp only[cs,bF,decide_eq_true_eq];omega
 rw[xi c h]
def eZ(y:List UInt8):ByteArray:=nS ⟨(y.take 12).toArray⟩
def qB(l:List UInt8):List ByteArray:=(cr bD [] l).map eZ
def aD(s:ByteArray):List ByteArray:=qB (bs s).data.toList
def iB(w:aJ)(B:Nat)(v:di)(ws:List ByteArray):Prop:=w.ownsRow B 9 1 v ws.length (ws.map aS)
def TW(w:aJ)(ws:List ByteArray)(e:fy)(w':aJ):Prop:=∃v,e=.returned v/\iB w' w.heap.size v ws/\Gr w w'
theorem lN:(prog.info? 9).map (fun i=>(i.zero,i.size,i.bytes))=some (some (.string ⟨#[]⟩),1,16):=by kernel_rfl
theorem Fc(l:List UInt8)(j m:Nat)(q:j<=m)(s:m<l.length)(h:((l.drop j).take (m-j)).all bD=true)(b:bD l[m]=true):((l.drop j).take (m+1-j)).all bD=true:=by
 rw[show m+1-j=(m-j)+1 from by omega,bt (by simp;omega),cD,h];simp[show j+(m-j)=m from by omega,b]
theorem Rp(l:List UInt8)(j m:Nat)(D:j<=m)(H:m<=l.length)(h:((l.drop j).take (m-j)).all bD=true)(z:∀h:m<l.length,bD l[m]=false):
  qB (l.drop j)=(if j<m then[eZ ((l.drop j).take (m-j))]else[])++qB (l.drop (m+1)):=by
 unfold qB;rcases gw m l.length with b|G
 ·have e:l.drop j=(l.drop j).take (m-j)++l[m]::l.drop (m+1):=by
   rw[<-be b];have:=List.take_append_drop (m-j) (l.drop j);rw[dT,show j+(m-j)=m from by omega]at this;exact this.symm
  split
  ·rename_i B
   conv=>lhs;rw[e]
   rw[NV bD _ _ _ h (by intro s;have:=congrArg eV s;simp at this;omega) (z b)]
   rfl
  have q:m=j:=by omega
  subst q;rw[be b,NX bD _ _ (z b)]
  rfl
 have y:m=l.length:=by omega
 subst y;rw[bc (Nat.le_succ _)];have e:(l.drop j).take (l.length-j)=l.drop j:=by rw[aV (by simp)]
 rw[e]at h⊢
 split
 ·rename_i B
  rw[NW bD _ h (by intro s;have:=congrArg eV s;simp at this;omega)]
  rfl
 rw[bc (by omega)]
 rfl
theorem Rq(t:ByteArray)(j m:Nat)(b:j<=m):t.extract j (min (m:Int) ((j:Int)+12)).toNat=⟨(((t.data.toList.drop j).take (m-j)).take 12).toArray⟩:=by
 refine bE ?_;rw[bC,List.take_take];simp only
 congr 1
 omega
theorem yr(s:ByteArray)(hs:s.size<=1000000)(w:aJ)(he:fP w):bj prog 44 #[.string s] w (TW w (aD s)):=by
 obtain⟨i0,hi,a4,a5,a6⟩:=eh lN;have HE:=ae he;clear he;generalize D:aD s=ws;unfold aD at D;have O:(bs s).size=s.size:=by rw[size_data,size_data];simp[bs]
 have HW:=ae D;have HZ:=ae O;clear D O;go_enter func44,ntmps44;go_wp2_with(go_at_call 86;refine(Lt s (by omega) _).mono ?_;rintro e Y ⟨rfl,a7⟩)
 have c3:(bs s).size<=1000000:=by rw[HZ.out];exact hs
 clear HZ;generalize bs s=t at*;go_loopw [4,3] (fun i v w'=>∃(j:Nat) (us:List ByteArray),j<=t.size+1/\i=.int .i64 j/\us.length<=j/\Gr w w'/\iB w' w.heap.size v us/\us++qB (t.data.toList.drop j)=qB t.data.toList) (fun i _ _=>t.size+1-(intOf i).toNat)
 case atStart=>exact⟨0,[],by omega,rfl,by simp,a7,⟨rfl,.inl ⟨rfl,rfl⟩⟩,rfl⟩
 case round=>
  obtain⟨j,us,hj,rfl,c4,Q,z,q⟩:=hrel;have Z:=ae q;have HO:=ae z;clear q z;by_cases c5:j<t.size
  ·go_wp2_with fail
   go_loop [5] (fun n=>∃m:Nat,j<=m/\m<=t.size/\n=.int .i64 m/\((t.data.toList.drop j).take (m-j)).all bD=true) (fun n=>t.size-(intOf n).toNat)
   case atStart=>exact⟨j,bA _,by omega,rfl,by simp⟩
   case round=>
    obtain⟨m,G,hm,rfl,B⟩:=hrel;have HA:=ae B;clear B;by_cases b:m<t.size/\∃h:m<t.size,bD t[m]=true
    ·obtain⟨b,_,S⟩:=b;have hr:=ch t[m];have I:=ae S;clear S;go_wp2_with(go_at_call 87;refine(zJ t[m] _).mono ?_;rintro e Y ⟨rfl,rfl⟩;rw[I.out])
     refine⟨⟨m+1,by omega,by omega,by go_num,?_⟩,by simp[intOf];omega⟩;exact Fc t.data.toList j m G (by rw[<-size_data];exact b) HA.out (by rw[<-bm t m b];exact I.out)
    have q:=Rp t.data.toList j m G (by rw[<-size_data];exact hm) HA.out (fun h=>by
     have h':m<t.size:=by rw[size_data];exact h
     rw[<-bm t m h',az];exact fun h2=>b ⟨h',h',h2⟩)
    have I:=ae q;have U:∀h:m<t.size,bD t[m]=false:=fun h=>by rw[az];exact fun h2=>b ⟨h,h,h2⟩
    have HF:=ae U;clear q b U;by_cases V:j<m
    ·have J:=Rq t j m G;generalize hy:(t.data.toList.drop j).take (m-j)=y at*;have HX:=ae J;clear J;have HY:=ae hy;clear hy;have a8:(⟨(y.take 12).toArray⟩:ByteArray).size<=4611686018427387904:=by rw[size_data];simp;omega
     go_wp2_with(go_at_call 87;refine(zJ t[m] _).mono ?_;rintro e Y ⟨rfl,rfl⟩;rw[HF.out])
     all_goals
      rw[HX.out];refine(VB _ a8 _ (HE.out.gr Q)).mono ?_;rintro e w2 ⟨rfl,H⟩;have L:=aF HO.out H;have a9:=Q.trans H;clear H;go_wp2_with(at_builtin;refine bK (a0:=w) rfl _ _ 22 rfl 9 i0 (.string ⟨#[]⟩) 1 16 underlying22 hi a4 a5 a6 rfl (by decide) _ us.length (us.map aS) rfl L [_] rfl (by simp;rfl) rfl a9 (by omega) (by omega) ?_;intro v4 w4 M b0)
     all_goals
      refine⟨⟨m+1,us++[eZ y],by omega,by go_num,by rw[ap];simp;omega,b0,?_,?_⟩,by simp[intOf];omega⟩
      ·unfold iB;rw[ap,aX];exact M
      rw[<-Z.out,I.out,if_pos V,List.append_assoc]
    obtain rfl:m=j:=by omega
    go_wp2_with(go_at_call 87;refine(zJ t[m] _).mono ?_;rintro e Y ⟨rfl,rfl⟩;rw[HF.out])
    exact⟨⟨m+1,us,by omega,by go_num,by omega,Q,HO.out,by rw[<-Z.out,I.out,if_neg (fI _)];rfl⟩,by simp[intOf];omega⟩
  go_wp2_with fail
  go_ret;refine⟨_,rfl,?_,Q⟩;have J:=Z.out;rw[bc (by rw[<-size_data];omega)]at J;have b1:us=ws:=by rw[<-HW.out,<-J];simp[qB,cr]
  rw[<-b1];exact HO.out
theorem Ji(p:UInt8->Bool)(l:List UInt8):∀b,(cr p b l).length<=l.length+1:=by
 induction l with
 |nil=>intro b;rw[cr];split<;>simp
 |cons c l q=>
  intro b;rw[cr]
  split
  ·exact g4 (q _) (by simp)
  split
  ·exact g4 (q _) (by simp)
  simp only[eA];have:=q [];omega
theorem sG(s:ByteArray):aD s=(cr bD [] s.data.toList).map (fun x=>eZ (x.map a_)):=by
 unfold aD qB bs;have:=Ro bD a_ wg s.data.toList [];rw[gs]at this;simp only;rw[this,List.map_map]
 rfl
theorem jd(x:ByteArray):(bs x).size=x.size:=by rw[size_data,size_data];simp[bs]
theorem AW(x:ByteArray)(h:x.size<=12):nS (bs x)=eZ (x.data.toList.map a_):=by
 unfold eZ;rw[aV (by rw[dJ,<-size_data];exact h)]
 rfl
theorem DC(x:ByteArray)(_h:¬x.size<=12):nS ((bs x).extract 0 12)=eZ (x.data.toList.map a_):=by
 unfold eZ
 congr 1
 refine bE ?_;rw[bC];simp[bs]
theorem sH(s:ByteArray)(hs:s.size<=1000000)(w:aJ):bj prog 50 #[.string s] w (TW w (aD s)):=by
 obtain⟨i0,hi,S,U,V⟩:=eh lN;have a5:=sG s;generalize aD s=ws at*;have HW:=ae a5;clear a5;go_enter func50,ntmps50;go_wp2_with fail
 go_loopw [5,3,4] (fun i v r w'=>∃(j:Nat) (us:List ByteArray) (x:ByteArray),j<=s.size+1/\i=.int .i64 j/\r=.string x/\us.length<=j/\x.size<=j/\Gr w w'/\iB w' w.heap.size v us/\(j=s.size+1->us=ws)/\
   (j<=s.size->us++(cr bD x.data.toList (s.data.toList.drop j)).map (fun x=>eZ (x.map a_))=ws)) (fun i _ _ _=>s.size+1-(intOf i).toNat)
 case atStart=>exact⟨0,[],⟨#[]⟩,by omega,rfl,rfl,bu _,bu _,Gr.refl _,⟨rfl,.inl ⟨rfl,rfl⟩⟩,by omega,fun _=>HW.out.symm⟩
 case round=>
  obtain⟨j,us,x,hj,rfl,rfl,c0,c1,M,Z,a1,a6⟩:=hrel;have Q:=ae a6;have O:=ae Z;have HN:=ae a1;clear a6 Z a1;by_cases a2:j<s.size
  ·have hr:=ch s[j];go_upto_region 9 with(fail)
   go_cut [6] (fun s6 wx=>s6=.bool (bD s[j])/\wx=wr)
   case first=>
    clear Q O HN M;go_wp2_with fail
    all_goals
     go_meet
     refine⟨congrArg ib ?_,rfl⟩;unfold bD
     first|(simp[*];done)|(rw[bW];simp only[cs,bF,decide_eq_true_eq];omega)
   case rest=>
    obtain⟨rfl,rfl⟩:=hcut;have hl:j<s.data.toList.length:=by rw[<-size_data];exact a2
    cases L:bD s[j]
    ·have G:bD s.data.toList[j]=false:=by rw[<-bm s j a2];exact L
     have HL:=ae L;clear L;cases z:x.data.toList.isEmpty
     ·have hb:(!x.toList.isEmpty)=true:=by rw[aQ,z];rfl
      have HR:Hid ((cr bD x.data.toList (s.data.toList.drop j)).map (fun x=>eZ (x.map a_))=eZ (x.data.toList.map a_)::(cr bD [] (s.data.toList.drop (j+1))).map (fun x=>eZ (x.map a_))):=ae (by
       rw[be hl,cr,if_neg (by rw[G];decide),if_neg (by simp[z]),fK])
      have SZ:=ae (jd x);have b4:=jd x;clear G z;by_cases H:x.size<=12
      ·have b:=AW x H;generalize eZ (x.data.toList.map a_)=wd at*;have Y:=ae b;clear b;go_wp2_with(first|(go_at_call 101;refine(py x (by omega) _).mono ?_;rintro e w1 ⟨rfl,B⟩)|(go_at_call 102;refine(vw _ (by rw[SZ.out];omega) _).mono ?_;rintro e w2 ⟨rfl,D⟩;rw[Y.out];have I:=(M.trans B).trans D;have q:=aF O.out (B.trans D))|(at_builtin;refine bK (a0:=w) rfl _ _ 22 rfl 9 i0 (.string ⟨#[]⟩) 1 16 underlying22 hi S U V rfl (by decide) _ us.length (us.map aS) rfl q [_] rfl (by simp;rfl) rfl I (by omega) (by omega) ?_;intro v4 w4 y J))
       exact⟨⟨j+1,us++[wd],⟨#[]⟩,by omega,by go_num,rfl,by rw[ap];simp;omega,bu _,J,by unfold iB;rw[ap,aX];exact y,fun h=>absurd h (by omega),fun _=>by rw[<-Q.out (by omega),HR.out];simp⟩,by simp[intOf];omega⟩
      have b:=DC x H;generalize eZ (x.data.toList.map a_)=wd at*;have Y:=ae b;clear b;go_wp2_with(first|(go_at_call 101;refine(py x (by omega) _).mono ?_;rintro e w1 ⟨rfl,B⟩)|(go_at_call 102;refine(vw _ (by rw[bT];omega) _).mono ?_;rintro e w2 ⟨rfl,D⟩;rw[Y.out];have I:=(M.trans B).trans D;have q:=aF O.out (B.trans D))|(at_builtin;refine bK (a0:=w) rfl _ _ 22 rfl 9 i0 (.string ⟨#[]⟩) 1 16 underlying22 hi S U V rfl (by decide) _ us.length (us.map aS) rfl q [_] rfl (by simp;rfl) rfl I (by omega) (by omega) ?_;intro v4 w4 y J))
      exact⟨⟨j+1,us++[wd],⟨#[]⟩,by omega,by go_num,rfl,by rw[ap];simp;omega,bu _,J,by unfold iB;rw[ap,aX];exact y,fun h=>absurd h (by omega),fun _=>by rw[<-Q.out (by omega),HR.out];simp⟩,by simp[intOf];omega⟩
     have hb:(!x.toList.isEmpty)=false:=by rw[aQ,z];rfl
     have HR:Hid ((cr bD x.data.toList (s.data.toList.drop j)).map (fun x=>eZ (x.map a_))=(cr bD [] (s.data.toList.drop (j+1))).map (fun x=>eZ (x.map a_))):=ae (by
      rw[be hl,cr,if_neg (by rw[G];decide),if_pos z])
     clear G z;go_wp2_with fail
     exact⟨⟨j+1,us,⟨#[]⟩,by omega,by go_num,rfl,by omega,bu _,M,O.out,fun h=>absurd h (by omega),fun _=>by rw[<-Q.out (by omega),HR.out]⟩,by simp[intOf];omega⟩
    have G:bD s.data.toList[j]=true:=by rw[<-bm s j a2];exact L
    have HR:Hid ((cr bD x.data.toList (s.data.toList.drop j)).map (fun x=>eZ (x.map a_))=(cr bD (x++s.extract j (j+1)).data.toList (s.data.toList.drop (j+1))).map (fun x=>eZ (x.map a_))):=ae (by
     rw[zI,bC,be hl,cr,if_pos G];simp)
    have HL:=ae L;have c2:(s.extract j (j+1)).size<=1:=by rw[bT];omega
    clear L G;go_wp2_with fail
    exact⟨⟨j+1,us,_,by omega,by go_num,rfl,by omega,by rw[g8];omega,M,O.out,fun h=>absurd h (by omega),fun _=>by rw[<-Q.out (by omega),HR.out]⟩,by simp[intOf];omega⟩
  by_cases a3:j<=s.size
  ·cases z:x.data.toList.isEmpty
   ·have hb:(!x.toList.isEmpty)=true:=by rw[aQ,z];rfl
    have HR:Hid ((cr bD x.data.toList (s.data.toList.drop j)).map (fun x=>eZ (x.map a_))=[eZ (x.data.toList.map a_)]):=ae (by
     rw[bc (by rw[<-size_data];omega),cr,if_neg (by simp[z])];rfl)
    have SZ:=ae (jd x);have b4:=jd x;clear z;by_cases H:x.size<=12
    ·have b:=AW x H;generalize eZ (x.data.toList.map a_)=wd at*;have Y:=ae b;clear b;go_wp2_with(first|(go_at_call 101;refine(py x (by omega) _).mono ?_;rintro e w1 ⟨rfl,B⟩)|(go_at_call 102;refine(vw _ (by rw[SZ.out];omega) _).mono ?_;rintro e w2 ⟨rfl,D⟩;rw[Y.out];have I:=(M.trans B).trans D;have q:=aF O.out (B.trans D))|(at_builtin;refine bK (a0:=w) rfl _ _ 22 rfl 9 i0 (.string ⟨#[]⟩) 1 16 underlying22 hi S U V rfl (by decide) _ us.length (us.map aS) rfl q [_] rfl (by simp;rfl) rfl I (by omega) (by omega) ?_;intro v4 w4 y J))
     exact⟨⟨j+1,us++[wd],⟨#[]⟩,by omega,by go_num,rfl,by rw[ap];simp;omega,bu _,J,by unfold iB;rw[ap,aX];exact y,fun _=>by rw[<-Q.out a3,HR.out],fun h=>absurd h (by omega)⟩,by simp[intOf];omega⟩
    have b:=DC x H;generalize eZ (x.data.toList.map a_)=wd at*;have Y:=ae b;clear b;go_wp2_with(first|(go_at_call 101;refine(py x (by omega) _).mono ?_;rintro e w1 ⟨rfl,B⟩)|(go_at_call 102;refine(vw _ (by rw[bT];omega) _).mono ?_;rintro e w2 ⟨rfl,D⟩;rw[Y.out];have I:=(M.trans B).trans D;have q:=aF O.out (B.trans D))|(at_builtin;refine bK (a0:=w) rfl _ _ 22 rfl 9 i0 (.string ⟨#[]⟩) 1 16 underlying22 hi S U V rfl (by decide) _ us.length (us.map aS) rfl q [_] rfl (by simp;rfl) rfl I (by omega) (by omega) ?_;intro v4 w4 y J))
    exact⟨⟨j+1,us++[wd],⟨#[]⟩,by omega,by go_num,rfl,by rw[ap];simp;omega,bu _,J,by unfold iB;rw[ap,aX];exact y,fun _=>by rw[<-Q.out a3,HR.out],fun h=>absurd h (by omega)⟩,by simp[intOf];omega⟩
   have hb:(!x.toList.isEmpty)=false:=by rw[aQ,z];rfl
   have HR:Hid ((cr bD x.data.toList (s.data.toList.drop j)).map (fun x=>eZ (x.map a_))=[]):=ae (by
    rw[bc (by rw[<-size_data];omega),cr,if_pos z];rfl)
   clear z;go_wp2_with fail
   exact⟨⟨j+1,us,⟨#[]⟩,by omega,by go_num,rfl,by omega,bu _,M,O.out,fun _=>by rw[<-Q.out a3,HR.out,dF],fun h=>absurd h (by omega)⟩,by simp[intOf];omega⟩
  go_wp2_with fail
  go_ret;exact⟨_,rfl,by rw[<-HN.out (by omega)];exact O.out,M⟩
def iE(w:aJ)(b q:Nat)(ws:List ByteArray):Prop:=∀i (h:i<ws.length),w.cell? ⟨b,q+i,none⟩=some (.string ws[i])
theorem iE.gr{w w':aJ}{b q:Nat}{ws:List ByteArray}(h:iE w b q ws)(g:Gr w w'):iE w' b q ws:=fun i hi=>g.keeps (h i hi)
theorem fk{w:aJ}{B:Nat}{v:di}{ws:List ByteArray}(h:iB w B v ws):∃(s:Option Addr) (c b:Nat),v=.slice s ws.length c/\(0<ws.length->s=some ⟨b,0,none⟩)/\iE w b 0 ws:=by
 obtain⟨I,z⟩:=h;rcases z with⟨rfl,D⟩|⟨g,cap,q,rfl,_,G,hn,_,y,H⟩
 ·exact⟨none,0,0,by rw[D],fun h=>by omega,fun i hi=>by omega⟩
 refine⟨_,_,g,rfl,fun _=>rfl,fun i hi=>?_⟩;have hc:q.toList[i]?=some (.string ws[i]):=by
  have e:=congrArg (fun l:List di=>l[i]?) H;simp only[Nat.mul_one]at e;rw[cK,if_pos hi,el,bz hi]at e;exact e
 unfold World.cell?;simp only[G,Nat.zero_add];rw[<-dS];exact hc
end
section
open Go
theorem Fe(c:UInt8):a_ (a_ c)=a_ c:=by
 have h:∀n:Fin 256,a_ (a_ (g9 n.val))=a_ (g9 n.val):=by decide+kernel
 have:=h ⟨c.toNat,c.toNat_lt⟩;simpa using this
def DD(c:UInt8):Bool:=bD c&&(a_ c==c)
def Jj(l:List UInt8):Prop:=l≠[]/\l.length<=12/\l.all DD=true
theorem vx(p:UInt8->Bool):∀(l q:List UInt8),q.all p=true->∀x∈cr p q l,x≠[]/\x.all p=true
 |[],q,h,x,b=>by
  rw[cr]at b
  split at b
  ·simp at b
  simp only[List.mem_singleton]at b;subst b;exact⟨by rename_i h;simpa using h,h⟩
 |c::l,q,h,x,b=>by
  rw[cr]at b
  split at b
  ·rename_i hc
   exact vx p l _ (by simp[cD,h,hc]) x b
  split at b
  ·exact vx p l [] rfl x b
  rename_i hn
  rcases dg.1 b with rfl|b
  ·exact⟨by simpa using hn,h⟩
  exact vx p l [] rfl x b
theorem Jk(c:UInt8)(h:bD c=true):DD (a_ c)=true:=by
 unfold DD;rw[wg,h,Fe];simp
theorem NY:jw.all (fun e=>e.2.all DD&&decide (e.2.length<=e.1.length))=true:=by decide+kernel
theorem AX:∀(E:List (List UInt8×List UInt8)) (l:List UInt8),E.all (fun e=>e.2.all DD&&decide (e.2.length<=e.1.length))=true->Jj l->Jj (jx E l)
 |[],l,_,h=>h
 |( e,r)::E,l,b,h=>by
   simp only[eb,bF,decide_eq_true_eq]at b;unfold jx
   split
   · rename_i hs
     split
     ·exact h
     rename_i q
     refine⟨?_,?_,?_⟩
     ·intro hn;have:=congrArg eV hn;simp only[ap,bP,List.length_nil]at this;omega
     ·have s:=(bZ.1 hs).length_le;have y:=h.2.1;have z:=b.1.2;simp only[ap,bP];omega
     rw[cD,b.1.1];simp only[Bool.and_true,bQ];intro c hc;exact bQ.1 h.2.2 c (dU hc)
   exact AX E l (by simpa using b.2) h
theorem yt(s:ByteArray):∀w∈aD s,Jj w.data.toList:=by
 intro w hw;rw[sG]at hw;obtain⟨x,b,rfl⟩:=g5.1 hw;obtain⟨q,y⟩:=vx bD _ [] rfl x b;have e:(eZ (x.map a_)).data.toList=jx jw ((x.map a_).take 12):=by unfold eZ nS;simp
 rw[e];refine AX _ _ NY ⟨?_,?_,?_⟩
 ·cases x with
  |nil=>exact absurd rfl q
  |cons c x=>simp
 ·simp only[bP];omega
 rw[bQ];intro c hc;obtain⟨d,hd,rfl⟩:=g5.1 (dU hc);exact Jk d (bQ.1 y d hd)
end
section
open Go Go.RowKit
def cu(c:UInt8):Bool:=c==32||c==40||c==41||c==34||c==42
def je(l:List UInt8):ByteArray:=⟨l.toArray⟩
theorem gu(l:List UInt8):(je l).data.toList=l:=by simp[je]
def c_:Nat->List UInt8->Option (List ByteArray)
 |_,[]=>some []
 |0,_::_=>none
 |n+1,c::r=>
  if c=32 then c_ n r
  else if c=34 then(if r.all (·!=34)then none else(c_ n (r.drop ((r.takeWhile (·!=34)).length+1))).map (je (c::r.takeWhile (·!=34))::·))
  else if cu c then(c_ n r).map (je [c]::·)
  else(c_ n ((c::r).dropWhile (fun x=>!cu x))).map (je ((c::r).takeWhile (fun x=>!cu x))::·)
def eR(c:UInt8):Bool:=c==40||c==41||c==34||c==42
def rH(p:ByteArray):Prop:=∃c r,p.data.toList=c::r/\(eR c=true\/(c::r).all (fun x=>!cu x)=true)
theorem all_takeWhile{b:Type}(p:b->Bool)(l:List b):(l.takeWhile p).all p=true:=by
 induction l with
 |nil=>rfl
 |cons a t q=>simp only[b_];split<;>simp_all
theorem PM:∀(n:Nat) (l:List UInt8) (s:List ByteArray),c_ n l=some s->∀p∈s,rH p:=by
 intro n
 induction n with
 |zero=>
  intro l s h;cases l with
  |nil=>simp only[c_,en]at h;subst h;simp
  |cons c r=>simp[c_]at h
 |succ n y=>
  intro l s h;cases l with
  |nil=>simp only[c_,en]at h;subst h;simp
  |cons c r=>
   simp only[c_]at h
   split at h
   ·exact y _ _ h
   rename_i B
   split at h
   ·rename_i z
    split at h
    ·simp at h
    simp only[cj]at h;obtain⟨D,q,rfl⟩:=h;intro p b;rcases dg.1 b with rfl|b
    ·exact⟨c,_,gu _,.inl (by subst z;decide)⟩
    exact y _ _ q p b
   rename_i z
   split at h
   ·rename_i hs
    simp only[cj]at h;obtain⟨D,q,rfl⟩:=h;intro p b;rcases dg.1 b with rfl|b
    ·refine⟨c,_,gu _,.inl ?_⟩;unfold cu at hs;unfold eR;simp only[cs,beq_iff_eq]at hs⊢;rcases hs with(((h|h)|h)|h)|h
     ·exact absurd h B
     ·exact .inl (.inl (.inl h))
     ·exact .inl (.inl (.inr h))
     ·exact .inl (.inr h)
     exact .inr h
    exact y _ _ q p b
   rename_i hs
   simp only[cj]at h;obtain⟨D,q,rfl⟩:=h;intro p b;rcases dg.1 b with rfl|b
   ·have e:(c::r).takeWhile (fun x=>!cu x)=c::r.takeWhile (fun x=>!cu x):=by simp[hs]
    refine⟨c,r.takeWhile (fun x=>!cu x),by rw[gu,e],.inr ?_⟩;rw[<-e];exact all_takeWhile _ _
   exact y _ _ q p b
theorem DQ{b:Type}(p:b->Bool)(l:List b):l.take (l.takeWhile p).length=l.takeWhile p:=by
 induction l with
 |nil=>rfl
 |cons a t q=>simp only[b_];split<;>simp[q]
theorem LM{b:Type}(p:b->Bool)(l:List b):l.drop (l.takeWhile p).length=l.dropWhile p:=by
 induction l with
 |nil=>rfl
 |cons a t q=>simp only[b_,List.dropWhile_cons];split<;>simp[q]
theorem uK{b:Type}(p:b->Bool)(l:List b):l.all p=true↔l.takeWhile p=l:=by
 induction l with
 |nil=>simp
 |cons a t q=>cases h:p a<;>simp[h,<-q]
theorem Jw{s:Type}(p:s->Bool)(l:List s)(h:l.all p=false):∃q:(l.takeWhile p).length<l.length,p (l[(l.takeWhile p).length]'q)=false:=by
 induction l with
 |nil=>simp at h
 |cons a t y=>
  cases b:p a
  ·exact⟨by simp[b],by simp[b]⟩
  have z:t.all p=false:=by simpa[b]using h
  obtain⟨q,hv⟩:=y z;exact⟨by simp[b];exact q,by simp[b,hv]⟩
def kC(l:List UInt8):Int:=if l.all (fun x=>!cu x)=true then-1 else((l.takeWhile (fun x=>!cu x)).length:Int)
def BY:List UInt8:=[32,40,41,34,42]
theorem DS(c:UInt8):BY.contains c=cu c:=by
 unfold BY cu;simp only[ej,es,fM,fS]
theorem GY(l:List UInt8):iP l BY (l.takeWhile (fun x=>!cu x)).length:=by
 intro j b q s;rw[DS];have y:(l.takeWhile (fun x=>!cu x))[j]?=some b:=by
  rw[<-DQ,cK,if_pos q];exact s
 have z:=dZ y;have B:=bQ.1 (all_takeWhile (fun x=>!cu x) l) b z;simpa using B
theorem LN(l:List UInt8):dD l BY=kC l:=by
 unfold kC
 split
 ·rename_i h
  have b:=GY l;rw[(uK _ l).1 h]at b;exact ew b
 rename_i h
 obtain⟨q,hv⟩:=Jw (fun x=>!cu x) l (by simpa using h);exact eB (GY l) (bz q) (by rw[DS];simpa using hv)
theorem Uf{c:UInt8}{r:List UInt8}(n:Nat)(h:(c::r).all (fun x=>!cu x)=true):c_ (n+1) (c::r)=some [je (c::r)]:=by
 have hc:cu c=false:=by simpa using bQ.1 h c ek
 have b:¬c=32:=fun e=>by subst e;revert hc;decide
 have q:¬c=34:=fun e=>by subst e;revert hc;decide
 have s:=(uK _ _).1 h;have hd:(c::r).dropWhile (fun x=>!cu x)=[]:=by
  have:=List.takeWhile_append_dropWhile (p:=fun x=>!cu x) (l:=c::r);rw[s]at this;simpa using this
 simp only[c_,if_neg b,if_neg q,hc,cO,if_false,s,hd];cases n<;>rfl
theorem GZ{c:UInt8}{r:List UInt8}(n:Nat)(hc:cu c=false):c_ (n+1) (c::r)=(c_ n ((c::r).dropWhile (fun x=>!cu x))).map (je ((c::r).takeWhile (fun x=>!cu x))::·):=by
 have b:¬c=32:=fun e=>by subst e;revert hc;decide
 have q:¬c=34:=fun e=>by subst e;revert hc;decide
 simp only[c_,if_neg b,if_neg q,hc,cO,if_false]
theorem DT(n:Nat)(r:List UInt8):c_ (n+1) (32::r)=c_ n r:=by simp[c_]
theorem G7{c:UInt8}(n:Nat)(r:List UInt8)(h:cu c=true)(b:¬c=32)(q:¬c=34):c_ (n+1) (c::r)=(c_ n r).map (je [c]::·):=by
 simp only[c_,if_neg b,if_neg q,h,if_true]
theorem G9(n:Nat)(r:List UInt8)(h:r.all (·!=34)=true):c_ (n+1) (34::r)=none:=by
 have b:¬(34:UInt8)=32:=by decide
 simp only[c_,if_neg b,if_true,h]
theorem DU(n:Nat)(r:List UInt8)(h:r.all (·!=34)=false):c_ (n+1) (34::r)=(c_ n (r.drop ((r.takeWhile (·!=34)).length+1))).map (je (34::r.takeWhile (·!=34))::·):=by
 have b:¬(34:UInt8)=32:=by decide
 simp only[c_,if_neg b,if_true,h,cO,if_false]
theorem Fl(l:List UInt8)(c:UInt8):bh l c=if l.all (·!=c)=true then-1 else((l.takeWhile (·!=c)).length:Int):=by
 induction l with
 |nil=>rfl
 |cons a t y=>
  unfold bh;cases s:(a==c)
  ·have b:(a !=c)=true:=by simp[bne,s]
   rw[y];cases q:t.all (·!=c)
   ·have z:(((t.takeWhile (·!=c)).length:Int)==-1)=false:=by
     rw[az];intro h;have:=beq_iff_eq.1 h;omega
    simp[q,b,z]
   simp[q,b]
  have b:(a !=c)=false:=by simp[bne,s]
  simp[b]
inductive Qy
 |leaf (kind:Int) (ws:List ByteArray) (bg:Int)
 |node (kind:Int) (l r:Qy)
inductive Rd
 |ok (q:Qy) (l:List ByteArray)
 |bad (n:Int)
def aW(l:List ByteArray):ByteArray:=l.headD ⟨#[]⟩
def jP:ByteArray:=⟨#[40]⟩
def lT:ByteArray:=⟨#[41]⟩
def jQ:ByteArray:=⟨#[42]⟩
def iC:ByteArray:=⟨#[65,78,68]⟩
def Fm:ByteArray:=⟨#[79,82]⟩
def f_:ByteArray:=⟨#[78,79,84]⟩
def pD:ByteArray:=⟨#[78,69,65,82]⟩
def gG:ByteArray:=⟨#[]⟩
def gj(c:UInt8):Bool:=(97<=c&&c<=122)||(48<=c&&c<=57)
def dV(s:ByteArray):UInt8:=s.data.toList.headD 0
def yA(y:List ByteArray->Rd)(l:List ByteArray):Rd:=
 let s:=aW l
 if s=gG\/s=lT\/s=jQ\/s=iC\/s=Fm\/s=f_\/s=pD then .bad 3
 else if s=jP then
  match y l.tail with
  | .bad n=>.bad n
  | .ok q r=>if aW r=lT then .ok q r.tail else .bad 3
 else if dV s=34 then(if aD (je s.data.toList.tail)=[]then .bad 3 else .ok (.leaf 1 (aD (je s.data.toList.tail)) 0) l.tail)
 else if aW l.tail=jQ then
  (if(bs s).data.toList.all gj=true/\s.size<=12 then .ok (.leaf 2 [bs s] 0) l.tail.tail else .bad 3)
 else
  match aD s with
  |[a]=>
   if aW l.tail=pD then
    (if aW l.tail.tail=gG\/eR (dV (aW l.tail.tail))=true then .bad 3
     else match aD (aW l.tail.tail)with
      |[b]=>.ok (.leaf 3 [a,b] 3) l.tail.tail.tail
      |_=>.bad 3)
   else .ok (.leaf 1 [a] 0) l.tail
  |_=>.bad 3
def xp(s:ByteArray):Prop:=s=gG\/s=lT\/s=Fm
instance (s:ByteArray):Decidable (xp s):=by unfold xp;infer_instance
def nV(b:List ByteArray->Rd):Nat->Qy->List ByteArray->Rd
 |n,q,l=>
  if xp (aW l)then .ok q l
  else match n with
   |0=>.bad 0
   |n+1=>
    match b (if aW l=f_\/aW l=iC then l.tail else l)with
    | .bad m=>.bad m
    | .ok s r=>nV b n (.node (if aW l=f_ then 6 else 4) q s) r
def ti(b:List ByteArray->Rd)(l:List ByteArray):Rd:=
 match b l with
 | .bad m=>.bad m
 | .ok q r=>nV b r.length q r
def mc(b:List ByteArray->Rd):Nat->Qy->List ByteArray->Rd
 |n,q,l=>
  if aW l=Fm then
   match n with
   |0=>.bad 0
   |n+1=>
    match b l.tail with
    | .bad m=>.bad m
    | .ok s r=>mc b n (.node 5 q s) r
  else .ok q l
def tj(b:List ByteArray->Rd)(l:List ByteArray):Rd:=
 match b l with
 | .bad m=>.bad m
 | .ok q r=>mc b r.length q r
def Bi:Nat->List ByteArray->Rd
 |0,_=>.bad 4
 |k+1,l=>yA (fun l=>tj (ti (Bi k)) l) l
def G_(k:Nat)(l:List ByteArray):Rd:=ti (Bi k) l
def uL(k:Nat)(l:List ByteArray):Rd:=tj (G_ k) l
def wj(s:ByteArray):Option Qy×Int:=
 match c_ s.size s.data.toList with
 |none=>(none,3)
 |some l=>
  match uL 13 l with
  | .bad n=>(none,n)
  | .ok q r=>if r=[]then(some q,0)else(none,3)
def fG(r l:List ByteArray):Prop:=r<:+l/\r.length<l.length
theorem eS{l:List ByteArray}(h:aW l≠gG):∃a t,l=a::t/\aW l=a:=by
 cases l with
 |nil=>exact absurd rfl h
 |cons a t=>exact⟨a,t,rfl,rfl⟩
theorem Of{l:List ByteArray}(h:aW l≠gG):fG l.tail l:=by
 obtain⟨a,t,rfl,_⟩:=eS h;exact⟨List.suffix_cons a t,by simp⟩
theorem fG.trans{a b c:List ByteArray}(h:fG a b)(k:fG b c):fG a c:=⟨h.1.trans k.1,by have:=h.2;have:=k.2;omega⟩
theorem fG.tail{r l:List ByteArray}(h:fG r l):fG r.tail l:=⟨(dr r).trans h.1,by have:=h.2;have:r.tail.length<=r.length:=(by simp);omega⟩
theorem RF(b:List ByteArray->Rd)(ha:∀l q r,b l=.ok q r->fG r l)(l:List ByteArray)(q:Qy)(r:List ByteArray)(h:yA b l=.ok q r):fG r l:=by
 unfold yA at h
 dsimp only at h
 split at h
 ·cases h
 rename_i y
 have hn:aW l≠gG:=fun e=>y (.inl e);have s:=Of hn
 split at h
 ·split at h
  ·cases h
  rename_i B r1 z
  split at h
  ·cases h;exact((ha _ _ _ z).trans s).tail
  cases h
 split at h
 ·split at h
  ·cases h
  cases h;exact s
 split at h
 ·split at h
  ·cases h;exact s.tail
  cases h
 split at h
 ·split at h
  ·split at h
   ·cases h
   split at h
   ·cases h;exact s.tail.tail
   cases h
  cases h;exact s
 cases h
theorem Og(b:List ByteArray->Rd)(B:∀l q r,b l=.ok q r->fG r l):∀(n:Nat) (q:Qy) (l:List ByteArray) (y:Qy) (r:List ByteArray),nV b n q l=.ok y r->r=l\/fG r l:=by
 intro n
 induction n with
 |zero=>
  intro q l y r h;unfold nV at h
  split at h
  ·cases h;exact .inl rfl
  cases h
 |succ n D=>
  intro q l y r h;unfold nV at h
  split at h
  ·cases h;exact .inl rfl
  dsimp only at h
  split at h
  ·cases h
  rename_i I r1 G
  have s:=B _ _ _ G;have z:fG r1 l:=by
   split at s
   ·exact⟨s.1.trans (dr l),by have:=s.2;have:l.tail.length<=l.length:=(by simp);omega⟩
   exact s
  rcases D _ _ _ _ h with rfl|H
  ·exact .inr z
  exact .inr (H.trans z)
theorem Ha(b:List ByteArray->Rd)(s:∀l q r,b l=.ok q r->fG r l)(l:List ByteArray)(q:Qy)(r:List ByteArray)(h:ti b l=.ok q r):fG r l:=by
 unfold ti at h
 split at h
 ·cases h
 rename_i B r1 y
 rcases Og b s _ _ _ _ _ h with rfl|z
 ·exact s _ _ _ y
 exact z.trans (s _ _ _ y)
theorem Oh(b:List ByteArray->Rd)(B:∀l q r,b l=.ok q r->fG r l):∀(n:Nat) (q:Qy) (l:List ByteArray) (s:Qy) (r:List ByteArray),mc b n q l=.ok s r->r=l\/fG r l:=by
 intro n
 induction n with
 |zero=>
  intro q l s r h;unfold mc at h
  split at h
  ·cases h
  cases h;exact .inl rfl
 |succ n D=>
  intro q l s r h;unfold mc at h
  split at h
  ·dsimp only at h
   split at h
   ·cases h
   rename_i I r1 G
   have y:=B _ _ _ G;have z:fG r1 l:=⟨y.1.trans (dr l),by have:=y.2;have:l.tail.length<=l.length:=(by simp);omega⟩;rcases D _ _ _ _ h with rfl|H
   ·exact .inr z
   exact .inr (H.trans z)
  cases h;exact .inl rfl
theorem Hb(b:List ByteArray->Rd)(s:∀l q r,b l=.ok q r->fG r l)(l:List ByteArray)(q:Qy)(r:List ByteArray)(h:tj b l=.ok q r):fG r l:=by
 unfold tj at h
 split at h
 ·cases h
 rename_i B r1 y
 rcases Oh b s _ _ _ _ _ h with rfl|z
 ·exact s _ _ _ y
 exact z.trans (s _ _ _ y)
theorem kV:∀(k:Nat) (l:List ByteArray) (q:Qy) (r:List ByteArray),Bi k l=.ok q r->fG r l:=by
 intro k
 induction k with
 |zero=>intro l q r h;cases h
 |succ k b=>exact fun l q r h=>RF _ (fun l q r h=>Hb _ (Ha _ b) l q r h) l q r h
theorem kW(k:Nat):∀(l:List ByteArray) (q:Qy) (r:List ByteArray),G_ k l=.ok q r->fG r l:=Ha _ (kV k)
theorem xq(k:Nat):∀(l:List ByteArray) (q:Qy) (r:List ByteArray),uL k l=.ok q r->fG r l:=Hb _ (kW k)
theorem VU(l:List UInt8)(c:UInt8)(h:∀b∈l,b≠c):bh l c=-1:=by
 induction l with
 |nil=>rfl
 |cons a t q=>
  have s:=q (fun b y=>h b (List.mem_cons_of_mem _ y));have z:(a==c)=false:=by simpa using h a (ek)
  simp[bh,s,z]
theorem zR(s:ByteArray)(h4:4<=s.size/\s.size<=8)(ha:∀b∈s.data.toList,b.toNat<128)(r:Int)(hr:128<=r/\r<=2147483647)(w:aJ):
  bj prog 131 #[.string s,.int .i32 r] w (ar w (.int .i64 (-1))):=by
 have B:=ae ha;clear ha;have g1:decide (r<128)=false:=by simp;omega
 have g0:decide ((0:Int)<=r)=true:=by simp;omega
 by_cases V:r=65533
 ·subst V;go_enter ik,hI;go_wp2_with fail
  go_loopg [5,6] s.size (fun g _ _ wx=>∃i:Nat,i+g=s.size/\wx=w.iter s i)
  case atStart=>exact⟨0,by omega,rfl⟩
  case round=>
   obtain⟨i,a8,rfl⟩:=hrel;cases gk with
   |zero=>
    obtain rfl:i=s.size:=by omega
    have H:=run_next_end (P:=prog) w s s.size;go_wp2_with fail
    go_ret;exact ar.mk rfl ((Gr.refl w).alloc _)
   |succ g=>
    have hi:i<s.size:=by omega
    have D:=B.out s[i] (by rw[bm s i hi];exact eH _);have H:=fun ty=>run_next_ascii (P:=prog) w s i ty hi D;have I:(((s[i].toNat:Nat):Int)==65533)=false:=by rw[az];intro h;have:=beq_iff_eq.1 h;omega
    generalize s[i].toNat=x at*;go_wp2_with fail
    go_roundg g
    case measure=>omega
    case rel=>exact⟨i+1,by omega,rfl⟩
 have I:(r==65533)=false:=by simp;exact V
 have J:Utf8.valid r=fT r:=validRune_eq r;cases hv:fT r
 ·go_enter ik,hI;go_wp2_with(go_at_call 182;refine(Tryz.utf8_ValidRune r _).mono ?_;rintro e w1 ⟨rfl,hw⟩;rw[hw,hv])
  go_ret;exact ar.mk rfl (Gr.refl _)
 obtain⟨e1,e2,G⟩:=encode_facts r (by rw[J];exact hv) hr.1;generalize L:Utf8.encode r=q at*;obtain⟨m,D⟩:∃m,q.size=m+1:=⟨q.size-1,by omega⟩;have M:m<s.size:=by omega
 have O:m<q.size:=by omega
 have e4:128<=q[m].toNat:=by
  have:=G (by omega);simpa[D]using this
 have e5:s[m].toNat<128:=B.out s[m] (by rw[bm s m M];exact eH _);have Y:(((s[m].toNat:Nat):Int)==((q[m].toNat:Nat):Int))=false:=by rw[az];intro h;have:=beq_iff_eq.1 h;omega
 have Q:bh (s.extract (m+1) s.size).data.toList q[m]=-1:=VU _ _ fun b hb hc=>by
  have h1:=B.out b (mem_extract hb);rw[hc]at h1;omega
 have HE:=ae G;have a9:∀W,(bM 9 (.string q) (.int .i64 m)).run prog W=.ok (.int .u8 (q[m].toNat:Int)) W:=fun W=>by simp[go_sem,O]
 have b0:(m:Int)+1<=(s.size:Int):=by omega
 have b1:¬(s.size:Int)<(m:Int)+1:=by omega
 clear G e4 e5;have Z:∀W,(convert 21 9 (.int .i32 r)).run prog W=.ok (.string q) W:=fun W=>by
  rw[<-L];exact run_convert_int_string W _ _ .i32 r (by kernel_rfl) (by kernel_rfl)
 go_enter ik,hI;go_wp2_with(go_at_call 182;refine(Tryz.utf8_ValidRune r _).mono ?_;rintro e w1 ⟨rfl,hw⟩;rw[hw,hv])
 go_step3
 go_wp2_with fail
 refine wp_loop_rounds 1 ?_;rw[rounds_succ];go_wp2_with fail
 go_step3
 go_wp2_with fail
 go_region
 go_wp2_with fail
 have S:∀W,bj prog 72 #[.string (s.extract (m+1) s.size),.int .u8 (q[m].toNat:Int)] W fun e w'=>e=.returned (.int .i64 (-1))/\w'=W:=fun W=>by
  have:=Tryz.strings_IndexByte (s.extract (m+1) s.size) (q[m].toNat:Int) W;rw[show(((q[m].toNat:Nat):Int)).toNat.toUInt8=q[m]from by simp,Q]at this;exact this
 have U:∀W,bj prog 72 #[.string (s.extract (m+1) s.size),.int .u8 (q[m].toNat:Int)] W (ar W (.int .i64 (-1))):=fun W=>ar.of_same (S W);refine wp_region_quiet_below (by kernel_rfl) (by kernel_rfl) ?_
 repeat(go_big_quiet_step (first|(go_at_call 72;exact ar.qR (U _))))
 refine wpQuiet_nil ?_;intro w2 y;have z:=bR y;clear y;go_wp2_with fail
 simp only[Exit.noGoto,Exit.inBlock,Exit.then];go_ret
 first|exact ar.mk rfl z|exact ar.mk rfl (((Gr.refl _).drew).trans z)
theorem Jx(s:ByteArray)(pos:Nat)(h:pos<s.size)(ha:128<=(s[pos]'h).toNat):
  pos+(Utf8.decode s pos).2<=s.size/\∀j b,pos<=j->j<pos+(Utf8.decode s pos).2->s.data.toList[j]?=some b->128<=b.toNat:=by
 have hn:¬(s[pos]'h).toNat<128:=by omega
 have I:∀k b,s.data.toList[pos+k]?=some b->s.get! (pos+k)=b:=by
  intro k b B;have D:pos+k<s.size:=by rw[size_data];exact(de.1 B).1
  have y:=get_at s (pos+k) D;rw[cF]at y;rw[y,bm s _ D];exact(de.1 B).2
 have q:∀m:Nat,1<=m->pos+m<=s.size->(∀k,1<=k->k<m->(s.get! (pos+k)).toNat/64=2)->pos+m<=s.size/\∀j b,pos<=j->j<pos+m->s.data.toList[j]?=some b->128<=b.toNat:=by
  intro m y J hc;refine⟨J,fun j b z M L=>?_⟩;obtain⟨k,rfl⟩:∃k,j=pos+k:=⟨j-pos,by omega⟩;have H:=I k b L;rcases Nat.eq_zero_or_pos k with rfl|B
  ·have G:=get_at s pos h;rw[H]at G;rw[G];exact ha
  have G:=hc k B (by omega);rw[H]at G;omega
 simp only[Utf8.decode,get_at s pos h,hn,if_false]
 repeat' split
 all_goals simp only[bF,decide_eq_true_eq,beq_iff_eq]at*
 ·exact q 2 (by omega) (by omega) (fun k y z=>by obtain rfl:k=1:=(by omega);grind)
 ·exact q 1 (by omega) (by omega) (fun k y z=>by omega)
 ·exact q 3 (by omega) (by omega) (fun k y z=>by rcases(show k=1\/k=2 by omega)with rfl|rfl<;>grind)
 ·exact q 1 (by omega) (by omega) (fun k y z=>by omega)
 ·exact q 4 (by omega) (by omega) (fun k y z=>by rcases(show k=1\/k=2\/k=3 by omega)with rfl|rfl|rfl<;>grind)
 ·exact q 1 (by omega) (by omega) (fun k y z=>by omega)
 exact q 1 (by omega) (by omega) (fun k y z=>by omega)
theorem Bk(t q:ByteArray)(ht:t.size<=1000)(V:4<=q.size/\q.size<=8)(ha:∀b∈q.data.toList,b.toNat<128)(w:aJ):
  bj prog 76 #[.string t,.string q] w (ar w (.int .i64 (dD t.data.toList q.data.toList))):=by
 have B:∀(j:Nat) b,q.data.toList[j]?=some b->b.toNat<128:=fun j b h=>ha b (dZ h);by_cases h8:8<t.size
 ·refine(Tryz.strings_IndexAny_long (zero_of_info (by kernel_rfl:(prog.info? 215).map (fun i=>(i.zero,i.size))=some (some (.agg (Array.replicate 256 (.bool false))),256))).1 t q w (by omega) h8 (by omega) (by omega) B).mono ?_;rintro e L ⟨rfl,rfl⟩;exact ar.mk rfl (((Gr.refl _).alloc _).alloc _)
 have HA:=ae ha;have a6:q.toList.isEmpty=false:=by
  rw[aQ];cases h:q.data.toList with
  |nil=>rw[size_data,h]at V;simp at V
  |cons _ _=>rfl
 have b6:((q.size:Int)==1)=false:=beq_eq_false_iff_ne.2 (by omega);have Y:decide ((8:Int)<(t.size:Int))=false:=decide_eq_false (by omega);clear ha B;go_enter func76,ntmps76;go_wp2_with(go_at_call 132;refine(Tryz.strings_shouldUseASCIISet _ _).mono ?_;rintro e L ⟨rfl,hw⟩;rw[hw,Y])
 go_loopg [9,10] t.size (fun g _ _ wx=>∃i:Nat,t.size<=i+g/\i<=t.size/\wx.heap[w.heap.size]?=some (.stringIter t i)/\Gr w wx/\iP t.data.toList q.data.toList i)
 case atStart=>exact⟨0,by omega,by omega,World.iter_heap w t 0,(Gr.refl w).alloc _,iR _ _⟩
 case round=>
  obtain⟨i,b7,hit,M,O,Q⟩:=hrel;have HN:=ae Q;clear Q;by_cases hi:i<t.size
  ·obtain⟨g,rfl⟩:∃g,gk=g+1:=⟨gk-1,by omega⟩;have G:=fun ty=>Lib.run_next_any_at (P:=prog) wr w.heap.size t i ty M hi;have S:=fun p=>Lib.iterAt_heap wr w.heap.size t i p M;have H:=fun p=>(Lib.below_iterAt O (bA _) t p:Gr w (wr.iterAt w.heap.size t p));by_cases D:t[i].toNat<128
   ·rw[decode_ascii t i hi D]at G;have I:t.data.toList[i]?=some t[i]:=Lib.data_getElem? t i hi;generalize t[i]=x at*;have s:=cW q.data.toList x;have J:((x.toNat:Int)).toNat.toUInt8=x:=by simp
    have y:=fun W=>Tryz.strings_IndexRune_ascii q (x.toNat:Int) W (by omega) (by omega);rw[J]at y;have HX:=ae I;cases z:q.data.toList.contains x
    ·rw[z]at s;have b8:¬((0:Int)<=bh q.data.toList x):=of_decide_eq_false s.symm;clear s I;go_wp2_with(go_at_call 131;refine(y _).mono ?_;rintro e L ⟨rfl,hw⟩;rw[hw])
     go_roundg g
     case measure=>omega
     case rel=>exact⟨i+1,by omega,by omega,S _,H _,HN.out.succ HX.out z⟩
    rw[z]at s;have b9:(0:Int)<=bh q.data.toList x:=of_decide_eq_true s.symm;clear s I;go_wp2_with(go_at_call 131;refine(y _).mono ?_;rintro e L ⟨rfl,hw⟩;rw[hw])
    go_ret;exact⟨by rw[eB HN.out HX.out z];rfl,H _⟩
   obtain⟨d1,d2⟩:=decode_high t i hi (by omega);have d3:=decode_le t i;obtain⟨d4,d5⟩:=Jx t i hi (by omega);have D5:=ae d5;clear d5 D;generalize Utf8.decode t i=rk at*;obtain⟨rr,k⟩:=rk;simp only at d1 d2 d3 d4 G;have y:=fun W=>zR q V HA.out (rr:Int) (by omega) W;go_wp2_with(go_at_call 131;refine(y _).mono ?_;rintro e L ⟨rfl,U⟩)
   go_roundg g
   case measure=>omega
   case rel=>
    refine⟨i+k,by omega,by omega,?_,Gr.trans (H (i+k)) U,?_⟩
    ·have h1:=S (i+k);rw[U.block _ (by rw[Lib.iterAt_size];exact(cL.1 M).1)];exact h1
    intro j b hj hb;by_cases Z:j<i
    ·exact HN.out j b Z hb
    have h1:=D5.out j b (by omega) hj hb;rw[az];intro h2;have h3:=HA.out b (List.contains_iff_mem.1 h2);omega
  obtain rfl:i=t.size:=by omega
  have G:=fun ty=>Lib.run_next_end_at (P:=prog) wr w.heap.size t t.size ty M (by omega);go_wp2_with fail
  go_ret;exact⟨by rw[ew (by rw[<-size_data];exact HN.out)];rfl,O⟩
theorem Om(t:ByteArray)(b:t.size<=1000)(w:aJ):bj prog 76 #[.string t,.string ⟨#[32,40,41,34,42]⟩] w (ar w (.int .i64 (kC t.data.toList))):=by
 have h:=Bk t ⟨#[32,40,41,34,42]⟩ b (by decide) (by decide) w;have e:dD t.data.toList (⟨#[32,40,41,34,42]⟩:ByteArray).data.toList=kC t.data.toList:=LN t.data.toList;rw[e]at h;exact h
theorem pG(t q:ByteArray)(y:t.size<=1000)(z:4<=q.size/\q.size<=8)(ha:∀b∈q.data.toList,b.toNat<128)(w:aJ):
  bj prog 188 #[.string t,.string q] w (ar w (.bool (fl t.data.toList q.data.toList))):=by
 have s:=fun W=>Bk t q y z ha W;unfold fl;clear ha;generalize dD t.data.toList q.data.toList=k at*;go_enter func188,ntmps188;go_wp2_with(go_at_call 76;refine(s _).mono ?_;rintro e D ⟨rfl,B⟩)
 go_ret;exact ar.mk rfl B
def dI(n:Int):fy:=.panicked [{v:=.iface 75 (.agg #[.int .i64 n]),recovered:=false}]
theorem lV(n:Int)(w:aJ):bj prog 34 #[.int .i64 n] w (fun e b=>e=dI n/\b=w):=by
 go_enter func34,ntmps34;go_wp2_with fail
 exact⟨rfl,rfl,rfl⟩
def pH(v:di):Nat:=match v with| .string t=>t.size|_=>0
def Uh(w:aJ)(R:Option (List ByteArray))(e:fy)(w':aJ):Prop:=
 match R with
 |none=>e=dI 3/\Gr w w'
 |some b=>TW w b e w'
theorem zS(t:ByteArray)(k:Nat):t.extract 0 k=je (t.data.toList.take k):=by
 apply bE;rw[bC,gu];simp
theorem mI(t:ByteArray)(k:Nat):(t.extract k t.size).data.toList=t.data.toList.drop k:=by
 rw[bC];exact aV (by rw[aU,<-size_data];exact bA _)
theorem Xo(s:ByteArray)(hs:s.size<=1000)(w:aJ):bj prog 31 #[.string s] w (Uh w (c_ s.size s.data.toList)):=by
 obtain⟨i0,hi,a1,a2,a3⟩:=eh lN;generalize hR:c_ s.size s.data.toList=R;have HR:=ae hR;clear hR;go_enter func31,ntmps31;go_wp2_with fail
 go_loopw [0,3] (fun sv v w'=>∃(t:ByteArray) (us:List ByteArray) (n:Nat),sv=.string t/\t.size<=n/\t.size<=1000/\us.length+t.size<=1000/\Gr w w'/\iB w' w.heap.size v us/\(c_ n t.data.toList).map (us++·)=R) (fun sv _ _=>pH sv)
 case atStart=>exact⟨s,[],s.size,rfl,bA _,hs,by simpa using hs,Gr.refl _,⟨rfl,.inl ⟨rfl,rfl⟩⟩,by rw[HR.out];cases R<;>simp⟩
 case round=>
  obtain⟨t,us,n,rfl,hn,ht,d7,hg,a9,hcut⟩:=hrel;have HO:=ae a9;have HC:=ae hcut;clear a9 hcut;cases I:t.data.toList with
  |nil=>
   have hb:t.toList.isEmpty=true:=by rw[aQ,I];rfl
   have Z:=ae I;clear I;go_wp2_with fail
   go_ret;have hc:=HC.out;rw[Z.out]at hc;have:R=some us:=by rw[<-hc];cases n<;>simp[c_]
   rw[this];exact⟨_,rfl,HO.out,hg⟩
  |cons c r=>
   have hb:t.toList.isEmpty=false:=by rw[aQ,I];rfl
   have b5:t.size=r.length+1:=by rw[size_data,I];rfl
   have h0:0<t.size:=by omega
   have J:t[0]=c:=by rw[bm t 0 h0];simp[I]
   obtain⟨n,rfl⟩:∃m,n=m+1:=⟨n-1,by omega⟩;have D:=fun W=>Om t (by omega) W;have H:=HO.out;rw[I]at D;have Z:=ae I;have b6:=ae b5;clear b5;by_cases y:(c::r).all (fun x=>!cu x)=true
   ·have hv:kC (c::r)=-1:=by unfold kC;rw[if_pos y]
    rw[hv]at D;have O:=ae D;have V:=Uf n y;have b0:=ae V;clear I D J hv y V;go_wp2_with(first
     |( go_at_call 76;refine(O.out _).mono ?_;rintro e w1 ⟨rfl,q⟩;have G:=hg.trans q;have b:=aF H q)
     |( at_builtin;refine bK (a0:=w) rfl _ _ 22 rfl 9 i0 (.string ⟨#[]⟩) 1 16 underlying22 hi a1 a2 a3 rfl (by decide) _ us.length (us.map aS) rfl b [_] rfl (by simp;rfl) rfl G (by omega) (by omega) ?_;intro v4 w4 B Q))
    go_ret;have hc:=HC.out;rw[Z.out,b0.out]at hc;have he:R=some (us++[t]):=by
     rw[<-hc];show some (us++[je (c::r)])=_;rw[<-Z.out,show je t.data.toList=t from rfl]
    rw[he];refine⟨_,rfl,?_,Q⟩;unfold iB;rw[ap,aX];exact B
   cases L:cu c
   ·have c4:∃K:Nat,((c::r).takeWhile (fun x=>!cu x)).length=K+1:=⟨(r.takeWhile (fun x=>!cu x)).length,by simp[L]⟩;obtain⟨K,hK⟩:=c4;obtain⟨b8,_⟩:=Jw (fun x=>!cu x) (c::r) (by simpa using y);rw[hK]at b8;have d3:K+1<t.size:=by rw[b6.out];exact b8
    have hv:kC (c::r)=((K+1:Nat):Int):=by unfold kC;rw[if_neg y,hK]
    rw[hv]at D;have O:=ae D;have V:=GZ n L (r:=r);rw[<-DQ,<-LM,hK,<-I]at V;have b0:=ae V;have g3:0<K+1:=by omega
    have g1:decide (((K+1:Nat):Int)<0)=false:=by simp;omega
    have g2:decide ((0:Int)<((K+1:Nat):Int))=true:=by simp
    clear I D J hv y V hK L;generalize K+1=k at*;go_wp2_with(first
      |( go_at_call 76;refine(O.out _).mono ?_;rintro e w1 ⟨rfl,q⟩;have G:=hg.trans q;have b:=aF H q)
      |( at_builtin;refine bK (a0:=w) rfl _ _ 22 rfl 9 i0 (.string ⟨#[]⟩) 1 16 underlying22 hi a1 a2 a3 rfl (by decide) _ us.length (us.map aS) rfl b [_] rfl (by simp;rfl) rfl G (by omega) (by omega) ?_;intro v4 w4 B Q))
    have hx:(t.extract k t.size).size=t.size-k:=by rw[size_data,mI,aU,<-size_data]
    refine⟨⟨t.extract k t.size,us++[t.extract 0 k],n,rfl,by omega,by omega,by simp;omega,Q,?_,?_⟩,by simp[pH];omega⟩
    · unfold iB
      rw[ap,aX];exact B
    rw[mI,zS,<-HC.out,b0.out];cases c_ n (t.data.toList.drop k)<;>simp
   have hv:kC (c::r)=0:=by unfold kC;rw[if_neg y];simp[L]
   rw[hv]at D;have O:=ae D;have d8:1<=t.size:=h0;have M:(t.extract 1 t.size).data.toList=r:=by rw[mI,I];rfl
   by_cases a4:c=34
   · have hq:(((t[0].toNat:Nat):Int)==34)=true:=by rw[J,a4];rfl
     have Y:∀W,bj prog 72 #[.string (t.extract 1 t.size),.int .u8 34] W (ar W (.int .i64 (if r.all (·!=34)=true then-1 else((r.takeWhile (·!=34)).length:Int)))):=fun W=>by
       have h:=Tryz.strings_IndexByte (t.extract 1 t.size) 34 W;rw[show((34:Int)).toNat.toUInt8=34 from rfl,M,Fl]at h;exact ar.of_same h
     subst a4;by_cases S:r.all (·!=34)=true
     · rw[if_pos S]at Y
       have z:=G9 n r S;have U:=ae z;have b1:=ae Y;clear I D J hv y L Y S z M;go_wp2_with(first
         |(go_at_call 76;refine(O.out _).mono ?_;rintro e w1 ⟨rfl,q⟩;have G:=hg.trans q;have b:=aF H q)
         |(go_at_call 72;refine(b1.out _).mono ?_;rintro e w3 ⟨rfl,a5⟩;have c5:=G.trans a5)
         |(go_at_call 34;refine(lV 3 _).mono ?_;rintro e w6 ⟨rfl,rfl⟩;unfold dI))
       have hc:=HC.out;rw[Z.out,U.out]at hc;have he:R=none:=by rw[<-hc];rfl
       rw[he];exact⟨rfl,rfl,c5⟩
     obtain⟨hE,_⟩:=Jw (·!=34) r (by simpa using S);rw[if_neg S]at Y;have z:=DU n r (by simpa using S);rw[show je (34::r.takeWhile (·!=34))=t.extract 0 ((r.takeWhile (·!=34)).length+1)by rw[zS,I,cf,DQ],show r.drop ((r.takeWhile (·!=34)).length+1)=(t.extract ((r.takeWhile (·!=34)).length+2) t.size).data.toList by rw[mI,I];rfl]at z;have U:=ae z;have b9:=b6.out;generalize c6:(r.takeWhile (·!=34)).length=E at*;have d9:E+2<=t.size:=by omega
     have b1:=ae Y;have gE:decide ((E:Int)<0)=false:=by simp
     clear I D J hv y L Y S z M b9 c6;go_wp2_with(first
       |(go_at_call 76;refine(O.out _).mono ?_;rintro e w1 ⟨rfl,q⟩;have G:=hg.trans q;have b:=aF H q)
       |(go_at_call 72;refine(b1.out _).mono ?_;rintro e w3 ⟨rfl,a5⟩;have G:=G.trans a5;have b:=aF b a5)
       |(at_builtin;refine bK (a0:=w) rfl _ _ 22 rfl 9 i0 (.string ⟨#[]⟩) 1 16 underlying22 hi a1 a2 a3 rfl (by decide) _ us.length (us.map aS) rfl b [_] rfl (by simp;rfl) rfl G (by omega) (by omega) ?_;intro v4 w4 B Q))
     have hx:(t.extract (E+2) t.size).size=t.size-(E+2):=by rw[size_data,mI,aU,<-size_data]
     refine⟨⟨t.extract (E+2) t.size,us++[t.extract 0 (E+1)],n,rfl,by omega,by omega,by simp;omega,Q,?_,?_⟩,by simp[pH];omega⟩
     · unfold iB
       rw[ap,aX];exact B
     rw[<-HC.out,Z.out,U.out];cases c_ n (t.extract (E+2) t.size).data.toList<;>simp
   have hq:(((t[0].toNat:Nat):Int)==34)=false:=by
     rw[J,az];intro h;have:=beq_iff_eq.1 h;exact a4 (dQ.1 (by show c.toNat=34;omega))
   have hx:(t.extract 1 t.size).size=t.size-1:=by rw[size_data,mI,aU,<-size_data]
   by_cases a6:c=32
   · have c7:(((t[0].toNat:Nat):Int) !=32)=false:=by rw[J,a6];rfl
     subst a6;have z:=DT n r;rw[<-M]at z;have U:=ae z;have b2:=ae M;clear I D J hv y L z M;go_wp2_with(first
       |(go_at_call 76;refine(O.out _).mono ?_;rintro e w1 ⟨rfl,q⟩;have G:=hg.trans q;have b:=aF H q))
     refine⟨⟨t.extract 1 t.size,us,n,rfl,by omega,by omega,by omega,G,b,?_⟩,by simp[pH];omega⟩;rw[<-HC.out,Z.out,<-b2.out];exact congrArg _ U.out.symm
   have c7:(((t[0].toNat:Nat):Int) !=32)=true:=by
     rw[J,bne_iff_ne];intro h;exact a6 (dQ.1 (by show c.toNat=32;omega))
   have z:=G7 n r L a6 a4;rw[show je [c]=t.extract 0 1 by rw[zS,I];rfl,<-M]at z;have U:=ae z;have b2:=ae M;clear I D J hv y L z M;go_wp2_with(first
     |(go_at_call 76;refine(O.out _).mono ?_;rintro e w1 ⟨rfl,q⟩;have G:=hg.trans q;have b:=aF H q)
     |(at_builtin;refine bK (a0:=w) rfl _ _ 22 rfl 9 i0 (.string ⟨#[]⟩) 1 16 underlying22 hi a1 a2 a3 rfl (by decide) _ us.length (us.map aS) rfl b [_] rfl (by simp;rfl) rfl G (by omega) (by omega) ?_;intro v4 w4 B Q))
   refine⟨⟨t.extract 1 t.size,us++[t.extract 0 1],n,rfl,by omega,by omega,by simp;omega,Q,?_,?_⟩,by simp[pH];omega⟩
   · unfold iB
     rw[ap,aX];exact B
   rw[<-HC.out,Z.out,<-b2.out,U.out];cases c_ n (t.extract 1 t.size).data.toList<;>simp
theorem kd(x y:UInt8):(((x.toNat:Nat):Int)==((y.toNat:Nat):Int))=(x==y):=by
 rw[bW,beq_iff_eq,beq_iff_eq]
 constructor
 ·intro h;exact dQ.1 (by omega)
 intro h;rw[h]
theorem DW(s:ByteArray)(j m:Nat)(_h:j<=m):s.extract j m=je ((s.data.toList.drop j).take (m-j)):=by
 apply bE;rw[bC,gu]
theorem LQ{b:Type}(p:b->Bool)(l:List b)(d:Nat)(hd:d<=l.length)(ha:(l.take d).all p=true)(hs:∀h:d<l.length,p l[d]=false):l.takeWhile p=l.take d:=by
 induction l generalizing d with
 |nil=>simp
 |cons a t q=>
  cases d with
  |zero=>
   have:=hs (by simp);simp only[bB]at this;simp[this]
  |succ d=>
   simp only[cf,eb,bF]at ha;simp only[eA]at hd;rw[b_,if_pos ha.1,cf,q d (by omega) ha.2 (fun h=>by have:=hs (by simp;omega);simpa using this)]
theorem uO{b:Type}(p:b->Bool)(l:List b)(d:Nat)(hd:d<l.length)(ha:(l.take d).all p=true)(q:p l[d]=true):(l.take (d+1)).all p=true:=by
 rw[bt hd,cD,ha];simp[q]
theorem LR(x:UInt8):decide (bh [32,40,41,42,34] x<0)=!cu x:=by
 have h:=cW [32,40,41,42,34] x;have b:[32,40,41,42,34].contains x=cu x:=by
  unfold cu;simp only[ej,es,fM,fS];cases x==32<;>cases x==40<;>cases x==41<;>cases x==42<;>cases x==34<;>rfl
 rw[b]at h;rw[h,<-decide_not]
 congr 1
 simp
def Ui(w:aJ)(R:Option (List ByteArray))(e:fy)(w':aJ):Prop:=
 match R with
 |none=>e=.returned (.tuple #[.slice none 0 0,.bool false])/\Gr w w'
 |some b=>∃v,e=.returned (.tuple #[v,.bool true])/\iB w' w.heap.size v b/\Gr w w'
theorem RJ(s:ByteArray)(hs:s.size<=1000)(w:aJ):bj prog 27 #[.string s] w (Ui w (c_ s.size s.data.toList)):=by
 obtain⟨i0,hi,a8,a9,b0⟩:=eh lN;generalize hR:c_ s.size s.data.toList=R;have HR:=ae hR;clear hR;go_enter func27,ntmps27;go_wp2_with fail
 go_loopw [5,4] (fun i v w'=>∃(j:Nat) (us:List ByteArray) (n:Nat),i=.int .i64 j/\j<=s.size/\s.size<=j+n/\us.length<=j/\Gr w w'/\iB w' w.heap.size v us/\(c_ n (s.data.toList.drop j)).map (us++·)=R) (fun i _ _=>s.size-(intOf i).toNat)
 case atStart=>exact⟨0,[],s.size,rfl,bu _,by omega,by simp,Gr.refl _,⟨rfl,.inl ⟨rfl,rfl⟩⟩,by rw[List.drop_zero,HR.out];cases R<;>simp⟩
 case round=>
  obtain⟨j,us,n,rfl,hj,hn,g0,hg,V,hcut⟩:=hrel;have HO:=ae V;have HC:=ae hcut;clear hcut;by_cases c3:j<s.size
  ·have L:s.data.toList.drop j=s[j]::s.data.toList.drop (j+1):=by
    rw[bm s j c3];exact be (by rw[<-size_data];exact c3)
   obtain⟨n,rfl⟩:∃m,n=m+1:=⟨n-1,by omega⟩;have a2:=kd s[j] 32;have a3:=kd s[j] 40;have a4:=kd s[j] 41;have a5:=kd s[j] 42;have a6:=kd s[j] 34;have h1:s.extract j (j+1)=je [s[j]]:=by rw[DW s j (j+1) (by omega),L,show j+1-j=1 by omega];rfl
   by_cases H:s[j]=32
   ·have B:c_ (n+1) (s.data.toList.drop j)=c_ n (s.data.toList.drop (j+1)):=by rw[L,H];exact DT n _
    have Q:=ae B;have d6:(((s[j].toNat:Nat):Int)==32)=true:=by rw[H];rfl
    clear B H h1 a2 a3 a4 a5 a6 L;go_wp2_with fail
    exact⟨⟨j+1,us,n,by go_num,by omega,by omega,by omega,hg,V,by rw[<-HC.out,Q.out]⟩,by simp[intOf];omega⟩
   have d6:(((s[j].toNat:Nat):Int)==32)=false:=a2.trans (by simpa using H);by_cases I:s[j]=40\/s[j]=41\/s[j]=42
   ·have B:c_ (n+1) (s.data.toList.drop j)=(c_ n (s.data.toList.drop (j+1))).map (s.extract j (j+1)::·):=by
     rw[L,h1];refine G7 n _ ?_ H ?_
     ·rcases I with h|h|h<;>rw[h]<;>decide
     rcases I with h|h|h<;>rw[h]<;>decide
    have Q:=ae B;have Y:∀(Z:di) (M:aJ),M.ownsRow w.heap.size 9 1 Z (us.length+1) (us.map aS++[.string (s.extract j (j+1))])->Gr w M->
      ∃(z:List ByteArray) (S:Nat),s.size<=j+1+S/\z.length<=j+1/\Gr w M/\iB M w.heap.size Z z/\(c_ S (s.data.toList.drop (j+1))).map (z++·)=R:=fun Z M y G=>by
     refine⟨us++[s.extract j (j+1)],n,by omega,by simp;omega,G,?_,?_⟩
     ·unfold iB;rw[ap,aX];exact y
     rw[<-HC.out,Q.out];cases c_ n (s.data.toList.drop (j+1))<;>simp
    have HF:=ae Y;have U:=hg;have D:=aF V (Gr.refl _);clear B L h1 Y;rcases I with h|h|h
    ·have c4:(((s[j].toNat:Nat):Int)==40)=true:=by rw[h];rfl
     clear h H a2 a3 a4 a5 a6;go_wp2_with(at_builtin;refine bK (a0:=w) rfl _ _ 22 rfl 9 i0 (.string ⟨#[]⟩) 1 16 underlying22 hi a8 a9 b0 rfl (by decide) _ us.length (us.map aS) rfl D [_] rfl (by simp;rfl) rfl U (by omega) (by omega) ?_;intro Z M y G)
     obtain⟨z,S,f1,f2,f3,f4,f5⟩:=HF.out _ _ y G;exact⟨⟨j+1,z,S,by go_num,by omega,f1,f2,f3,f4,f5⟩,by simp[intOf];omega⟩
    ·have c4:(((s[j].toNat:Nat):Int)==40)=false:=by rw[h];rfl
     have d0:(((s[j].toNat:Nat):Int)==41)=true:=by rw[h];rfl
     clear h H a2 a3 a4 a5 a6;go_wp2_with(at_builtin;refine bK (a0:=w) rfl _ _ 22 rfl 9 i0 (.string ⟨#[]⟩) 1 16 underlying22 hi a8 a9 b0 rfl (by decide) _ us.length (us.map aS) rfl D [_] rfl (by simp;rfl) rfl U (by omega) (by omega) ?_;intro Z M y G)
     obtain⟨z,S,f1,f2,f3,f4,f5⟩:=HF.out _ _ y G;exact⟨⟨j+1,z,S,by go_num,by omega,f1,f2,f3,f4,f5⟩,by simp[intOf];omega⟩
    have c4:(((s[j].toNat:Nat):Int)==40)=false:=by rw[h];rfl
    have d0:(((s[j].toNat:Nat):Int)==41)=false:=by rw[h];rfl
    have d7:(((s[j].toNat:Nat):Int)==42)=true:=by rw[h];rfl
    clear h H a2 a3 a4 a5 a6;go_wp2_with(at_builtin;refine bK (a0:=w) rfl _ _ 22 rfl 9 i0 (.string ⟨#[]⟩) 1 16 underlying22 hi a8 a9 b0 rfl (by decide) _ us.length (us.map aS) rfl D [_] rfl (by simp;rfl) rfl U (by omega) (by omega) ?_;intro Z M y G)
    obtain⟨z,S,f1,f2,f3,f4,f5⟩:=HF.out _ _ y G;exact⟨⟨j+1,z,S,by go_num,by omega,f1,f2,f3,f4,f5⟩,by simp[intOf];omega⟩
   have c4:(((s[j].toNat:Nat):Int)==40)=false:=a3.trans (by simpa using fun e=>I (.inl e));have d0:(((s[j].toNat:Nat):Int)==41)=false:=a4.trans (by simpa using fun e=>I (.inr (.inl e)));have d7:(((s[j].toNat:Nat):Int)==42)=false:=a5.trans (by simpa using fun e=>I (.inr (.inr e)));by_cases b1:s[j]=34
   ·have d8:(((s[j].toNat:Nat):Int)==34)=true:=by rw[b1];rfl
    rw[b1]at L;have b4:=ae L;clear b1 I H a2 a3 a4 a5 a6 L h1;go_wp2_with fail
    go_loop [7] (fun k=>∃m:Nat,j+1<=m/\m<=s.size/\k=.int .i64 m/\((s.data.toList.drop (j+1)).take (m-(j+1))).all (·!=34)=true) (fun k=>s.size-(intOf k).toNat)
    case atStart=>exact⟨j+1,bA _,by omega,by go_num,by simp⟩
    case round=>
     obtain⟨m,d1,hm,rfl,a1⟩:=hrel;have HA:=ae a1;clear a1;by_cases J:m<s.size
     ·have d9:m<s.data.toList.length:=by rw[<-size_data];exact J
      have b:=kd s[m] 34;by_cases b2:s[m]=34
      ·have qm:(((s[m].toNat:Nat):Int) !=34)=false:=by rw[b2];rfl
       have b3:=LQ (·!=34) (s.data.toList.drop (j+1)) (m-(j+1)) (by rw[aU];omega) HA.out (fun h=>by
        rw[cl];simp only[show j+1+(m-(j+1))=m by omega];rw[<-bm s m J,b2]
        rfl)
       have b5:((s.data.toList.drop (j+1)).takeWhile (·!=34)).length=m-(j+1):=by rw[b3,bP,aU];omega
       have b6:(s.data.toList.drop (j+1)).all (·!=34)=false:=by
        rw[az];intro h;have h2:=(uK _ _).1 h;rw[h2,aU]at b5;omega
       have B:=DU n _ b6;rw[b5,b3,dT,show j+1+(m-(j+1)+1)=m+1 by omega,show je (34::(s.data.toList.drop (j+1)).take (m-(j+1)))=s.extract j m by
        rw[DW s j m (by omega),b4.out,show m-j=(m-(j+1))+1 by omega,cf]]at B
       have Q:=ae B;have U:=hg;have D:=aF V (Gr.refl _);have g3:((m:Int)==(s.size:Int))=false:=by rw[az];intro h;have:=beq_iff_eq.1 h;omega
       clear b2 b b3 b5 b6 B;go_wp2_with(at_builtin;refine bK (a0:=w) rfl _ _ 22 rfl 9 i0 (.string ⟨#[]⟩) 1 16 underlying22 hi a8 a9 b0 rfl (by decide) _ us.length (us.map aS) rfl D [_] rfl (by simp;rfl) rfl U (by omega) (by omega) ?_;intro Z M y G)
       refine⟨⟨m+1,us++[s.extract j m],n,by go_num,by omega,by omega,by simp;omega,G,?_,?_⟩,by simp[intOf];omega⟩
       ·unfold iB;rw[ap,aX];exact y
       rw[<-HC.out,b4.out,Q.out];cases c_ n (s.data.toList.drop (m+1))<;>simp
      have qm:(((s[m].toNat:Nat):Int) !=34)=true:=by
       have:(s[m]==34)=false:=by simpa using b2
       rw[this]at b;exact congrArg (! ·) b
      have a7:=uO (·!=34) (s.data.toList.drop (j+1)) (m-(j+1)) (by rw[aU];omega) HA.out (by
       rw[cl];simp only[show j+1+(m-(j+1))=m by omega];rw[<-bm s m J];simpa using b2)
      rw[show m-(j+1)+1=m+1-(j+1)by omega]at a7;have c5:=ae a7;clear b2 b a7;go_wp2_with fail
      exact⟨⟨m+1,by omega,by omega,by go_num,c5.out⟩,by simp[intOf];omega⟩
     obtain rfl:m=s.size:=by omega
     have d2:(s.data.toList.drop (j+1)).all (·!=34)=true:=by
      have:=HA.out;rwa [aV (by rw[aU,<-size_data];omega)]at this
     have B:=G9 n _ d2;have Q:=ae B;clear d2 B;go_wp2_with fail
     go_ret2;have he:R=none:=by rw[<-HC.out,b4.out,Q.out];rfl
     rw[he];exact⟨rfl,hg⟩
   have d8:(((s[j].toNat:Nat):Int)==34)=false:=a6.trans (by simpa using b1);have d3:cu s[j]=false:=by
    unfold cu;simp only[Bool.or_eq_false_iff,beq_eq_false_iff_ne,ne_eq];exact⟨⟨⟨⟨H,fun e=>I (.inl e)⟩,fun e=>I (.inr (.inl e))⟩,b1⟩,fun e=>I (.inr (.inr e))⟩
   have b4:=ae L;have d4:=ae d3;clear b1 I H a2 a3 a4 a5 a6 L h1 d3;go_wp2_with fail
   go_loop [8] (fun k=>∃m:Nat,j<=m/\m<=s.size/\k=.int .i64 m/\((s.data.toList.drop j).take (m-j)).all (fun x=>!cu x)=true) (fun k=>s.size-(intOf k).toNat)
   case atStart=>exact⟨j,bA _,by omega,by go_num,by simp⟩
   case round=>
    obtain⟨m,d1,hm,rfl,a1⟩:=hrel;have HA:=ae a1;clear a1;have e0:(∃h:m<s.size,cu s[m]=false)\/(∀h:m<s.size,cu s[m]=true):=by
     by_cases h:m<s.size
     ·cases hb:cu s[m]
      ·exact .inl ⟨h,hb⟩
      exact .inr fun _=>hb
     exact .inr fun h'=>absurd h' h
    rcases e0 with⟨J,c6⟩|O
    ·have d9:m<s.data.toList.length:=by rw[<-size_data];exact J
     have c7:=LR s[m];rw[c6]at c7;have a7:=uO (fun x=>!cu x) (s.data.toList.drop j) (m-j) (by rw[aU];omega) HA.out (by
      rw[cl];simp only[show j+(m-j)=m by omega];rw[<-bm s m J,c6]
      rfl)
     rw[show m-j+1=m+1-j by omega]at a7;have c5:=ae a7;have c8:∀W,bj prog 72 #[.string ⟨#[32,40,41,42,34]⟩,.int .u8 (s[m].toNat:Int)] W fun e w'=>e=.returned (.int .i64 (bh [32,40,41,42,34] s[m]))/\w'=W:=fun W=>by
      have h:=Tryz.strings_IndexByte ⟨#[32,40,41,42,34]⟩ (s[m].toNat:Int) W;rw[show(((s[m].toNat:Nat):Int)).toNat.toUInt8=s[m]from by simp]at h;exact h
     generalize bh [32,40,41,42,34] s[m]=q at*;clear c6 a7;go_wp2_with(go_at_call 72;refine(c8 _).mono ?_;rintro e w1 ⟨rfl,rfl⟩)
     exact⟨⟨m+1,by omega,by omega,by go_num,c5.out⟩,by simp[intOf];omega⟩
    have b3:=LQ (fun x=>!cu x) (s.data.toList.drop j) (m-j) (by rw[aU,<-size_data];omega) HA.out (fun h=>by
     have J:m<s.size:=by rw[aU,<-size_data]at h;omega
     rw[cl];simp only[show j+(m-j)=m by omega];rw[<-bm s m J,O J]
     rfl)
    have e3:j<m:=by
     rcases gw j m with h|h
     ·exact h
     obtain rfl:m=j:=by omega
     have:=O c3;rw[d4.out]at this;cases this
    have B:=GZ (r:=s.data.toList.drop (j+1)) n d4.out;rw[<-b4.out,<-LM,b3,bP,aU,<-size_data,show min (m-j) (s.size-j)=m-j by omega,dT,show j+(m-j)=m by omega,<-DW s j m d1]at B;have Q:=ae B;have U:=hg;have D:=aF V (Gr.refl _);have Y:∀(Z:di) (M:aJ),M.ownsRow w.heap.size 9 1 Z (us.length+1) (us.map aS++[.string (s.extract j m)])->Gr w M->
      ∃(z:List ByteArray) (S:Nat),s.size<=m+S/\z.length<=m/\Gr w M/\iB M w.heap.size Z z/\(c_ S (s.data.toList.drop m)).map (z++·)=R:=fun Z M y G=>by
     refine⟨us++[s.extract j m],n,by omega,by simp;omega,G,?_,?_⟩
     ·unfold iB;rw[ap,aX];exact y
     rw[<-HC.out,Q.out];cases c_ n (s.data.toList.drop m)<;>simp
    have HF:=ae Y;clear b3 B Y;by_cases J:m<s.size
    ·have c7:=LR s[m];rw[O J]at c7;have c8:∀W,bj prog 72 #[.string ⟨#[32,40,41,42,34]⟩,.int .u8 (s[m].toNat:Int)] W fun e w'=>e=.returned (.int .i64 (bh [32,40,41,42,34] s[m]))/\w'=W:=fun W=>by
      have h:=Tryz.strings_IndexByte ⟨#[32,40,41,42,34]⟩ (s[m].toNat:Int) W;rw[show(((s[m].toNat:Nat):Int)).toNat.toUInt8=s[m]from by simp]at h;exact h
     generalize bh [32,40,41,42,34] s[m]=q at*;clear O;go_wp2_with(first|(go_at_call 72;refine(c8 _).mono ?_;rintro e w1 ⟨rfl,rfl⟩)|(at_builtin;refine bK (a0:=w) rfl _ _ 22 rfl 9 i0 (.string ⟨#[]⟩) 1 16 underlying22 hi a8 a9 b0 rfl (by decide) _ us.length (us.map aS) rfl D [_] rfl (by simp;rfl) rfl U (by omega) (by omega) ?_;intro Z M y G))
     obtain⟨z,S,f1,f2,f3,f4,f5⟩:=HF.out _ _ y G;exact⟨⟨m,z,S,by go_num,by omega,f1,f2,f3,f4,f5⟩,by simp[intOf];omega⟩
    clear O;go_wp2_with(at_builtin;refine bK (a0:=w) rfl _ _ 22 rfl 9 i0 (.string ⟨#[]⟩) 1 16 underlying22 hi a8 a9 b0 rfl (by decide) _ us.length (us.map aS) rfl D [_] rfl (by simp;rfl) rfl U (by omega) (by omega) ?_;intro Z M y G)
    obtain⟨z,S,f1,f2,f3,f4,f5⟩:=HF.out _ _ y G;exact⟨⟨m,z,S,by go_num,by omega,f1,f2,f3,f4,f5⟩,by simp[intOf];omega⟩
  go_wp2_with fail
  go_ret2;have hc:=HC.out;rw[bc (by rw[<-size_data];omega)]at hc;have he:R=some us:=by rw[<-hc];cases n<;>simp[c_]
  rw[he];exact⟨_,rfl,HO.out,hg⟩
def iN(N:Nat)(w:aJ)(v:di)(ws:List ByteArray):Prop:=
 ∃(q:Option Addr) (c b:Nat),v=.slice q ws.length c/\(0<ws.length->q=some ⟨b,0,none⟩/\N<b/\ws.length<=c)/\iE w b 0 ws
def gv(N:Nat)(w:aJ):Qy->Nat->Prop
 | .leaf kind ws bg,b=>N<b/\w.cell? ⟨b,0,none⟩=some (.int .i64 kind)/\(∃v,w.cell? ⟨b,1,none⟩=some v/\iN N w v ws)/\w.cell? ⟨b,2,none⟩=some (.int .i64 bg)/\w.cell? ⟨b,3,none⟩=some (.pointer none)/\w.cell? ⟨b,4,none⟩=some (.pointer none)
 | .node kind l r,b=>N<b/\w.cell? ⟨b,0,none⟩=some (.int .i64 kind)/\w.cell? ⟨b,1,none⟩=some (.slice none 0 0)/\w.cell? ⟨b,2,none⟩=some (.int .i64 0)/\
  ∃q s,w.cell? ⟨b,3,none⟩=some (.pointer (some ⟨q,0,none⟩))/\w.cell? ⟨b,4,none⟩=some (.pointer (some ⟨s,0,none⟩))/\gv N w l q/\gv N w r s
def ir(N:Nat)(w:aJ):Qy->Nat->Prop
 | .leaf kind ws _,b=>N<b/\w.cell? ⟨b,0,none⟩=some (.int .i64 kind)/\(∃v,w.cell? ⟨b,1,none⟩=some v/\iN N w v ws)/\w.cell? ⟨b,2,none⟩=some (.pointer none)/\w.cell? ⟨b,3,none⟩=some (.pointer none)
 | .node kind l r,b=>N<b/\w.cell? ⟨b,0,none⟩=some (.int .i64 kind)/\w.cell? ⟨b,1,none⟩=some (.slice none 0 0)/\
  ∃q s,w.cell? ⟨b,2,none⟩=some (.pointer (some ⟨q,0,none⟩))/\w.cell? ⟨b,3,none⟩=some (.pointer (some ⟨s,0,none⟩))/\ir N w l q/\ir N w r s
abbrev gO (N:Nat) (w w':aJ):Prop:=ag (fun i=>i=N) w w'
theorem iE.fL{N:Nat}{w w':aJ}{b q:Nat}{ws:List ByteArray}(h:iE w b q ws)(g:gO N w w')(s:0<ws.length->b≠N):iE w' b q ws:=fun i hi=>g.keeps (s (by omega)) (h i hi)
theorem iN.fL{N:Nat}{w w':aJ}{v:di}{ws:List ByteArray}(h:iN N w v ws)(g:gO N w w'):iN N w' v ws:=by
 obtain⟨s,c,b,y,q,z⟩:=h;exact⟨s,c,b,y,q,z.fL g fun B=>by have:=(q B).2;omega⟩
theorem gv.fL{N:Nat}{w w':aJ}(g:gO N w w'):∀(q:Qy) (b:Nat),gv N w q b->gv N w' q b
 | .leaf kind ws bg,b,⟨s,y,⟨v,z,B⟩,D,G,H⟩=>⟨s,g.keeps (by omega) y,⟨v,g.keeps (by omega) z,B.fL g⟩,g.keeps (by omega) D,g.keeps (by omega) G,g.keeps (by omega) H⟩
 | .node kind l r,b,⟨s,y,z,B,I,J,D,G,H,L⟩=>⟨s,g.keeps (by omega) y,g.keeps (by omega) z,g.keeps (by omega) B,I,J,g.keeps (by omega) D,g.keeps (by omega) G,gv.fL g l I H,gv.fL g r J L⟩
theorem ir.fL{N:Nat}{w w':aJ}(g:gO N w w'):∀(q:Qy) (b:Nat),ir N w q b->ir N w' q b
 | .leaf kind ws bg,b,⟨s,y,⟨v,z,I⟩,B,D⟩=>⟨s,g.keeps (by omega) y,⟨v,g.keeps (by omega) z,I.fL g⟩,g.keeps (by omega) B,g.keeps (by omega) D⟩
 | .node kind l r,b,⟨s,y,z,G,H,B,D,J,L⟩=>⟨s,g.keeps (by omega) y,g.keeps (by omega) z,G,H,g.keeps (by omega) B,g.keeps (by omega) D,ir.fL g l G J,ir.fL g r H L⟩
theorem Uj{w:aJ}{B:Nat}{v:di}{ws:List ByteArray}(h:iB w B v ws){b:Option Addr}{k c:Nat}(e:v=.slice b k c):ws.length<=c:=by
 obtain⟨_,q⟩:=h;rcases q with⟨rfl,y⟩|⟨g,cap,s,rfl,_,z,hn,_⟩
 ·omega
 cases e;exact hn
theorem yD{N B:Nat}{w:aJ}{v:di}{ws:List ByteArray}(h:iB w B v ws)(G:N<B):iN N w v ws:=by
 obtain⟨z,c,b,q,s,D⟩:=fk h;refine⟨z,c,b,q,fun y=>⟨s y,?_,Uj h q⟩,D⟩;have:=aP h b (by rw[q,s y];rfl);omega
def oy(N:Nat)(w:aJ)(l:List ByteArray):Prop:=
 ∃(s:Option Addr) (c b q:Nat),w.cell? ⟨N,0,none⟩=some (.slice s l.length c)/\l.length<=c/\(0<l.length->s=some ⟨b,q,none⟩)/\(0<l.length->b≠N)/\iE w b q l/\w.frozen? ⟨N,0,none⟩=false
theorem oy.gr{N:Nat}{w w':aJ}{l:List ByteArray}(h:oy N w l)(g:Gr w w'):oy N w' l:=by
 obtain⟨y,c,b,q,s,z,B,D,G,H⟩:=h;exact⟨y,c,b,q,g.keeps s,z,B,D,G.gr g,(g.frozen 0 (ad s)).trans H⟩
theorem gJ(N:Nat)(l:List ByteArray)(G:l.length<=1000)(w:aJ)(h:oy N w l):bj prog 33 #[.pointer (some ⟨N,0,none⟩)] w fun e q=>e=.returned (.string (aW l))/\q=w:=by
 obtain⟨H,c,b,D,I,J,s,z,y,L⟩:=h;cases l with
 |nil=>
  clear s z y;go_enter func33,ntmps33;go_wp2_with fail
  go_ret;exact⟨rfl,rfl⟩
 |cons a t=>
  obtain rfl:=s (by simp);have B:=y 0 (by simp);simp only[bB,cF]at B;have M:((((a::t).length:Nat):Int)==0)=false:=by rw[az];intro h;have:=beq_iff_eq.1 h;simp at this;omega
  have O:0<(a::t).length:=by simp
  show bj _ _ _ _ fun e q=>e=.returned (.string a)/\q=w;generalize(a::t).length=m at*;clear s z y;go_enter func33,ntmps33;go_wp2_with fail
  go_ret;exact⟨rfl,rfl⟩
theorem oy.step{N:Nat}{w:aJ}{a:ByteArray}{t:List ByteArray}{b q y:Nat}{s:Option Addr}{u:di}(B:iE w b q (a::t))(D:b≠N)(G:w.cell? ⟨N,0,none⟩=some u)(H:w.frozen? ⟨N,0,none⟩=false)(hc:t.length<=y)(z:0<t.length->s=some ⟨b,q+1,none⟩):
  oy N (w.setCell ⟨N,0,none⟩ (.slice s t.length y)) t:=by
 refine⟨s,y,b,q+1,cg _ _ _ G,hc,z,fun _=>D,fun i hi=>?_,by rw[bX];exact H⟩;have:=B (i+1) (by simp;omega);rw[bv _ _ _ _ (by simp)];rw[show q+1+i=q+(i+1)by omega];simpa using this
theorem jr(N:Nat)(a:ByteArray)(t:List ByteArray)(G:(a::t).length<=1000)(w:aJ)(h:oy N w (a::t)):bj prog 78 #[.pointer (some ⟨N,0,none⟩),.string a] w fun e s=>e=.returned (.bool true)/\oy N s t/\gO N w s:=by
 have hn:=gJ N (a::t) G w h;rw[show aW (a::t)=a from rfl]at hn;obtain⟨O,c,b,M,y,H,z,B,D,I⟩:=h;obtain rfl:=z (by simp);have J:=B (by simp);have L:=ae D;have q:(a::t).length=t.length+1:=rfl;rw[q]at y H;clear z B D;go_enter func78,ntmps78;go_wp2_with(go_at_call 33;refine hn.mono ?_;rintro e Q ⟨rfl,rfl⟩)
 all_goals
  go_ret;refine⟨rfl,oy.step L.out J y I (by omega) ?_,ag.setCell _ _ rfl⟩;intro S
  first|rfl|omega
theorem eF(N:Nat)(l:List ByteArray)(s:ByteArray)(b:l.length<=1000)(w:aJ)(h:oy N w l)(hs:aW l≠s):bj prog 78 #[.pointer (some ⟨N,0,none⟩),.string s] w fun e q=>e=.returned (.bool false)/\q=w:=by
 have hn:=gJ N l b w h;generalize aW l=a at*;have y:(a.toList==s.toList)=false:=by
  rw[az];intro h;exact hs (bE (by rw[beq_iff_eq,aQ,aQ]at h;exact h))
 clear h hs;go_enter func78,ntmps78;go_wp2_with(go_at_call 33;refine hn.mono ?_;rintro e z ⟨rfl,rfl⟩)
 go_ret;exact⟨rfl,rfl⟩
theorem oy.rest{N:Nat}{w:aJ}{a:ByteArray}{t:List ByteArray}(h:oy N w (a::t)):∃(z:Option Addr) (c:Nat) (s:Option Addr) (D:Nat),w.cell? ⟨N,0,none⟩=some (.slice z (t.length+1) c)/\w.frozen? ⟨N,0,none⟩=false/\
  (∀W,(Instr.slice 22 (.slice z (t.length+1) c) (some (.int .i64 1)) none none).run prog W=.ok (.slice s t.length D) W)/\oy N (w.setCell ⟨N,0,none⟩ (.slice s t.length D)) t:=by
 obtain⟨z,c,b,q,B,H,I,J,L,G⟩:=h;obtain rfl:=I (by simp);have y:(a::t).length=t.length+1:=rfl;rw[y]at B H;refine⟨_,c,(if c=1 then some ⟨b,q,none⟩else some ⟨b,q+1,none⟩),c-1,B,G,fun W=>?_,oy.step L (J (by simp)) B G (by omega) fun O=>if_neg (by omega)⟩;have M:=run_slice_l (P:=prog) (w:=W) 22 (some ⟨b,q,none⟩) (t.length+1) c (by kernel_rfl) .i64 1 (by omega) (by omega);refine M.trans ?_;rw[show(Go.sizeOf (prog.elem 22)).run prog W=.ok 1 W by kernel_rfl];simp[Result.andThen,sliced,Addr.add]
theorem eu(s:ByteArray)(k:List UInt8):s.toList=k↔s=je k:=by
 rw[aQ]
 constructor
 ·intro h;exact bE (by rw[gu];exact h)
 intro h;rw[h,gu]
theorem yK(s:ByteArray):s.toList.isEmpty=decide (s=gG):=by
 rw[bW,decide_eq_true_eq,List.isEmpty_iff];exact eu s []
theorem vF{N:Nat}{w:aJ}{v:di}{ws:List ByteArray}(kind bg:Int)(hw:iN N w v ws)(b:N<w.heap.size)(T:ez):
  gv N (w.alloc (.cells #[.int .i64 kind,v,.int .i64 bg,.pointer none,.pointer none] T)) (.leaf kind ws bg) w.heap.size:=
 ⟨b,by rw[ak];rfl,⟨v,by rw[ak];rfl,hw.fL (ag.ah ((Gr.refl w).alloc _))⟩,by rw[ak];rfl,by rw[ak];rfl,by rw[ak];rfl⟩
theorem vG{N:Nat}{w:aJ}{s y:Qy}{b q:Nat}(kind:Int)(z:gv N w s b)(B:gv N w y q)(D:N<w.heap.size)(T:ez):
  gv N (w.alloc (.cells #[.int .i64 kind,.slice none 0 0,.int .i64 0,.pointer (some ⟨b,0,none⟩),.pointer (some ⟨q,0,none⟩)] T)) (.node kind s y) w.heap.size:=
 ⟨D,by rw[ak];rfl,by rw[ak];rfl,by rw[ak];rfl,b,q,by rw[ak];rfl,by rw[ak];rfl,gv.fL (ag.ah ((Gr.refl w).alloc _)) _ _ z,gv.fL (ag.ah ((Gr.refl w).alloc _)) _ _ B⟩
theorem sU{N:Nat}{w:aJ}{v:di}{ws:List ByteArray}(kind bg:Int)(hw:iN N w v ws)(b:N<w.heap.size)(T:ez):
  ir N (w.alloc (.cells #[.int .i64 kind,v,.pointer none,.pointer none] T)) (.leaf kind ws bg) w.heap.size:=
 ⟨b,by rw[ak];rfl,⟨v,by rw[ak];rfl,hw.fL (ag.ah ((Gr.refl w).alloc _))⟩,by rw[ak];rfl,by rw[ak];rfl⟩
theorem sV{N:Nat}{w:aJ}{s y:Qy}{b q:Nat}(kind:Int)(z:ir N w s b)(B:ir N w y q)(D:N<w.heap.size)(T:ez):
  ir N (w.alloc (.cells #[.int .i64 kind,.slice none 0 0,.pointer (some ⟨b,0,none⟩),.pointer (some ⟨q,0,none⟩)] T)) (.node kind s y) w.heap.size:=
 ⟨D,by rw[ak];rfl,by rw[ak];rfl,b,q,by rw[ak];rfl,by rw[ak];rfl,ir.fL (ag.ah ((Gr.refl w).alloc _)) _ _ z,ir.fL (ag.ah ((Gr.refl w).alloc _)) _ _ B⟩
theorem sW{N:Nat}{w:aJ}(a:ByteArray)(b:N<w.heap.size)(T:ez):iN N (w.alloc (.cells #[.string a] T)) (.slice (some ⟨w.heap.size,0,none⟩) 1 1) [a]:=by
 refine⟨_,1,w.heap.size,rfl,fun _=>⟨rfl,b,bA _⟩,fun i hi=>?_⟩;obtain rfl:i=0:=by simp at hi;omega
 rw[ak]
 rfl
theorem Eb{N:Nat}{w:aJ}(a b:ByteArray)(q:N<w.heap.size)(T:ez):iN N (w.alloc (.cells #[.string a,.string b] T)) (.slice (some ⟨w.heap.size,0,none⟩) 2 2) [a,b]:=by
 refine⟨_,2,w.heap.size,rfl,fun _=>⟨rfl,q,bA _⟩,fun i hi=>?_⟩;rw[ak];rcases(show i=0\/i=1 by simp at hi;omega)with rfl|rfl<;>rfl
def mJ(N:Nat)(w:aJ)(l:List ByteArray)(bad:Int):Prop:=oy N w l/\w.cell? ⟨N,1,none⟩=some (.int .i64 bad)/\w.frozen? ⟨N,1,none⟩=false
theorem mJ.gr{N:Nat}{w w':aJ}{l:List ByteArray}{bad:Int}(h:mJ N w l bad)(g:Gr w w'):mJ N w' l bad:=⟨h.1.gr g,g.keeps h.2.1,(g.frozen 1 (ad h.2.1)).trans h.2.2⟩
theorem fx(N:Nat)(l:List ByteArray)(G:l.length<=1000)(w:aJ)(h:mJ N w l 0):bj prog 130 #[.pointer (some ⟨N,0,none⟩)] w fun e q=>e=.returned (.string (aW l))/\q=w:=by
 obtain⟨⟨H,c,b,D,I,J,s,z,y,L⟩,M,O⟩:=h;cases l with
 |nil=>
  clear s z y;go_enter g6,fA;go_wp2_with fail
  go_ret;exact⟨rfl,rfl⟩
 |cons a t=>
  obtain rfl:=s (by simp);have B:=y 0 (by simp);simp only[bB,cF]at B;have Q:((((a::t).length:Nat):Int)==0)=false:=by rw[az];intro h;have:=beq_iff_eq.1 h;simp at this;omega
  have S:0<(a::t).length:=by simp
  show bj _ _ _ _ fun e q=>e=.returned (.string a)/\q=w;generalize(a::t).length=m at*;clear s z y;go_enter g6,fA;go_wp2_with fail
  go_ret;exact⟨rfl,rfl⟩
theorem rL(N:Nat)(l:List ByteArray)(bad:Int)(w:aJ)(h:mJ N w l bad)(q:bad≠0):bj prog 130 #[.pointer (some ⟨N,0,none⟩)] w fun e s=>e=.returned (.string ⟨#[]⟩)/\s=w:=by
 obtain⟨⟨J,c,b,H,L,M,y,z,B,O⟩,Q,S⟩:=h;have I:(bad !=0)=true:=by simpa using q
 clear y z B;by_cases D:l.length=0
 ·have G:((l.length:Int)==0)=true:=by simp[D]
  go_enter g6,fA;go_wp2_with fail
  go_ret;exact⟨rfl,rfl⟩
 have G:((l.length:Int)==0)=false:=by rw[az];intro h;have:=beq_iff_eq.1 h;omega
 go_enter g6,fA;go_wp2_with fail
 go_ret;exact⟨rfl,rfl⟩
theorem cQ(N:Nat)(a:ByteArray)(t:List ByteArray)(G:(a::t).length<=1000)(w:aJ)(h:mJ N w (a::t) 0):bj prog 75 #[.pointer (some ⟨N,0,none⟩),.string a] w fun e y=>e=.returned (.bool true)/\mJ N y t 0/\gO N w y:=by
 have hn:=fx N (a::t) G w h;rw[show aW (a::t)=a from rfl]at hn;obtain⟨z,H,I⟩:=h;obtain⟨L,c,b,B,M,O,Q,D⟩:=z.rest;have J:=ae D;have q:=(bv w ⟨N,0,none⟩ ⟨N,1,none⟩ (.slice b t.length B) (by simp)).trans H;have s:(w.setCell ⟨N,0,none⟩ (.slice b t.length B)).frozen? ⟨N,1,none⟩=false:=by rw[bX];exact I
 clear z D;go_enter iT,iu;go_wp2_with(go_at_call 130;refine hn.mono ?_;rintro e S ⟨rfl,rfl⟩)
 go_ret;exact⟨rfl,⟨J.out,q,s⟩,ag.setCell _ _ rfl⟩
theorem gX(N:Nat)(l:List ByteArray)(s:ByteArray)(b:l.length<=1000)(w:aJ)(h:mJ N w l 0)(hs:aW l≠s):bj prog 75 #[.pointer (some ⟨N,0,none⟩),.string s] w fun e q=>e=.returned (.bool false)/\q=w:=by
 have hn:=fx N l b w h;generalize aW l=a at*;have y:(a.toList==s.toList)=false:=by
  rw[az];intro h;exact hs (bE (by rw[beq_iff_eq,aQ,aQ]at h;exact h))
 clear h hs;go_enter iT,iu;go_wp2_with(go_at_call 130;refine hn.mono ?_;rintro e z ⟨rfl,rfl⟩)
 go_ret;exact⟨rfl,rfl⟩
theorem xx(N:Nat)(l:List ByteArray)(bad:Int)(s:ByteArray)(w:aJ)(h:mJ N w l bad)(q:bad≠0)(hs:s≠gG):bj prog 75 #[.pointer (some ⟨N,0,none⟩),.string s] w fun e z=>e=.returned (.bool false)/\z=w:=by
 have hn:=rL N l bad w h q;have b:s.toList.isEmpty=false:=by rw[yK];simpa using hs
 have y:(([]:List UInt8)==s.toList)=false:=by
  rw[az];intro h;rw[<-beq_iff_eq.1 h]at b;cases b
 clear h hs;go_enter iT,iu;go_wp2_with(go_at_call 130;refine hn.mono ?_;rintro e B ⟨rfl,rfl⟩)
 go_ret;exact⟨rfl,rfl⟩
def sX(bad e:Int):Int:=if bad=0 then e else bad
theorem mJ.note{N:Nat}{w:aJ}{l:List ByteArray}{bad e:Int}(h:mJ N w l bad):mJ N (w.setCell ⟨N,1,none⟩ (.int .i64 e)) l e:=by
 obtain⟨⟨s,c,b,q,y,z,B,D,G,H⟩,I,J⟩:=h;refine⟨⟨s,c,b,q,(bv _ _ _ _ (by simp)).trans y,z,B,D,fun i hi=>(bv _ _ _ _ (by simp)).trans (G i hi),by rw[bX];exact H⟩,cg _ _ _ I,by rw[bX];exact J⟩
theorem jS(N:Nat)(l:List ByteArray)(bad e:Int)(w:aJ)(h:mJ N w l bad):bj prog 29 #[.pointer (some ⟨N,0,none⟩),.int .i64 e] w fun x q=>x=.returned (.tuple #[])/\mJ N q l (sX bad e)/\gO N w q:=by
 have H:=ae h;have y:=h.2.1;have z:=h.2.2;unfold sX;clear h;by_cases b:bad=0
 ·subst b;go_enter func29,ntmps29;go_wp2_with fail
  go_end0;exact⟨rfl,H.out.note,ag.setCell _ _ rfl⟩
 have s:(bad==0)=false:=by simpa using b
 rw[if_neg b];go_enter func29,ntmps29;go_wp2_with fail
 go_end0;exact⟨rfl,H.out,ag.refl _ _⟩
theorem lp(N:Nat)(s a:ByteArray)(hs:s.size<=1000)(h:aD s=[a])(w:aJ):bj prog 181 #[.pointer (some ⟨N,0,none⟩),.string s] w (ar w (.string a)):=by
 have y:=sH s (by omega) w;rw[h]at y;clear h;go_enter func181,ntmps181;go_wp2_with fail
 refine y.mono ?_;rintro e D ⟨v,rfl,q,B⟩;obtain⟨G,c,b,rfl,ha,z⟩:=fk q;obtain rfl:=ha (by simp);have hc:=z 0 (by simp);simp only[bB,cF]at hc;clear ha z q;go_wp2_with fail
 go_ret;exact ar.mk rfl B
theorem Bo(N:Nat)(l:List ByteArray)(s:ByteArray)(hs:s.size<=1000)(h:∀a,aD s≠[a])(w:aJ)(hA:mJ N w l 0):bj prog 181 #[.pointer (some ⟨N,0,none⟩),.string s] w fun e G=>e=.returned (.string ⟨#[]⟩)/\mJ N G l 3/\gO N w G:=by
 have y:=sH s (by omega) w;have I:=ae hA;generalize aD s=ws at*;have L:(((ws.length:Nat):Int) !=1)=true:=by
  rw[bne_iff_ne];intro e
  match ws,h with
  |[a],J=>exact J a rfl
  |[],_=>simp at e
  |_::_::_,_=>simp at e;omega
 clear h hA;go_enter func181,ntmps181;go_wp2_with fail
 refine y.mono ?_;rintro e M ⟨v,rfl,q,H⟩;obtain⟨O,c,b,rfl,ha,z⟩:=fk q;clear ha z q;go_wp2_with(go_at_call 29;refine(jS N l 0 3 _ (I.out.gr H)).mono ?_;rintro e Q ⟨rfl,B,D⟩)
 go_ret;exact⟨rfl,B,(ag.ah H).trans D⟩
def gQ(N:Nat)(w:aJ)(R:Rd)(e:fy)(w':aJ):Prop:=
 match R with
 | .ok q r=>∃b,e=.returned (.pointer (some ⟨b,0,none⟩))/\gv N w' q b/\oy N w' r/\gO N w w'
 | .bad n=>e=dI n/\gO N w w'
theorem fP.fL{N:Nat}{w w':aJ}(h:fP w)(g:gO N w w')(b:0≠N):fP w':=by
 have q:=h.lt;obtain⟨t,s,y⟩:=h;exact⟨t,s,by rw[g.block q b];exact y⟩
def oB(N:Nat)(w:aJ)(l:List ByteArray):Prop:=oy N w l/\l.length<=1000/\(∀p∈l,rH p/\p.size<=1000)/\fP w/\0≠N
def Ec(w:aJ)(ws:List ByteArray)(e:fy)(w':aJ):Prop:=
 match ws with
 |[a]=>ar w (.string a) e w'
 |_=>e=dI 3/\Gr w w'
theorem LZ(s:ByteArray)(hs:s.size<=1000)(w:aJ)(H:fP w):bj prog 187 #[.string s] w (Ec w (aD s)):=by
 have B:=yr s (by omega) w H;generalize aD s=ws at*;have G:ws.length=1\/ws.length≠1:=by omega
 rcases G with I|I
 ·match ws,I with
  |[a],_=>
   clear H;go_enter func187,ntmps187;go_wp2_with fail
   refine B.mono ?_;rintro e L ⟨v,rfl,q,J⟩;obtain⟨M,c,b,rfl,ha,y⟩:=fk q;obtain rfl:=ha (by simp);have hc:=y 0 (by simp);simp only[bB,cF]at hc;clear ha y q;go_wp2_with fail
   go_ret;exact ar.mk rfl J
 have D:∀e z,(e=dI 3/\Gr w z)->Ec w ws e z:=fun e z h=>by
  match ws,I with
  |[],_=>exact h
  |[a],O=>exact absurd rfl O
  |_::_::_,_=>exact h
 refine Calls.mono (R:=fun e z=>e=dI 3/\Gr w z) ?_ D;clear D;have Q:(((ws.length:Nat):Int) !=1)=true:=by rw[bne_iff_ne];omega
 clear H;go_enter func187,ntmps187;go_wp2_with fail
 refine B.mono ?_;rintro e L ⟨v,rfl,q,J⟩;obtain⟨M,c,b,rfl,ha,y⟩:=fk q;clear ha y q;go_wp2_with(go_at_call 34;refine(lV 3 _).mono ?_;rintro e S ⟨rfl,rfl⟩;unfold dI)
 exact⟨rfl,rfl,J⟩
theorem RY(s:ByteArray)(r:List UInt8)(h:s.data.toList=34::r)(W:aJ):bj prog 185 #[.string s,.string ⟨#[34]⟩] W fun e q=>e=.returned (.tuple #[.string (je r),.bool true])/\q=W:=by
 have b:=Tryz.strings_CutPrefix s ⟨#[34]⟩ W;have y:dh s.data.toList (⟨#[34]⟩:ByteArray).data.toList=true:=by rw[h];simp[dh]
 have z:da s.data.toList (⟨#[34]⟩:ByteArray).data.toList=r:=by rw[h];simp[da,dh]
 rw[y,z]at b;exact b
theorem pO(s:ByteArray)(c:UInt8)(r:List UInt8)(h:s.data.toList=c::r)(hc:c≠34)(W:aJ):bj prog 185 #[.string s,.string ⟨#[34]⟩] W fun e y=>e=.returned (.tuple #[.string s,.bool false])/\y=W:=by
 have b:=Tryz.strings_CutPrefix s ⟨#[34]⟩ W;have q:dh s.data.toList (⟨#[34]⟩:ByteArray).data.toList=false:=by
  rw[h];show((34:UInt8)==c&&([]:List UInt8).isPrefixOf r)=false;rw[show((34:UInt8)==c)=false from by simpa using fun e=>hc (Eq.symm e)]
  rfl
 have z:da s.data.toList (⟨#[34]⟩:ByteArray).data.toList=s.data.toList:=by
  unfold da;rw[q]
  rfl
 rw[q,z]at b;exact b
def nG(s:ByteArray):Prop:=s.toList.isEmpty=false/\(s.toList==[41])=false/\(s.toList==[42])=false/\(s.toList==[65,78,68])=false/\(s.toList==[79,82])=false/\(s.toList==[78,79,84])=false/\(s.toList==[78,69,65,82])=false
theorem jC{s:ByteArray}{k:List UInt8}(h:s≠je k):(s.toList==k)=false:=by
 rw[az];intro e;exact h ((eu s k).1 (beq_iff_eq.1 e))
theorem L0{s:ByteArray}(h:¬(s=gG\/s=lT\/s=jQ\/s=iC\/s=Fm\/s=f_\/s=pD)):nG s:=by
 simp only[not_or]at h;obtain⟨b,q,y,z,B,D,G⟩:=h;exact⟨by rw[yK];simpa using b,jC q,jC y,jC z,jC B,jC D,jC G⟩
theorem RZ(N d:Nat)(hd:12<d)(w:aJ):bj prog 135 #[.pointer (some ⟨N,0,none⟩),.int .i64 d] w (gQ N w (.bad 4)):=by
 have b:decide ((12:Int)<(d:Int))=true:=by simp;omega
 go_enter iF,hO;go_wp2_with(go_at_call 34;refine(lV 4 _).mono ?_;rintro e q ⟨rfl,rfl⟩;unfold dI)
 exact⟨rfl,rfl,ag.refl _ _⟩
theorem R1(N d:Nat)(hd:d<=12)(l:List ByteArray)(w:aJ)(h:oB N w l)(hs:aW l=gG\/aW l=lT\/aW l=jQ\/aW l=iC\/aW l=Fm\/aW l=f_\/aW l=pD):
  bj prog 135 #[.pointer (some ⟨N,0,none⟩),.int .i64 d] w (gQ N w (.bad 3)):=by
 obtain⟨z,B,q,D,G⟩:=h;have y:=gJ N l B w z;have H:decide ((12:Int)<(d:Int))=false:=by simp;omega
 clear z q D;generalize aW l=s at*;rcases hs with h|h|h|h|h|h|h
 all_goals
  first
  |have b:=(eu s ([]:List UInt8)).2 h
  |have b:=(eu s [41]).2 h
  |have b:=(eu s [42]).2 h
  |have b:=(eu s [65,78,68]).2 h
  |have b:=(eu s [79,82]).2 h
  |have b:=(eu s [78,79,84]).2 h
  |have b:=(eu s [78,69,65,82]).2 h
  clear h;go_enter iF,hO;go_wp2_with(first|(go_at_call 33;refine y.mono ?_;rintro e I ⟨rfl,rfl⟩)|(go_at_call 34;refine(lV 3 _).mono ?_;rintro e J ⟨rfl,rfl⟩;unfold dI))
  exact⟨rfl,rfl,ag.refl _ _⟩
theorem OD(N d:Nat)(hd:d<=12)(s:ByteArray)(t:List ByteArray)(w:aJ)(h:oB N w (s::t))(hf:nG s)(ho:s≠jP)(r:List UInt8)(S:s.data.toList=34::r):
  bj prog 135 #[.pointer (some ⟨N,0,none⟩),.int .i64 d] w (gQ N w (if aD (je r)=[]then .bad 3 else .ok (.leaf 1 (aD (je r)) 0) t)):=by
 obtain⟨B,hl,D,hE,hN⟩:=h;have G:=gJ N (s::t) hl w B;have V:=eF N (s::t) ⟨#[40]⟩ hl w B ho;have gd:decide ((12:Int)<(d:Int))=false:=by simp;omega
 have b6:=(D s (by simp)).2;obtain⟨ao,c,H,c',p1,p2,p3,p4⟩:=B.rest;have Y:=RY s r S;have I:gO N w (w.setCell ⟨N,0,none⟩ (.slice H t.length c')):=ag.setCell _ _ rfl;have b7:(je r).size<=1000:=by
  have:(je r).size+1=s.size:=by rw[size_data,size_data,S,gu];rfl
  omega
 have J:=yr (je r) (by omega) _ (hE.fL I hN);have Z:=ae p4;obtain⟨n0,n1,n2,n3,n4,n5,n6⟩:=hf;rw[show aW (s::t)=s from rfl]at G;clear B D hE S p4;generalize aD (je r)=ws at*;generalize hR:(if ws=[]then Rd.bad 3 else Rd.ok (Qy.leaf 1 ws 0) t)=R;have HR:=ae hR;clear hR;go_enter iF,hO;go_wp2_with(first|(go_at_call 33;refine G.mono ?_;rintro e U ⟨rfl,rfl⟩)|(go_at_call 78;refine V.mono ?_;rintro e U ⟨rfl,rfl⟩)|(go_at_call 185;refine(Y _).mono ?_;rintro e U ⟨rfl,rfl⟩))
 refine J.mono ?_;rintro e y ⟨v,rfl,q,z⟩;have L:N<(U.setCell ⟨N,0,none⟩ (.slice H t.length c')).heap.size:=by
  have:=ad p1;simpa using this
 have M:=yD q L;obtain⟨a0,c2,b2,rfl,a1,Q⟩:=fk q;have HW:=ae M;have O:=I.trans (ag.ah z);clear a1 Q q M J;by_cases b:ws=[]
 ·have hb:(((ws.length:Nat):Int)==0)=true:=by rw[b];rfl
  have e:=HR.out;rw[if_pos b]at e;subst e;clear b;go_wp2_with(go_at_call 34;refine(lV 3 _).mono ?_;rintro e w6 ⟨rfl,rfl⟩;unfold dI)
  exact⟨rfl,rfl,O⟩
 have hb:(((ws.length:Nat):Int)==0)=false:=by
  rw[az];intro h;have:=beq_iff_eq.1 h;exact b (List.length_eq_zero_iff.1 (by omega))
 have e:=HR.out;rw[if_neg b]at e;subst e;clear b;go_wp2_with fail
 go_ret;have a2:N<y.heap.size:=Nat.lt_of_lt_of_le L z.size;have a3:gO N y (y.alloc (.cells #[.int .i64 1,.slice a0 ws.length c2,.int .i64 0,.pointer none,.pointer none] 116)):=ag.ah ((Gr.refl y).alloc _);exact⟨y.heap.size,rfl,vF 1 0 HW.out a2 _,(Z.out.gr z).gr ((Gr.refl y).alloc _),O.trans a3⟩
