/-
  Part 9 of the proof.
-/
import Derived.Shelf.SlSortCmp.NoneTotal
import Derived.Test.YtldmhjbdahjhdaaGreatDoorZa6
open Go.Proofs.Tryz
open Go.World renaming cell?_alloc_new->ae,cell?_setCell_other->aU,cell?_setCell_same->bQ,size_alloc->bT,frozen?_setCell->cg,cell?_drew->di
open List renaming length_cons->ak,length_append->aJ,take_of_length_le->aV,take_succ_eq_append_getElem->bt,mem_cons->bv,getElem?_eq_getElem->bz,length_set->bB,pairwise_cons->bC,mem_cons_self->bF,getD_eq_getElem?_getD->bM,eq_nil_of_length_eq_zero->bW,length_drop->co,length_nil->cK,append_assoc->da,replicate->de,mem_cons_of_mem->dJ,flatMap_append->dT,pairwise_iff_getElem->ek,drop_eq_getElem_cons->el,filter_congr->es,cons_append->eB,getLast?_cons_cons->eH,filter_cons->eV,mem_range->fy,flatMap_cons->hO,all_eq_true->ib,length_take->iF,range->m0
open Go.Lib renaming hid->ap,extract_data->cl,compareInt->cL,wpList_append_run->fl,frozen_of_heap->gc
open Go renaming wp_region_quiet_below->az,World->aQ,cell_regrown->aX,wpQuiet_nil->bc,Value->be,bodyPost_ret->bA,Calls->cs,results->dF,TypeId->kr,info_parts->m2,Operand->m7
open Int renaming mul_comm->aS,cast_ofNat_Int->bX,natCast_add->bZ,natCast_mul->cF
open Nat renaming lt_of_lt_of_le->bh,mod_two_eq_zero_or_one->bj,le_refl->bu,and_two_pow_sub_one_eq_mod->dr,reducePow->dD,one_mul->dQ,pow_succ->ea,lt_succ_iff_lt_or_eq->ew,zero_add->eY,add_zero->g4,le_trans->g5,zero_le->iP,add_assoc->jE,le_of_eq->ks,mul_add->md,pow_mul->mm,mod_lt->m1
open Option.some renaming inj->bP,injEq->ch
open Go.Proofs.Tryz renaming results123->b_,underlying57->dg,results70->dh,underlying3->fn,underlying127->fM,underlying194->fS,zeroValue127->gs,zeroValue194->gw,underlying245->jh,underlying357->ji,underlying361->jk,prog->jT,sizeOf127->jU,sizeOf194->jZ,zeroValue245->kk,zeroValue357->ko,zeroValue361->kq,underlying0->kx,underlying4->kE,underlying5->kI,isAgg127->kM,isAgg194->k2,zeroValue0->mN,zeroValue3->mO,zeroValue4->mQ,zeroValue5->mV,zeroValue9->mY,sizeOf3->m6,ntmps98->m8,isAgg3->nl,func71->nI,func98->nJ
open Prod.mk renaming injEq->cf
open Bool renaming and_eq_true->cj,eq_false_iff->cO,false_eq_true->ej,or_eq_true->iQ,not_false->iR,not_true->js,false_or->jH
open Option renaming map_some->cD,bind_some->ez,map_congr->eT,map_map->fA
open BitVec renaming ofInt->cW,toNat_and->iu
open Go.Sort renaming ahead->dA,alloc_eq_grow->eh,putRowK->fe,grow->fI,grow_grow->iU,mapBlock->i6,putRow->m3
open Go.IntKind renaming i64->dS,wrap_i64->eA,u8->fT
open Array renaming length_toList->dU,size_append->hI,ext'->m4
open Go.ByteArray renaming toList_eq->dZ
open UInt8 renaming toNat_lt->eb
open List.Pairwise renaming nil->em
open Go.Builtin renaming zeroCells->en,clear_->i7,append_->ne
open Go.World.ownsRow renaming cells->fK
open Go.Shelf renaming Ren->gf
open Go.BinOp renaming and->ik,or->lr
open Go.Value renaming ownBlock->iT,cells->l_,int->na
open Go.Proofs.LaysGg renaming n35->lc,n36->lq,n6->mp
open Go.Sort.HoldsK renaming cell->lW
open Function renaming comp_apply->ms
open Go.Proofs renaming sortWorldK->m5
open Go.Program renaming fieldsOf->m9
open List.Perm renaming refl->nK
set_option maxRecDepth 100000
set_option maxHeartbeats 100000000
set_option linter.all false
namespace Go.Proofs
open Go.Shelf
theorem bk{q:Type}{o:Option q}{a b:q}(h:o=some a)(e:a=b):o=some b:=e▸h
def Tryz.tF:gf:=⟨fun|6=>164|10=>174|11=>220|12=>221|13=>107|14=>222|24=>162|25=>163|26=>271|27=>272|28=>273|29=>274|30=>275|31=>276|32=>277|33=>278|34=>296|35=>297|36=>298|37=>299|38=>300|39=>305|n=>n,fun|20=>20|26=>249|35=>255|0=>0|37=>295|3=>3|41=>127|44=>299|49=>245|51=>194|4=>4|54=>338|53=>337|58=>203|5=>5|9=>9|60=>357|64=>293|66=>361|67=>334|17=>17|32=>252|33=>253|82=>379|12=>12|75=>374|76=>260|77=>375|78=>324|79=>376|80=>377|n=>n,fun|n=>n⟩
theorem Tryz.Hz:mp jT Tryz.tF:={
 mixed:=by kernel_rfl
 f6:=bk func164 (by kernel_rfl)
 f10:=bk func174 (by kernel_rfl)
 f11:=bk func220 (by kernel_rfl)
 f12:=bk func221 (by kernel_rfl)
 f13:=bk func107 (by kernel_rfl)
 f14:=bk func222 (by kernel_rfl)
 f24:=bk func162 (by kernel_rfl)
 f25:=bk func163 (by kernel_rfl)
 f26:=bk func271 (by kernel_rfl)
 f27:=bk func272 (by kernel_rfl)
 f28:=bk func273 (by kernel_rfl)
 f29:=bk func274 (by kernel_rfl)
 f30:=bk func275 (by kernel_rfl)
 f31:=bk func276 (by kernel_rfl)
 f32:=bk func277 (by kernel_rfl)
 f33:=bk func278 (by kernel_rfl)
 f34:=bk func296 (by kernel_rfl)
 f35:=bk func297 (by kernel_rfl)
 f36:=bk func298 (by kernel_rfl)
 f37:=bk func299 (by kernel_rfl)
 f38:=bk func300 (by kernel_rfl)
 f39:=bk func305 (by kernel_rfl)
 t0:=kx
 a0:=isAgg0
 z0:=sizeOf0
 v0:=mN
 i0:=by kernel_rfl
 t3:=fn
 a3:=nl
 z3:=m6
 v3:=mO
 i3:=by kernel_rfl
 t4:=kE
 a4:=isAgg4
 z4:=sizeOf4
 v4:=mQ
 i4:=by kernel_rfl
 t5:=kI
 a5:=isAgg5
 z5:=sizeOf5
 v5:=mV
 i5:=by kernel_rfl
 t9:=underlying9
 a9:=isAgg9
 z9:=sizeOf9
 v9:=mY
 i9:=by kernel_rfl
 t12:=underlying12
 a12:=isAgg12
 z12:=sizeOf12
 v12:=zeroValue12
 i12:=by kernel_rfl
 t17:=underlying17
 a17:=isAgg17
 z17:=sizeOf17
 v17:=zeroValue17
 i17:=by kernel_rfl
 t20:=underlying20
 a20:=isAgg20
 z20:=sizeOf20
 v20:=zeroValue20
 i20:=by kernel_rfl
 t26:=underlying249
 a26:=isAgg249
 z26:=sizeOf249
 v26:=zeroValue249
 i26:=by kernel_rfl
 t32:=underlying252
 a32:=isAgg252
 z32:=sizeOf252
 v32:=zeroValue252
 i32:=by kernel_rfl
 t33:=underlying253
 a33:=isAgg253
 z33:=sizeOf253
 v33:=zeroValue253
 i33:=by kernel_rfl
 t35:=underlying255
 a35:=isAgg255
 z35:=sizeOf255
 v35:=zeroValue255
 i35:=by kernel_rfl
 t37:=underlying295
 a37:=isAgg295
 z37:=sizeOf295
 v37:=zeroValue295
 i37:=by kernel_rfl
 t41:=fM
 a41:=kM
 z41:=jU
 v41:=gs
 i41:=by kernel_rfl
 t44:=underlying299
 a44:=isAgg299
 z44:=sizeOf299
 v44:=zeroValue299
 i44:=by kernel_rfl
 t49:=jh
 a49:=isAgg245
 z49:=sizeOf245
 v49:=kk
 i49:=by kernel_rfl
 t51:=fS
 a51:=k2
 z51:=jZ
 v51:=gw
 i51:=by kernel_rfl
 t53:=underlying337
 a53:=isAgg337
 z53:=sizeOf337
 v53:=zeroValue337
 i53:=by kernel_rfl
 t54:=underlying338
 a54:=isAgg338
 z54:=sizeOf338
 v54:=zeroValue338
 i54:=by kernel_rfl
 t58:=underlying203
 a58:=isAgg203
 z58:=sizeOf203
 v58:=zeroValue203
 i58:=by kernel_rfl
 t60:=ji
 a60:=isAgg357
 z60:=sizeOf357
 v60:=ko
 i60:=by kernel_rfl
 t64:=underlying293
 a64:=isAgg293
 z64:=sizeOf293
 v64:=zeroValue293
 i64:=by kernel_rfl
 t66:=jk
 a66:=isAgg361
 z66:=sizeOf361
 v66:=kq
 i66:=by kernel_rfl
 t67:=underlying334
 a67:=isAgg334
 z67:=sizeOf334
 v67:=zeroValue334
 i67:=by kernel_rfl
 t75:=underlying374
 a75:=isAgg374
 z75:=sizeOf374
 v75:=zeroValue374
 i75:=by kernel_rfl
 t76:=underlying260
 a76:=isAgg260
 z76:=sizeOf260
 v76:=zeroValue260
 i76:=by kernel_rfl
 t77:=underlying375
 a77:=isAgg375
 z77:=sizeOf375
 v77:=zeroValue375
 i77:=by kernel_rfl
 t78:=underlying324
 a78:=isAgg324
 z78:=sizeOf324
 v78:=zeroValue324
 i78:=by kernel_rfl
 t79:=underlying376
 a79:=isAgg376
 z79:=sizeOf376
 v79:=zeroValue376
 i79:=by kernel_rfl
 t80:=underlying377
 a80:=isAgg377
 z80:=sizeOf377
 v80:=zeroValue377
 i80:=by kernel_rfl
 t82:=underlying379
 a82:=isAgg379
 z82:=sizeOf379
 v82:=zeroValue379
 i82:=by kernel_rfl}
def Tryz.Mp:gf:=⟨fun|35=>297|13=>107|24=>162|25=>163|n=>n,fun|3=>3|41=>127|49=>245|51=>194|4=>4|5=>5|9=>9|n=>n,fun|n=>n⟩
theorem Tryz.WK:lc jT Tryz.Mp:={
 mixed:=by kernel_rfl
 f13:=bk func107 (by kernel_rfl)
 f24:=bk func162 (by kernel_rfl)
 f25:=bk func163 (by kernel_rfl)
 f35:=bk func297 (by kernel_rfl)
 t3:=fn
 a3:=nl
 z3:=m6
 v3:=mO
 i3:=by kernel_rfl
 t4:=kE
 a4:=isAgg4
 z4:=sizeOf4
 v4:=mQ
 i4:=by kernel_rfl
 t5:=kI
 a5:=isAgg5
 z5:=sizeOf5
 v5:=mV
 i5:=by kernel_rfl
 t9:=underlying9
 a9:=isAgg9
 z9:=sizeOf9
 v9:=mY
 i9:=by kernel_rfl
 t41:=fM
 a41:=kM
 z41:=jU
 v41:=gs
 i41:=by kernel_rfl
 t49:=jh
 a49:=isAgg245
 z49:=sizeOf245
 v49:=kk
 i49:=by kernel_rfl
 t51:=fS
 a51:=k2
 z51:=jZ
 v51:=gw
 i51:=by kernel_rfl}
def Tryz.P5:gf:=⟨fun|36=>298|n=>n,fun|66=>361|51=>194|0=>0|60=>357|41=>127|n=>n,fun|n=>n⟩
theorem Tryz.XU:lq jT Tryz.P5:={
 mixed:=by kernel_rfl
 f36:=bk func298 (by kernel_rfl)
 t0:=kx
 a0:=isAgg0
 z0:=sizeOf0
 v0:=mN
 i0:=by kernel_rfl
 t41:=fM
 a41:=kM
 z41:=jU
 v41:=gs
 i41:=by kernel_rfl
 t51:=fS
 a51:=k2
 z51:=jZ
 v51:=gw
 i51:=by kernel_rfl
 t60:=ji
 a60:=isAgg357
 z60:=sizeOf357
 v60:=ko
 i60:=by kernel_rfl
 t66:=jk
 a66:=isAgg361
 z66:=sizeOf361
 v66:=kq
 i66:=by kernel_rfl}
end Go.Proofs
namespace Go.Proofs.YtldmhjbdahjhdaaGreatDoor
section
open Go
abbrev aa:Type:=Int×Int
def aa.val(p:aa):be:=.agg #[.int .i64 p.1,.int .i64 p.2]
def af(a b:aa):Bool:=decide (a.1<b.1)||(a.1==b.1&&decide (a.2<b.2))
def iD(p:aa):Bool:=decide (1<=p.1)&&decide (p.1<=1073741824)&&decide (0<=p.2)&&decide (p.2<=1073741823)
def eq(l:List aa):Nat->aa
 |0=>(0,0)
 |k+1=>l.getD k (0,0)
def nj(l:List aa)(k:Nat):Bool:=iD (l.getD k (0,0))&&(k==0||af (eq l k) (l.getD k (0,0)))
def dG(l:List aa):Bool:=(m0 l.length).all (nj l)
def ic(n:Nat):List UInt8:=if n<128 then[n.toUInt8]else(128+n % 128).toUInt8::ic (n/128)
termination_by n
decreasing_by omega
def rs(a p:aa):List UInt8:=if p.1=a.1 then ic (2*(p.2-a.2)).toNat else ic (2*(p.1-a.1)+1).toNat++ic p.2.toNat
def zA(l:List aa)(k:Nat):List UInt8:=(m0 k).flatMap fun i=>rs (eq l i) (l.getD i (0,0))
def cT(l:List aa):List UInt8:=zA l l.length
theorem zB(l:List aa)(k:Nat):zA l (k+1)=zA l k++rs (eq l k) (l.getD k (0,0)):=by
 unfold zA;rw[List.range_succ,dT];simp
theorem eQ{l:List aa}{k:Nat}(b:k<l.length)(h:nj l k=false):dG l=false:=by
 unfold dG;rw[List.all_eq_false];exact⟨k,fy.2 b,by rw[h];simp⟩
theorem qJ{l:List aa}(h:∀k,k<l.length->nj l k=true):dG l=true:=by
 unfold dG;rw[ib];intro k b;exact h k (fy.1 b)
theorem nk{l:List aa}(h:dG l=true)(k:Nat)(b:k<l.length):nj l k=true:=by
 unfold dG at h;rw[ib]at h;exact h k (fy.2 b)
theorem iM{p:aa}:iD p=true↔1<=p.1/\p.1<=1073741824/\0<=p.2/\p.2<=1073741823:=by
 unfold iD;simp[and_assoc]
theorem eD{a b:aa}:af a b=true↔a.1<b.1\/a.1=b.1/\a.2<b.2:=by
 unfold af;simp
theorem io(n:Nat)(h:n<128):ic n=[n.toUInt8]:=by rw[ic,if_pos h]
theorem qt(n:Nat)(h:¬n<128):ic n=(128+n % 128).toUInt8::ic (n/128):=by rw[ic,if_neg h]
theorem nm:∀(j n:Nat),n<128^(j+1)->(ic n).length<=j+1:=by
 intro j
 induction j with
 |zero=>intro n h;rw[io n (by simpa using h)];simp
 |succ j q=>
  intro n h;by_cases b:n<128
  ·rw[io n b];simp
  rw[qt n b,ak];have:=q (n/128) (by rw[Nat.div_lt_iff_lt_mul (by omega)];rw[ea]at h;exact h);omega
theorem um{l:List aa}{k:Nat}(y:k<l.length)(h:∀i,i<=k->nj l i=true):
  iD (l.getD k (0,0))=true/\0<=(eq l k).1/\(eq l k).1<=1073741824/\0<=(eq l k).2/\(eq l k).2<=1073741823/\
   (eq l k).1<=(l.getD k (0,0)).1/\((eq l k).1=(l.getD k (0,0)).1->(eq l k).2<=(l.getD k (0,0)).2):=by
 have b:=h k (bu _);unfold nj at b;rw[cj,iM,iQ]at b;cases k with
 |zero=>
  have e:eq l 0=(0,0):=rfl;rw[e,iM];refine⟨b.1,?_⟩;simp only;omega
 |succ k=>
  have q:=h k (by omega);unfold nj at q;rw[cj,iM]at q;have s:af (eq l (k+1)) (l.getD (k+1) (0,0))=true:=by
   rcases b.2 with h|h
   ·simp at h
   exact h
  rw[eD]at s;have e:eq l (k+1)=l.getD k (0,0):=rfl;rw[e]at s⊢;rw[iM];refine⟨b.1,by omega,by omega,by omega,by omega,by omega,by omega⟩
theorem Q1{a p:aa}(b:p.1-a.1<=1073741824)(q:p.2-a.2<=1073741824)(s:p.2<=1073741824):(rs a p).length<=10:=by
 unfold rs;have e:128^(4+1)=34359738368:=by decide
 split
 ·have:=nm 4 (2*(p.2-a.2)).toNat (by rw[e];omega);omega
 have:=nm 4 (2*(p.1-a.1)+1).toNat (by rw[e];omega);have:=nm 4 p.2.toNat (by rw[e];omega);rw[aJ];omega
theorem TD{l:List aa}:∀k,k<=l.length->(∀i,i<k->nj l i=true)->(zA l k).length<=10*k:=by
 intro k
 induction k with
 |zero=>intro _ _;simp[zA]
 |succ k b=>
  intro s h;have y:=b (by omega) (fun i hi=>h i (by omega));have q:=um (l:=l) (k:=k) (by omega) (fun i hi=>h i (by omega));rw[iM]at q;have z:=Q1 (a:=eq l k) (p:=l.getD k (0,0)) (by omega) (by omega) (by omega);rw[zB,aJ];omega
def go:Nat->List UInt8->Option (Nat×List UInt8)
 |0,_=>none
 |_+1,[]=>none
 |k+1,c::r=>if c.toNat<128 then some (c.toNat,r)else(go k r).map fun x=>(c.toNat-128+128*x.1,x.2)
theorem yi:∀(k:Nat) (l r:List UInt8) (n:Nat),go k l=some (n,r)->r.length<l.length:=by
 intro k
 induction k with
 |zero=>intro l r n h;cases h
 |succ k s=>
  intro l r n h;cases l with
  |nil=>cases h
  |cons c t=>
   rw[go]at h;by_cases q:c.toNat<128
   ·rw[if_pos q]at h;simp only[ch,cf]at h;rw[<-h.2];simp
   rw[if_neg q]at h;cases b:go k t with
   |none=>rw[b]at h;cases h
   |some x=>
    rw[b]at h;simp only[cD,ch,cf]at h;have:=s t x.2 x.1 (by rw[b]);rw[<-h.2,ak];omega
theorem Lc:∀(k:Nat) (l r:List UInt8) (n:Nat),go k l=some (n,r)->n<128^k:=by
 intro k
 induction k with
 |zero=>intro l r n h;cases h
 |succ k s=>
  intro l r n h;cases l with
  |nil=>cases h
  |cons c t=>
   rw[go]at h;by_cases q:c.toNat<128
   ·rw[if_pos q]at h;simp only[ch,cf]at h;rw[ea];have:=Nat.pow_pos (n:=k) (show 0<128 by omega);omega
   rw[if_neg q]at h;cases b:go k t with
   |none=>rw[b]at h;cases h
   |some x=>
    rw[b]at h;simp only[cD,ch,cf]at h;have:=s t x.2 x.1 (by rw[b]);have y:=eb c;rw[ea];omega
def xd:Nat->List UInt8->Option (List Nat)
 |0,[]=>some []
 |0,_::_=>none
 |_+1,[]=>some []
 |n+1,c::s=>match go 5 (c::s)with
  |none=>none
  |some (v,r)=>(xd n r).map (v::·)
def sw(l:List UInt8):Option (List Nat):=xd l.length l
theorem Q2:∀(n m:Nat) (l:List UInt8),l.length<=n->l.length<=m->xd n l=xd m l:=by
 intro n
 induction n with
 |zero=>
  intro m l hn _;have:l=[]:=bW (by omega);subst this;cases m<;>rfl
 |succ n y=>
  intro m l hn q;cases l with
  |nil=>cases m<;>rfl
  |cons c s=>
   cases m with
   |zero=>simp at q
   |succ m=>
    simp only[xd];cases z:go 5 (c::s)with
    |none=>rfl
    |some p=>
     obtain⟨v,r⟩:=p;have b:=yi 5 _ _ _ z;simp only[ak]at b hn q;simp only;rw[y m r (by omega) (by omega)]
theorem Nv:sw []=some []:=rfl
theorem AJ{l:List UInt8}(b:l≠[])(h:go 5 l=none):sw l=none:=by
 cases l with
 |nil=>exact absurd rfl b
 |cons c s=>
  unfold sw;simp only[ak,xd,h]
theorem qu{l r:List UInt8}{v:Nat}(h:go 5 l=some (v,r)):sw l=(sw r).map (v::·):=by
 cases l with
 |nil=>cases h
 |cons c s=>
  have b:=yi 5 _ _ _ h;simp only[ak]at b;unfold sw;simp only[ak,xd,h];rw[Q2 s.length r.length r (by omega) (bu _)]
def kw:Nat->aa->List Nat->Option (List aa)
 |0,_,[]=>some []
 |0,_,_::_=>none
 |_+1,_,[]=>some []
 |f+1,a,n::r=>if n % 2=0 then(kw f (a.1,a.2+(n/2:Nat)) r).map ((a.1,a.2+(n/2:Nat))::·)
  else match r with
   |[]=>none
   |m::t=>(kw f (a.1+(n/2:Nat),(m:Int)) t).map ((a.1+(n/2:Nat),(m:Int))::·)
theorem Ld:∀(f g:Nat) (a:aa) (l:List Nat),l.length<=f->l.length<=g->kw f a l=kw g a l:=by
 intro f
 induction f with
 |zero=>
  intro g a l hf _;have:l=[]:=bW (by omega);subst this;cases g<;>rfl
 |succ f q=>
  intro g a l hf b;cases l with
  |nil=>cases g<;>rfl
  |cons n r=>
   cases g with
   |zero=>simp at b
   |succ g=>
    simp only[ak]at hf b;rw[kw.eq_def,kw.eq_def (g+1)];simp only;by_cases h:n % 2=0
    ·rw[if_pos h,if_pos h,q g _ r (by omega) (by omega)]
    rw[if_neg h,if_neg h];cases r with
    |nil=>rfl
    |cons m t=>
     simp only[ak]at hf b;simp only;rw[q g _ t (by omega) (by omega)]
def lF(a:aa)(l:List Nat):Option (List aa):=kw l.length a l
theorem EW(a:aa)(n:Nat)(r:List Nat)(h:n % 2=0):lF a (n::r)=(lF (a.1,a.2+(n/2:Nat)) r).map ((a.1,a.2+(n/2:Nat))::·):=by
 unfold lF;rw[ak,kw.eq_def];simp only[if_pos h]
theorem I6(a:aa)(n m:Nat)(r:List Nat)(h:¬n % 2=0):lF a (n::m::r)=(lF (a.1+(n/2:Nat),(m:Int)) r).map ((a.1+(n/2:Nat),(m:Int))::·):=by
 unfold lF;rw[ak,kw,if_neg h];simp only[ak];rw[Ld _ r.length _ r (by omega) (bu _)]
theorem I7(a:aa)(n:Nat)(h:¬n % 2=0):lF a [n]=none:=by
 unfold lF;rw[ak,kw.eq_def];simp only[if_neg h]
def lY(a:aa)(l:List UInt8):Option (List aa):=(sw l).bind (lF a)
theorem Le(a:aa):lY a []=some []:=rfl
theorem Q3{a:aa}{l:List UInt8}(b:l≠[])(h:go 5 l=none):lY a l=none:=by
 unfold lY;rw[AJ b h];rfl
theorem Gx{a:aa}{l r:List UInt8}{n:Nat}(h:go 5 l=some (n,r))(b:n % 2=0):lY a l=(lY (a.1,a.2+(n/2:Nat)) r).map ((a.1,a.2+(n/2:Nat))::·):=by
 unfold lY;rw[qu h];cases sw r with
 |none=>rfl
 |some x=>simp only[cD,ez];rw[EW a n x b]
theorem EX{a:aa}{l r:List UInt8}{n:Nat}(h:go 5 l=some (n,r))(q:¬n % 2=0)(s:go 5 r=none):lY a l=none:=by
 unfold lY;rw[qu h];by_cases b:r=[]
 ·rw[b,Nv];simp only[cD,ez];exact I7 a n q
 rw[AJ b s];rfl
theorem Lf{a:aa}{l r t:List UInt8}{n m:Nat}(h:go 5 l=some (n,r))(b:¬n % 2=0)(q:go 5 r=some (m,t)):lY a l=(lY (a.1+(n/2:Nat),(m:Int)) t).map ((a.1+(n/2:Nat),(m:Int))::·):=by
 unfold lY;rw[qu h,qu q];cases sw t with
 |none=>rfl
 |some x=>simp only[cD,ez];rw[I6 a n m x b]
def kQ(l:List UInt8):Option (List aa):=match lY (0,0) l with
 |none=>none
 |some x=>if dG x&&(cT x==l)then some x else none
end
section
open Go Go.RowKit
structure un{α:Type}(lt:α->α->Bool):Prop where
 irrefl:∀x,lt x x=false
 trans:∀x y z,lt x y=true->lt y z=true->lt x z=true
 TE:∀x y,lt x y=false->lt y x=false->x=y
def bU{b:Type}(lt:b->b->Bool)(l:List b):Prop:=l.Pairwise fun x y=>lt x y=true
def kG{b:Type}(lt:b->b->Bool)(l:List b):Prop:=l.Pairwise fun x y=>lt y x=false
def aq{q:Type}[DecidableEq q]:List q->List q
 |[]=>[]
 |[a]=>[a]
 |a::b::t=>if a=b then aq (b::t)else a::aq (b::t)
theorem jb{q:Type}[DecidableEq q](x:q):∀l:List q,x∈aq l↔x∈l
 |[]=>Iff.rfl
 |[a]=>Iff.rfl
 |a::b::t=>by
  have s:=jb x (b::t);unfold aq
  split
  ·rename_i h
   subst h;rw[s];simp
  rw[bv,s];exact bv.symm
theorem nR{s:Type}[DecidableEq s]{lt:s->s->Bool}(P:un lt):∀l:List s,kG lt l->bU lt (aq l)
 |[],_=>em
 |[a],_=>List.pairwise_singleton _ _
 |a::b::t,h=>by
  obtain⟨M,J⟩:=bC.1 h;have L:=nR P (b::t) J;unfold aq
  split
  ·exact L
  rename_i D
  refine bC.2 ⟨fun y O=>?_,L⟩;have G:y∈b::t:=(jb y (b::t)).1 O;have H:=M b bF;have q:lt a b=true:=by
   cases z:lt a b with
   |true=>rfl
   |false=>exact absurd (P.TE a b z H) D
  rcases bv.1 G with rfl|B
  ·exact q
  have I:=(bC.1 J).1 y B;cases z:lt b y with
  |true=>exact P.trans a b y q z
  |false=>
   have:=P.TE b y z I;subst this;exact q
theorem De{D:Type}{lt:D->D->Bool}(P:un lt):∀l m:List D,bU lt l->bU lt m->(∀x,x∈l↔x∈m)->l=m
 |[],[],_,_,_=>rfl
 |[],b::t,_,_,h=>absurd ((h b).2 bF) (by simp)
 |a::t,[],_,_,h=>absurd ((h a).1 bF) (by simp)
 |a::l,b::m,J,L,h=>by
  obtain⟨z,G⟩:=bC.1 J;obtain⟨B,H⟩:=bC.1 L;have I:a=b:=by
   rcases bv.1 ((h a).1 bF)with e|s
   ·exact e
   rcases bv.1 ((h b).2 bF)with e|M
   ·exact e.symm
   have q:=P.trans a b a (z b M) (B a s);rw[P.irrefl a]at q;cases q
  subst I
  congr 1
  refine De P l m G H fun x=>⟨fun y=>?_,fun y=>?_⟩
  ·rcases bv.1 ((h x).1 (dJ _ y))with e|s
   ·have q:=z x y;rw[e,P.irrefl a]at q;cases q
   exact s
  rcases bv.1 ((h x).2 (dJ _ y))with e|s
  ·have q:=B x y;rw[e,P.irrefl a]at q;cases q
  exact s
def setOf{b:Type}[DecidableEq b](lt:b->b->Bool)(l:List b):List b:=aq (l.mergeSort fun x y=>!lt y x)
theorem bO{b:Type}[DecidableEq b](lt:b->b->Bool)(l:List b)(x:b):x∈setOf lt l↔x∈l:=by
 unfold setOf;rw[jb,List.mem_mergeSort]
theorem yj{z:Type}{lt:z->z->Bool}(P:un lt)(l:List z):kG lt (l.mergeSort fun x y=>!lt y x):=by
 have h:=List.pairwise_mergeSort (le:=fun x y=>!lt y x) (by
  intro a b c H I;simp only[Bool.not_eq_true']at*;cases q:lt c a with
  |false=>rfl
  |true=>
   cases s:lt b c with
   |true=>
    have:=P.trans b c a s q;rw[H]at this;cases this
   |false=>
    have:=P.TE c b I s;subst this;rw[H]at q;cases q) (by
  intro a b;cases B:lt b a with
  |false=>simp
  |true=>
   have:lt a b=false:=by
    cases D:lt a b with
    |false=>rfl
    |true=>
     have:=P.trans a b a D B;rw[P.irrefl a]at this;cases this
   simp[this]) l
 exact h.imp fun{x y} G=>by simpa using G
theorem cx{b:Type}[DecidableEq b]{lt:b->b->Bool}(P:un lt)(l:List b):bU lt (setOf lt l):=nR P _ (yj P l)
theorem mC{b:Type}[DecidableEq b]{lt:b->b->Bool}(P:un lt){l m:List b}(h:bU lt m)(q:∀x,x∈m↔x∈l):m=setOf lt l:=
 De P _ _ h (cx P l) fun x=>(q x).trans (bO lt l x).symm
theorem lG{b:Type}[DecidableEq b]{lt:b->b->Bool}(P:un lt){l m:List b}(h:kG lt m)(q:∀x,x∈m↔x∈l):aq m=setOf lt l:=
 mC P (nR P m h) fun x=>(jb x m).trans (q x)
theorem bI:un af where
 irrefl x:=by simp[af]
 trans x y z b q:=by rw[eD]at*;omega
 TE x y b q:=by
  have s:¬(x.1<y.1\/x.1=y.1/\x.2<y.2):=fun h=>by rw[eD.2 h]at b;cases b
  have B:¬(y.1<x.1\/y.1=x.1/\y.2<x.2):=fun h=>by rw[eD.2 h]at q;cases q
  exact Prod.ext (by omega) (by omega)
def aG(x y:Int):Bool:=decide (x<y)
theorem kR:un aG where
 irrefl x:=by simp[aG]
 trans x y z h1 h2:=by simp[aG]at*;omega
 TE x y h1 h2:=by simp[aG]at*;omega
theorem Df{l:List aa}(h:dG l=true):bU af l:=by
 have step:∀k (b:k+1<l.length),af l[k] l[k+1]=true:=by
  intro k b;have q:=nk h (k+1) b;unfold nj at q;simp only[cj,iQ]at q;rcases q.2 with s|s
  ·simp at s
  simpa[eq,bM,b,(show k<l.length by omega)]using s
 have bg:∀d k (b:k+d+1<l.length),af (l[k]'(by omega)) l[k+d+1]=true:=by
  intro d
  induction d with
  |zero=>intro k b;exact step k b
  |succ d y=>intro k b;exact bI.trans _ _ _ (y k (by omega)) (step (k+d+1) b)
 rw[bU,ek];intro i j hi B z;have:=bg (j-i-1) i (by omega);simpa[show i+(j-i-1)+1=j by omega]using this
theorem Q5(a b:aa)(w:aQ):cs prog 166 #[a.val,b.val] w (ar w (.bool (af a b))):=by
 obtain⟨q,s⟩:=a;obtain⟨y,z⟩:=b;unfold aa.val;go_enter func166,ntmps166;go_wp2
 all_goals
  go_ret;refine ar.mk ?_ (by repeat(first|exact Gr.refl _|refine Gr.alloc ?_ _|refine Gr.drew ?_));unfold af;simp_all
def Q6(n b hi:Int):Bool:=decide (b<=n)&&decide (n<=hi)
theorem Yj(n b hi:Int)(w:aQ):cs prog 99 #[.int .i64 n,.int .i64 b,.int .i64 hi] w (ar w (.bool (Q6 n b hi))):=by
 go_enter func99,ntmps99;go_wp2
 all_goals
  go_ret;refine ar.mk ?_ (Gr.refl _);unfold Q6;simp_all
  try omega
def Q7(x y:Int):Int:=if x=0 then y else x
theorem Yk(b:Nat)(x y:Int)(w:aQ)(z:w.cell? ⟨b,0,none⟩=some (.int .i64 x))(B:w.cell? ⟨b,1,none⟩=some (.int .i64 y)):
  cs prog 124 #[.slice (some ⟨b,0,none⟩) 2 2] w (ar w (.int .i64 (Q7 x y))):=by
 go_enter func124,ntmps124;go_wp2
 go_loop [8] (fun i=>i=.int .i64 0\/(i=.int .i64 1/\x=0)\/(i=.int .i64 2/\x=0/\y=0)) (fun i=>2-(intOf i).toNat)
 case atStart=>exact .inl rfl
 case round=>
  rcases hrel with rfl|⟨rfl,rfl⟩|⟨rfl,rfl,rfl⟩
  ·by_cases q:x=0
   ·go_wp2
    exact⟨.inr (.inl ⟨rfl,q⟩),by simp[intOf]⟩
   go_wp2
   go_ret;exact ar.mk (by unfold Q7;rw[if_neg q];rfl) (Gr.refl _)
  ·by_cases s:y=0
   ·go_wp2
    exact⟨.inr (.inr ⟨rfl,trivial,s⟩),by simp[intOf]⟩
   go_wp2
   go_ret;exact ar.mk rfl (Gr.refl _)
  go_wp2
  go_ret;exact ar.mk rfl (Gr.refl _)
def vY(a b:aa):Int:=Q7 (cL a.1 b.1) (cL a.2 b.2)
theorem Dj(a b:aa)(w:aQ):cs prog 71 #[a.val,b.val] w (ar w (.int .i64 (vY a b))):=by
 obtain⟨q,s⟩:=a;obtain⟨y,z⟩:=b;unfold aa.val;go_enter nI,ntmps71;go_wp2_with fail
 have B:=((Gr.refl w).alloc (.cells #[.int .i64 q,.int .i64 s] 104)).alloc (.cells #[.int .i64 y,.int .i64 z] 104);have G:((w.alloc (.cells #[.int .i64 q,.int .i64 s] 104)).alloc (.cells #[.int .i64 y,.int .i64 z] 104)).cell? ⟨w.heap.size,0,none⟩=some (.int .i64 q):=((Gr.refl _).alloc _).keeps (by rw[ae];rfl);have H:((w.alloc (.cells #[.int .i64 q,.int .i64 s] 104)).alloc (.cells #[.int .i64 y,.int .i64 z] 104)).cell? ⟨w.heap.size,1,none⟩=some (.int .i64 s):=((Gr.refl _).alloc _).keeps (by rw[ae];rfl);have I:((w.alloc (.cells #[.int .i64 q,.int .i64 s] 104)).alloc (.cells #[.int .i64 y,.int .i64 z] 104)).cell? ⟨w.heap.size+1,0,none⟩=some (.int .i64 y):=by rw[<-bT w (.cells #[.int .i64 q,.int .i64 s] 104),ae];rfl
 have J:((w.alloc (.cells #[.int .i64 q,.int .i64 s] 104)).alloc (.cells #[.int .i64 y,.int .i64 z] 104)).cell? ⟨w.heap.size+1,1,none⟩=some (.int .i64 z):=by rw[<-bT w (.cells #[.int .i64 q,.int .i64 s] 104),ae];rfl
 generalize((w.alloc (.cells #[.int .i64 q,.int .i64 s] 104)).alloc (.cells #[.int .i64 y,.int .i64 z] 104))=W at*;go_region_held3(fun D=>D.cell? ⟨w.heap.size,0,none⟩=some (.int .i64 q)/\D.cell? ⟨w.heap.size,1,none⟩=some (.int .i64 s)/\D.cell? ⟨w.heap.size+1,0,none⟩=some (.int .i64 y)/\D.cell? ⟨w.heap.size+1,1,none⟩=some (.int .i64 z)/\Gr w D) (first|exact⟨G,H,I,J,B⟩|exact⟨G,H,I,J,B.drew⟩|exact⟨(((Gr.refl _).alloc _).drew).keeps G,(((Gr.refl _).alloc _).drew).keeps H,(((Gr.refl _).alloc _).drew).keeps I,(((Gr.refl _).alloc _).drew).keeps J,(B.alloc _).drew⟩|exact⟨(((Gr.refl W).alloc _).drew.trans (by assumption)).keeps G,(((Gr.refl W).alloc _).drew.trans (by assumption)).keeps H,(((Gr.refl W).alloc _).drew.trans (by assumption)).keeps I,(((Gr.refl W).alloc _).drew.trans (by assumption)).keeps J,(B.alloc _).drew.trans (by assumption)⟩) (first|(go_at_call 125;refine(Tryz.cmp_Compare_int _ _ _).mono ?_;rintro e M ⟨rfl,rfl⟩)|(go_at_call 124;refine(Yk _ _ _ _ (by rw[di,ae];rfl) (by rw[di,ae];rfl)).mono ?_;rintro e O ⟨rfl,L⟩))
 go_wp2
 go_ret;exact ar.mk rfl ((B.alloc _).drew.trans (by assumption))
def cq(w:aQ)(b q:Nat)(xs:List aa):Prop:=
 ∀i (h:i<xs.length),w.cell? ⟨b,q+i*2,none⟩=some (.int .i64 xs[i].1)/\w.cell? ⟨b,q+i*2+1,none⟩=some (.int .i64 xs[i].2)
theorem cq.gr{w w':aQ}{b q:Nat}{xs:List aa}(h:cq w b q xs)(g:Gr w w'):cq w' b q xs:=
 fun i hi=>⟨g.keeps (h i hi).1,g.keeps (h i hi).2⟩
theorem Nx(xs:List aa)(h:0<xs.length):nj xs 0=iD xs[0]:=by
 unfold nj;simp[bM,h]
theorem Ny(xs:List aa)(k:Nat)(h:k+1<xs.length):nj xs (k+1)=(iD xs[k+1]&&af xs[k] xs[k+1]):=by
 have b:k<xs.length:=by omega
 unfold nj eq;simp[bM,h,b]
theorem nu{b x2:Int}(h:b<1\/1073741824<b\/x2<0\/1073741824<=x2):iD (b,x2)=false:=by
 rw[cO];intro q;rw[iM]at q;simp only at q;omega
theorem GA{b x2:Int}(h:1<=b/\b<=1073741824/\0<=x2/\x2<1073741824):iD (b,x2)=true:=by
 rw[iM];simp only;omega
theorem sx(a b:aa):decide (0<=vY a b)=!af a b:=by
 obtain⟨q,s⟩:=a;obtain⟨y,z⟩:=b;unfold vY Q7 cL;cases h:af (q,s) (y,z)
 ·rw[cO,ne_eq,eD]at h;simp only at h;simp only[iR,decide_eq_true_eq]
  split<;>split<;>omega
 rw[eD]at h;simp only at h;simp only[js,decide_eq_false_iff_not]
 split<;>split<;>omega
theorem TI(xs:List aa)(b U c:Nat)(ao:Option Addr)(V:0<xs.length->ao=some ⟨b,U,none⟩)(hl:xs.length<=9223372036854775807)(w:aQ)(hc:cq w b U xs):
  cs prog 23 #[.slice ao xs.length c] w (ar w (.bool (dG xs))):=by
 have HC:=ap hc;have HA:=ap V;clear hc V;go_enter func23,ntmps23;go_wp2_with fail
 go_loopw [7] (fun i w'=>∃j:Nat,j<=xs.length/\i=.int .i64 j/\Gr w w'/\∀k,k<j->nj xs k=true) (fun i _=>xs.length-(intOf i).toNat)
 case atStart=>exact⟨0,iP _,rfl,Gr.refl _,fun k hk=>by omega⟩
 case round=>
  obtain⟨j,hj,rfl,z,I⟩:=hrel;have Z:=ap I;clear I;by_cases B:j<xs.length
  ·obtain rfl:=HA.out (by omega);obtain⟨c0,c1⟩:=HC.out.gr z j B;cases j with
   |zero=>
    have I:=Nx xs B;generalize hx:xs[0]=x at*;obtain⟨G,H⟩:=x;simp only[Nat.zero_mul,g4]at c0 c1;have D:=ap I;clear I;have M:(wr.alloc (.cells #[.int .i64 G,.int .i64 H] 104)).cell? ⟨wr.heap.size,0,none⟩=some (.int .i64 G):=by rw[ae];rfl
    have O:(wr.alloc (.cells #[.int .i64 G,.int .i64 H] 104)).cell? ⟨wr.heap.size,1,none⟩=some (.int .i64 H):=by rw[ae];rfl
    have f0:=fun d J=>aX M d J;have f1:=fun d J=>aX O d J;clear M O;go_wp2_with fail
    cases hA:decide (G<1)
    ·cases hB:decide (1073741824<G)
     ·cases hC:decide (H<0)
      ·cases hD:decide (1073741824<=H)
       ·refine az (by kernel_rfl) (by kernel_rfl) ?_
        repeat(go_big_quiet_step (fail))
        refine bc ?_;intro L q;have s:=(z.alloc _).trans (bR q);clear q z f0 f1;go_wp2_with fail
        refine⟨⟨0+1,by omega,by go_num,s,fun m hm=>?_⟩,by simp[intOf];omega⟩;rcases ew.1 hm with h|rfl
        ·exact Z.out m h
        exact(by rw[D.out];exact GA (by simp only[decide_eq_false_iff_not]at*;omega))
       refine az (by kernel_rfl) (by kernel_rfl) ?_
       repeat(go_big_quiet_step (fail))
       refine bc ?_;intro L q;have s:=(z.alloc _).trans (bR q);clear q z f0 f1;go_wp2_with fail
       go_ret;exact ar.mk (by rw[eQ B (by rw[D.out];exact nu (by simp only[decide_eq_false_iff_not,decide_eq_true_eq]at*;omega))];rfl) s
      refine az (by kernel_rfl) (by kernel_rfl) ?_
      repeat(go_big_quiet_step (fail))
      refine bc ?_;intro L q;have s:=(z.alloc _).trans (bR q);clear q z f0 f1;go_wp2_with fail
      go_ret;exact ar.mk (by rw[eQ B (by rw[D.out];exact nu (by simp only[decide_eq_false_iff_not,decide_eq_true_eq]at*;omega))];rfl) s
     refine az (by kernel_rfl) (by kernel_rfl) ?_
     repeat(go_big_quiet_step (fail))
     refine bc ?_;intro L q;have s:=(z.alloc _).trans (bR q);clear q z f0 f1;go_wp2_with fail
     go_ret;exact ar.mk (by rw[eQ B (by rw[D.out];exact nu (by simp only[decide_eq_false_iff_not,decide_eq_true_eq]at*;omega))];rfl) s
    refine az (by kernel_rfl) (by kernel_rfl) ?_
    repeat(go_big_quiet_step (fail))
    refine bc ?_;intro L q;have s:=(z.alloc _).trans (bR q);clear q z f0 f1;go_wp2_with fail
    go_ret;exact ar.mk (by rw[eQ B (by rw[D.out];exact nu (by simp only[decide_eq_true_eq]at*;omega))];rfl) s
   |succ k=>
    obtain⟨d0,d1⟩:=HC.out.gr z k (by omega);have I:=Ny xs k B;generalize hx:xs[k+1]=x at*;generalize hy:xs[k]=y at*;obtain⟨G,H⟩:=x;obtain⟨Q,S⟩:=y;simp only at c0 c1 d0 d1;have D:=ap I;clear I;have M:(wr.alloc (.cells #[.int .i64 G,.int .i64 H] 104)).cell? ⟨wr.heap.size,0,none⟩=some (.int .i64 G):=by rw[ae];rfl
    have O:(wr.alloc (.cells #[.int .i64 G,.int .i64 H] 104)).cell? ⟨wr.heap.size,1,none⟩=some (.int .i64 H):=by rw[ae];rfl
    have f0:=fun d J=>aX M d J;have f1:=fun d J=>aX O d J;have f2:=fun d J=>aX (((Gr.refl wr).alloc (.cells #[.int .i64 G,.int .i64 H] 104)).keeps d0) d J;have f3:=fun d J=>aX (((Gr.refl wr).alloc (.cells #[.int .i64 G,.int .i64 H] 104)).keeps d1) d J;clear M O;go_wp2_with fail
    cases hA:decide (G<1)
    ·cases hB:decide (1073741824<G)
     ·cases hC:decide (H<0)
      ·cases hD:decide (1073741824<=H)
       ·cases Y:af (Q,S) (G,H)
        ·have a1:decide (0<=vY (Q,S) (G,H))=true:=by rw[sx,Y];rfl
         refine az (by kernel_rfl) (by kernel_rfl) ?_
         repeat(go_big_quiet_step ((go_at_call 71;exact ar.qR (Dj (Q,S) (G,H) _))))
         refine bc ?_;intro L q;have s:=(z.alloc _).trans (bR q);clear q z f0 f1;go_wp2_with fail
         go_ret;exact ar.mk (by rw[eQ B (by rw[D.out,Y];simp)];rfl) s
        have a1:decide (0<=vY (Q,S) (G,H))=false:=by rw[sx,Y];rfl
        refine az (by kernel_rfl) (by kernel_rfl) ?_
        repeat(go_big_quiet_step ((go_at_call 71;exact ar.qR (Dj (Q,S) (G,H) _))))
        refine bc ?_;intro L q;have s:=(z.alloc _).trans (bR q);clear q z f0 f1;go_wp2_with fail
        refine⟨⟨k+1+1,by omega,by go_num,s,fun m hm=>?_⟩,by simp[intOf];omega⟩;rcases ew.1 hm with h|rfl
        ·exact Z.out m h
        exact(by rw[D.out,Y,GA (by simp only[decide_eq_false_iff_not]at*;omega)];rfl)
       refine az (by kernel_rfl) (by kernel_rfl) ?_
       repeat(go_big_quiet_step (fail))
       refine bc ?_;intro L q;have s:=(z.alloc _).trans (bR q);clear q z f0 f1;go_wp2_with fail
       go_ret;exact ar.mk (by rw[eQ B (by rw[D.out,nu (by simp only[decide_eq_false_iff_not,decide_eq_true_eq]at*;omega)];rfl)];rfl) s
      refine az (by kernel_rfl) (by kernel_rfl) ?_
      repeat(go_big_quiet_step (fail))
      refine bc ?_;intro L q;have s:=(z.alloc _).trans (bR q);clear q z f0 f1;go_wp2_with fail
      go_ret;exact ar.mk (by rw[eQ B (by rw[D.out,nu (by simp only[decide_eq_false_iff_not,decide_eq_true_eq]at*;omega)];rfl)];rfl) s
     refine az (by kernel_rfl) (by kernel_rfl) ?_
     repeat(go_big_quiet_step (fail))
     refine bc ?_;intro L q;have s:=(z.alloc _).trans (bR q);clear q z f0 f1;go_wp2_with fail
     go_ret;exact ar.mk (by rw[eQ B (by rw[D.out,nu (by simp only[decide_eq_false_iff_not,decide_eq_true_eq]at*;omega)];rfl)];rfl) s
    refine az (by kernel_rfl) (by kernel_rfl) ?_
    repeat(go_big_quiet_step (fail))
    refine bc ?_;intro L q;have s:=(z.alloc _).trans (bR q);clear q z f0 f1;go_wp2_with fail
    go_ret;exact ar.mk (by rw[eQ B (by rw[D.out,nu (by simp only[decide_eq_true_eq]at*;omega)];rfl)];rfl) s
  go_wp2_with fail
  go_ret;exact ar.mk (by rw[qJ (fun k hk=>Z.out k (by omega))];rfl) z
def kn(v b:be)(w w':aQ):Prop:=w.heap.size<=w'.heap.size/\∀k,k<w.heap.size->v.ownBlock≠some k->b.ownBlock≠some k/\∀o,w'.cell? ⟨k,o,none⟩=w.cell? ⟨k,o,none⟩/\w'.frozen? ⟨k,o,none⟩=w.frozen? ⟨k,o,none⟩
theorem kn.refl(v:be)(w:aQ):kn v v w w:=⟨bu _,fun _ _ h=>⟨h,fun _=>⟨rfl,rfl⟩⟩⟩
theorem kn.trans{v y q:be}{w w' s:aQ}(h:kn v y w w')(z:kn y q w' s):kn v q w s:=
 ⟨g5 h.1 z.1,fun k B hv=>by
  have a:=h.2 k B hv;have b:=z.2 k (bh B h.1) a.1;exact⟨b.1,fun o=>⟨(b.2 o).1.trans (a.2 o).1,(b.2 o).2.trans (a.2 o).2⟩⟩⟩
theorem kn.keeps{v b:be}{w w':aQ}(h:kn v b w w'){k o:Nat}{u:be}(hv:v.ownBlock≠some k)(hc:w.cell? ⟨k,o,none⟩=some u):w'.cell? ⟨k,o,none⟩=some u:=
 (((h.2 k (ad hc) hv).2 o).1).trans hc
theorem qL{P:Program}{a0 w:aQ}{G:Array Oper}{rest:List Oper}{o:Oper}{a:Act}{Q:Exit->Act->aQ->Prop}(L:o.guard=none)(s x:m7)(t:kr)
  (Z:o.op=.call {callee:=.builtin .append,args:=#[s,x],argTypes:=#[t,t]}) (e:kr) (i:TypeInfo) (z:be) (size bytes:Nat) (ht:P.underlying t=some (.slice e)) (hi:P.info? e=some i)
  (hz:i.zero=some z) (y:i.size=size) (M:i.bytes=bytes) (O:z.cells.size=size) (S:0<size) (v:be) (n:Nat) (xs:List be) (hs:a.eval s=v) (q:w.ownsRow a0.heap.size e size v n xs)
  (us:List be) (U:us.length=size) (I:∀u∈us,u.oneCell'=true) (hx:a.eval x=.slice (some ⟨w.heap.size,0,none⟩) 1 1) (V:Gr a0 w) (a8:n+1<=4611686018427387904) (b:(n+1)*bytes<=140737488355328)
  (h:∀B w',w'.ownsRow a0.heap.size e size B (n+1) (xs++us)->Gr a0 w'->kn v B w w'->wpList P G Q rest (a.put o.dst B) w'):wpList P G Q (o::rest) a (w.alloc (.cells us.toArray e)):=by
 refine wpList_append_own_at _ L s x t Z a0.heap.size e i z size bytes ht hi hz y M O S v n xs hs (q.alloc _) ⟨w.heap.size,0,none⟩ 1 1 us hx (by rw[U,dQ]) ?_ I (by unfold maxLen;omega) b (by have:=V.size;simp;omega)
  (fun B w' I J _ D=>h B w' I (iG (V.alloc _) J (aP q)) ⟨by have:=J.size;simp at this;omega,fun k hk H=>⟨fun e=>by
   rcases D with D|D
   ·exact H (D.symm.trans e)
   ·rw[D]at e;have:=bP e;simp at this;omega,fun o=>by
   have Y:w'.heap[k]?=w.heap[k]?:=(J.block k (by simp;omega) (fun e=>H e.symm)).trans (Below.heap_alloc _ _ _ hk);exact⟨World.cell?_of_block Y,World.frozen?_of_block Y⟩⟩⟩)
 intro j u hj;have he:(⟨w.heap.size,0,none⟩:Addr).add j=⟨w.heap.size,j,none⟩:=by
  unfold Addr.add
  split
  ·rename_i h0;rw[h0]
  simp
 rw[he,ae];simpa using hj
theorem Vt(n:Nat)(h:n<9223372036854775808):bits ik dS (n:Int) 127=((n % 128:Nat):Int):=by
 show dS.wrap ((cW 64 (n:Int)&&&cW 64 ((127:Nat):Int)).toNat:Int)=_;rw[iu,eU _ (by omega),eU _ (by omega),dr n 7];rw[eA];omega
theorem Xd(m:Nat):bits lr fT ((m:Int) % 128) 128=((128+m % 128).toUInt8.toNat:Int):=by
 have h:∀r:Fin 128,bits lr fT ((r.val:Nat):Int) 128=((128+r.val).toUInt8.toNat:Int):=by decide+kernel
 have:=h ⟨m % 128,m1 _ (by omega)⟩;rw[show((m:Int) % 128)=((m % 128:Nat):Int)by omega];exact this
theorem Q8(a0 w:aQ)(v:be)(l:List UInt8)(n:Nat)(hn:n<1099511627776)(Y:l.length<=100000000000)(B:Gr a0 w)(z:eW a0 w v l):
  cs prog 147 #[v,.int .i64 n] w fun e s=>∃O,e=.returned O/\eW a0 s O (l++ic n)/\Gr a0 s/\kn v O w s:=by
 obtain⟨Q,hi,D,G,H⟩:=m2 xI;have I:=ap z;clear z;go_enter func147,ntmps147;go_wp2_with fail
 go_loopw [1,0] (fun i u s=>∃(m:Nat) (pre:List UInt8),m<=n/\i=.int .i64 m/\Gr a0 s/\eW a0 s u (l++pre)/\pre.length+m<=n/\pre++ic m=ic n/\kn v u w s) (fun i _ _=>(intOf i).toNat)
 case atStart=>exact⟨n,[],bu _,rfl,B,by simpa using I.out,by simp,by simp,kn.refl _ _⟩
 case round=>
  obtain⟨m,pre,Z,rfl,B,z,V,J,L⟩:=hrel;have I:=ap z;have M:=ap J;clear z J;by_cases h:m<128
  ·go_wp2_with(at_builtin;(refine qL (a0:=a0) rfl _ _ 188 rfl 5 Q (.int .u8 0) 1 1 underlying188 hi D G H rfl (by decide) _ _ _ rfl (eW.row I.out) [_] rfl (by simp;rfl) rfl B (by simp;omega) (by simp;omega) ?_);intro S U b y q)
   go_ret;refine⟨_,rfl,?_,y,L.trans q⟩;rw[<-M.out,io m h,<-da];have e:me m.toUInt8=.int .u8 (m:Int):=by
    unfold me
    congr 1
    simp;omega
   exact oC (by rw[e];exact b)
  have ha:=Vt m (by omega);go_wp2_with(at_builtin;(refine qL (a0:=a0) rfl _ _ 188 rfl 5 Q (.int .u8 0) 1 1 underlying188 hi D G H rfl (by decide) _ _ _ rfl (eW.row I.out) [_] rfl (by simp;rfl) rfl B (by simp;omega) (by simp;omega) ?_);intro S U b y q)
  refine⟨⟨m/128,pre++[(128+m % 128).toUInt8],by omega,by go_num,y,?_,by rw[aJ];simp;omega,?_,L.trans q⟩,by simp[intOf];omega⟩
  ·rw[<-da];refine oC ?_;rw[me,<-Xd];exact b
  rw[<-M.out,qt m h,da];rfl
theorem zC(a0 w:aQ)(v:be)(l:List UInt8)(n:Int)(s:0<=n)(hn:n<1099511627776)(y:l.length<=100000000000)(z:Gr a0 w)(B:eW a0 w v l):
  cs prog 147 #[v,.int .i64 n] w fun e b=>∃q,e=.returned q/\eW a0 b q (l++ic n.toNat)/\Gr a0 b/\kn v q w b:=by
 obtain⟨m,rfl⟩:=Int.eq_ofNat_of_zero_le s;exact Q8 a0 w v l m (by omega) y z B
def wS(xs:List aa):List UInt8:=if dG xs then cT xs else[]
def AM(xs:List aa):be:=if dG xs then .nilIface else .iface 24 (.int .i64 1)
def wN(xs:List aa):Int:=if dG xs then 0 else 1
theorem TJ{xs:List aa}{j:Nat}(h:j<xs.length):xs.getD j (0,0)=xs[j]:=by simp[bM,h]
theorem Dl(xs:List aa)(b a4 c:Nat)(ao:Option Addr)(b2:0<xs.length->ao=some ⟨b,a4,none⟩)(hl:xs.length<=1000000)(w:aQ)(hc:cq w b a4 xs):
  cs prog 94 #[.slice ao xs.length c] w (ar w (.tuple #[.string ⟨(wS xs).toArray⟩,AM xs])):=by
 have HC:=ap hc;have HA:=ap b2;clear hc b2;go_enter func94,ntmps94;go_wp2_with fail
 refine(TI xs b a4 c ao HA.out (by omega) _ HC.out).mono ?_;rintro e D ⟨rfl,O⟩;cases hp:dG xs
 ·go_wp2_with fail
  go_ret2;exact ar.mk (by unfold wS AM;rw[hp];rfl) O
 have HP:=ap hp;clear hp;go_wp2_with fail
 have d3:=O.alloc (.cells #[.int .i64 0,.int .i64 0] 104);have V:(D.alloc (.cells #[.int .i64 0,.int .i64 0] 104)).cell? ⟨D.heap.size,0,none⟩=some (.int .i64 0):=by rw[ae];rfl
 have Y:(D.alloc (.cells #[.int .i64 0,.int .i64 0] 104)).cell? ⟨D.heap.size,1,none⟩=some (.int .i64 0):=by rw[ae];rfl
 have z0:∀o,(D.alloc (.cells #[.int .i64 0,.int .i64 0] 104)).frozen? ⟨D.heap.size,o,none⟩=false:=fun o=>by simp
 have Q:w.heap.size<=D.heap.size:=O.size;have d4:D.heap.size<(D.alloc (.cells #[.int .i64 0,.int .i64 0] 104)).heap.size:=by simp
 generalize(D.alloc (.cells #[.int .i64 0,.int .i64 0] 104))=W0 at*;generalize D.heap.size=L at*;clear O;have HQ:=ap (And.intro V (And.intro Y z0));clear V Y z0;go_loopw [15,4] (fun i u Z=>∃j:Nat,j<=xs.length/\i=.int .i64 j/\Gr w Z/\eW w Z u (zA xs j)/\u.ownBlock≠some L/\L<Z.heap.size/\(Z.cell? ⟨L,0,none⟩=some (.int .i64 (eq xs j).1)/\Z.cell? ⟨L,1,none⟩=some (.int .i64 (eq xs j).2)/\∀o,Z.frozen? ⟨L,o,none⟩=false)) (fun i _ _=>xs.length-(intOf i).toNat)
 case atStart=>exact⟨0,iP _,rfl,d3,⟨rfl,.inl ⟨rfl,rfl⟩⟩,by simp[iT],d4,HQ.out⟩
 case round=>
  obtain⟨j,hj,rfl,hg,ho,s,d5,V,Y,z⟩:=hrel;have HO:=ap ho;clear ho;by_cases a5:j<xs.length
  ·obtain rfl:=HA.out (by omega);obtain⟨c0,c1⟩:=HC.out.gr hg j a5;have S:=um a5 (fun i hi=>nk HP.out i (by omega));have a6:=zB xs j;have e8:=TD (l:=xs) j hj (fun i hi=>nk HP.out i (by omega));have U:eq xs (j+1)=xs.getD j (0,0):=rfl;rw[TJ a5]at S a6 U;rw[iM]at S;generalize hx:xs[j]=x at*;generalize ha:eq xs j=a at*;obtain⟨G,M⟩:=x;obtain⟨a1,a2⟩:=a;simp only at c0 c1 V Y S U;have b6:=ap a6;have b7:=ap U;have H:u4.ownBlock≠some wr.heap.size:=fun h=>Nat.lt_irrefl _ (bd (eW.row HO.out) _ h);have I:Gr wr (wr.alloc (.cells #[.int .i64 G,.int .i64 M] 104)):=(Gr.refl wr).alloc _;have p0:(wr.alloc (.cells #[.int .i64 G,.int .i64 M] 104)).cell? ⟨wr.heap.size,0,none⟩=some (.int .i64 G):=by rw[ae];rfl
   have p1:(wr.alloc (.cells #[.int .i64 G,.int .i64 M] 104)).cell? ⟨wr.heap.size,1,none⟩=some (.int .i64 M):=by rw[ae];rfl
   have r0:=I.keeps V;have r1:=I.keeps Y;have rz:=fun o=>(I.frozen o d5).trans (z o);have g7:L≠wr.heap.size:=by omega
   clear a6 U;by_cases a7:G=a1
   ·subst a7;have g8:=S.2.2.2.2.2.2 rfl;go_wp2_with fail
    refine(zC w _ u4 (zA xs j) ((M-a2)*2) (by omega) (by omega) (by omega) (hg.alloc _) (aF (eW.row HO.out) I)).mono ?_;rintro e w3 ⟨v3,rfl,J,a8,q⟩;have s0:=q.keeps H p0;have s1:=q.keeps H p1;have t0:=q.keeps s r0;have t1:=q.keeps s r1;have y:=(q.2 L (by simp;omega) s).1;have d6:=((q.2 L (by simp;omega) s).2 0).2.trans (rz 0);have d7:=((q.2 L (by simp;omega) s).2 1).2.trans (rz 1);have tz:=fun o=>((q.2 L (by simp;omega) s).2 o).2.trans (rz o);have a9:=q.1;simp only[bT]at a9;have H3:=ap J;clear p0 p1 r0 r1 rz q V Y z J;go_wp2_with fail
    have tw:=Cf (u:=.int .i64 G) (v:=.int .i64 M) t0 t1;refine⟨⟨j+1,by omega,by go_num,(a8.setCell (p:=⟨L,0,none⟩) Q _).setCell (p:=⟨L,1,none⟩) Q _,?_,y,by simp;omega,?_⟩,by simp[intOf];omega⟩
    ·rw[b6.out];unfold rs;simp only[if_true];rw[aS]at H3;exact cX (cX (eW.row H3.out) (a:=⟨L,0,none⟩) y) (a:=⟨L,1,none⟩) y
    rw[b7.out];exact⟨tw.1,tw.2,fun o=>by simpa using tz o⟩
   have e9:(G !=a1)=true:=by simpa using a7
   go_wp2_with fail
   refine(zC w _ u4 (zA xs j) ((G-a1)*2+1) (by omega) (by omega) (by omega) (hg.alloc _) (aF (eW.row HO.out) I)).mono ?_;rintro e w3 ⟨v3,rfl,J,a8,q⟩;have s0:=q.keeps H p0;have s1:=q.keeps H p1;have t0:=q.keeps s r0;have t1:=q.keeps s r1;have y:=(q.2 L (by simp;omega) s).1;have c6:=(q.2 wr.heap.size (by simp) H).1;have tz:=fun o=>((q.2 L (by simp;omega) s).2 o).2.trans (rz o);have a9:=q.1;simp only[bT]at a9;have H3:=ap J;clear p0 p1 r0 r1 rz q V Y z J;go_wp2_with fail
   have g9:=nm 4 ((G-a1)*2+1).toNat (by rw[show 128^(4+1)=34359738368 by decide];omega);refine(zC w _ v3 _ M (by omega) (by omega) (by rw[aJ];omega) a8 H3.out).mono ?_;rintro e w4 ⟨v4,rfl,c7,d8,B⟩;have h0:=B.keeps c6 s0;have h1:=B.keeps c6 s1;have d9:=B.keeps y t0;have e0:=B.keeps y t1;have b0:=(B.2 L (by omega) y).1;have d6:=((B.2 L (by omega) y).2 0).2.trans (tz 0);have d7:=((B.2 L (by omega) y).2 1).2.trans (tz 1);have e1:=fun o=>((B.2 L (by omega) y).2 o).2.trans (tz o);have h2:=B.1;have H4:=ap c7;clear s0 s1 t0 t1 tz B c7;go_wp2_with fail
   have tw:=Cf (u:=.int .i64 G) (v:=.int .i64 M) d9 e0;refine⟨⟨j+1,by omega,by go_num,(d8.setCell (p:=⟨L,0,none⟩) Q _).setCell (p:=⟨L,1,none⟩) Q _,?_,b0,by simp;omega,?_⟩,by simp[intOf];omega⟩
   ·rw[b6.out];unfold rs;simp only[if_neg a7];rw[aS,da]at H4;exact cX (cX (eW.row H4.out) (a:=⟨L,0,none⟩) b0) (a:=⟨L,1,none⟩) b0
   rw[b7.out];exact⟨tw.1,tw.2,fun o=>by simpa using e1 o⟩
  obtain rfl:j=xs.length:=by omega
  have h3:=pY HO.out;go_wp2_with fail
  go_ret2;exact ar.mk (by unfold wS AM;rw[HP.out];rfl) hg
end
section
open Go Go.RowKit Go.Shelf
theorem Xe(w:aQ)(a b c:Obj):((fI w #[a,b]).alloc c).drew=fI (w.drewN 1) #[a,b,c]:=by
 rw[eh,iU]
 rfl
theorem Yl(b:Nat)(x y:Int)(w:aQ)(B:w.cell? ⟨b,0,none⟩=some (.int .i64 x))(D:w.cell? ⟨b,1,none⟩=some (.int .i64 y)):
  cs prog 124 #[.slice (some ⟨b,0,none⟩) 2 2] w fun e s=>e=.returned (.int .i64 (Q7 x y))/\s=w:=by
 go_enter func124,ntmps124;go_wp2
 go_loop [8] (fun i=>i=.int .i64 0\/(i=.int .i64 1/\x=0)\/(i=.int .i64 2/\x=0/\y=0)) (fun i=>2-(intOf i).toNat)
 case atStart=>exact .inl rfl
 case round=>
  rcases hrel with rfl|⟨rfl,rfl⟩|⟨rfl,rfl,rfl⟩
  ·by_cases q:x=0
   ·go_wp2
    exact⟨.inr (.inl ⟨rfl,q⟩),by simp[intOf]⟩
   go_wp2
   go_ret;exact⟨by unfold Q7;rw[if_neg q];rfl,rfl⟩
  ·by_cases z:y=0
   ·go_wp2
    exact⟨.inr (.inr ⟨rfl,trivial,z⟩),by simp[intOf]⟩
   go_wp2
   go_ret;exact⟨rfl,rfl⟩
  go_wp2
  go_ret;exact⟨rfl,rfl⟩
theorem Nz(a b:aa)(w:aQ):cs prog 71 #[a.val,b.val] w fun e D=>e=.returned (.int .i64 (vY a b))/\∃q O,D=fI (w.drewN q) O:=by
 obtain⟨s,y⟩:=a;obtain⟨z,B⟩:=b;unfold aa.val;go_enter nI,ntmps71;go_wp2_with fail
 have H:=((Gr.refl w).alloc (.cells #[.int .i64 s,.int .i64 y] 104)).alloc (.cells #[.int .i64 z,.int .i64 B] 104);have I:((w.alloc (.cells #[.int .i64 s,.int .i64 y] 104)).alloc (.cells #[.int .i64 z,.int .i64 B] 104)).cell? ⟨w.heap.size,0,none⟩=some (.int .i64 s):=((Gr.refl _).alloc _).keeps (by rw[ae];rfl);have J:((w.alloc (.cells #[.int .i64 s,.int .i64 y] 104)).alloc (.cells #[.int .i64 z,.int .i64 B] 104)).cell? ⟨w.heap.size,1,none⟩=some (.int .i64 y):=((Gr.refl _).alloc _).keeps (by rw[ae];rfl);have L:((w.alloc (.cells #[.int .i64 s,.int .i64 y] 104)).alloc (.cells #[.int .i64 z,.int .i64 B] 104)).cell? ⟨w.heap.size+1,0,none⟩=some (.int .i64 z):=by rw[<-bT w (.cells #[.int .i64 s,.int .i64 y] 104),ae];rfl
 have M:((w.alloc (.cells #[.int .i64 s,.int .i64 y] 104)).alloc (.cells #[.int .i64 z,.int .i64 B] 104)).cell? ⟨w.heap.size+1,1,none⟩=some (.int .i64 B):=by rw[<-bT w (.cells #[.int .i64 s,.int .i64 y] 104),ae];rfl
 have G:((w.alloc (.cells #[.int .i64 s,.int .i64 y] 104)).alloc (.cells #[.int .i64 z,.int .i64 B] 104))=fI w #[.cells #[.int .i64 s,.int .i64 y] 104,.cells #[.int .i64 z,.int .i64 B] 104]:=by rw[eh,eh,iU];rfl
 generalize((w.alloc (.cells #[.int .i64 s,.int .i64 y] 104)).alloc (.cells #[.int .i64 z,.int .i64 B] 104))=W at*;have Q:=ap G;clear G;go_region_held3(fun D=>D.cell? ⟨w.heap.size,0,none⟩=some (.int .i64 s)/\D.cell? ⟨w.heap.size,1,none⟩=some (.int .i64 y)/\D.cell? ⟨w.heap.size+1,0,none⟩=some (.int .i64 z)/\D.cell? ⟨w.heap.size+1,1,none⟩=some (.int .i64 B)/\Gr w D) (first|exact⟨I,J,L,M,H⟩|exact⟨I,J,L,M,H.drew⟩|exact⟨(((Gr.refl _).alloc _).drew).keeps I,(((Gr.refl _).alloc _).drew).keeps J,(((Gr.refl _).alloc _).drew).keeps L,(((Gr.refl _).alloc _).drew).keeps M,(H.alloc _).drew⟩) (first|(go_at_call 125;refine(Tryz.cmp_Compare_int _ _ _).mono ?_;rintro e S ⟨rfl,rfl⟩)|(go_at_call 124;refine(Yl _ _ _ _ (by rw[di,ae];rfl) (by rw[di,ae];rfl)).mono ?_;rintro e U ⟨rfl,rfl⟩))
 go_wp2
 go_ret;refine⟨rfl,1,#[.cells #[.int .i64 s,.int .i64 y] 104,.cells #[.int .i64 z,.int .i64 B] 104,.cells #[.int .i64 (cL s z),.int .i64 (cL y B)] 3],?_⟩;rw[Q.out];exact Xe w _ _ _
def ju(x:aa):List be:=[.int .i64 x.1,.int .i64 x.2]
theorem TK(b q size:Nat)(w:aQ):CmpLays prog 71 #[] ju 2 vY b q size w:=
 fun _ _ _ _ x y=>Nz x y _
end
section
open Go Go.RowKit Go.Shelf Go.Lib Go.Sort
def jo(w:aQ)(B:Nat)(xs:List aa):Prop:=
 ∀i (h:i<xs.length),(w.cell? ⟨B,i*2,none⟩=some (.int .i64 xs[i].1)/\w.frozen? ⟨B,i*2,none⟩=false)/\(w.cell? ⟨B,i*2+1,none⟩=some (.int .i64 xs[i].2)/\w.frozen? ⟨B,i*2+1,none⟩=false)
theorem sy{w:aQ}{B:Nat}{xs:List aa}(h:jo w B xs):HoldsK ju 2 w B 0 xs.toArray:=by
 intro j b;rw[size_flatK]at b;rw[get_flatK _ _ _ _ b];have hi:j/2<xs.length:=by simp at b;omega
 obtain⟨s,y⟩:=h (j/2) hi;have z:xs.toArray[j/2]! =xs[j/2]:=by simp[hi]
 rw[z,eY];rcases bj j with e|e
 ·rw[e];have q:j/2*2=j:=by omega
  rw[q]at s;exact s
 rw[e];have q:j/2*2+1=j:=by omega
 rw[q]at y;exact y
theorem Dn{w:aQ}{B:Nat}{d:Array aa}(h:HoldsK ju 2 w B 0 d):jo w B d.toList:=by
 intro i hi;have b:i<d.size:=by simpa using hi
 have q:=lW h (i:=i) (c:=0) b (by omega);have s:=lW h (i:=i) (c:=1) b (by omega);have y:d[i]! =d[i]:=by simp[b]
 rw[y,eY,g4]at q;rw[y,eY]at s;exact⟨q,s⟩
theorem vM(w:aQ)(b q:Nat)(d:Array aa)(k:Nat)(h:k≠b):(fe ju 2 w b q d).heap[k]?=w.heap[k]?:=by
 unfold fe m3 i6;simp[Array.getElem?_modify,Ne.symm h]
theorem BW(a b:aa):ltOf vY a b=af a b:=by
 unfold ltOf;have h:=sx a b;cases q:af a b
 ·rw[q]at h;simp only[iR,decide_eq_true_eq]at h;simp;omega
 rw[q]at h;simp only[js,decide_eq_false_iff_not]at h;simp;omega
theorem NA:SWO (ltOf vY) where
 irrefl x:=by rw[BW];exact bI.irrefl x
 trans x y z h1 h2:=by rw[BW]at*;exact bI.trans x y z h1 h2
 ntrans x y z h1 h2:=by
  rw[BW]at*;simp only[af,Bool.or_eq_false_iff,Bool.and_eq_false_iff,decide_eq_false_iff_not,beq_eq_false_iff_ne]at*;omega
theorem Jb(xs:List aa)(B cap:Nat)(w:aQ)(h:jo w B xs)(U:B<w.heap.size)(hl:xs.length<=1000000):
  cs prog 97 #[.slice (some ⟨B,0,none⟩) xs.length cap,.func (.func 71) #[] #[]] w fun e G=>
   e=.returned (.tuple #[])/\∃H:List aa,H.Perm xs/\kG af H/\jo G B H/\ag (fun i=>i=B) w G:=by
 have eg:∀args w,(callFunc 71 args).run prog w=.ok (.enter 71 args) w:=enters_of nI (by kernel_rfl) rfl;have V:=sy h;have s:xs.toArray.size=xs.length:=by simp
 have q:=AnyQ.slices_SortFunc Tryz.zZ 2 isAgg104 sizeOf104 ju (fun _=>rfl) (fun x v hv=>by simp[ju]at hv;rcases hv with rfl|rfl<;>rfl) vY NA 71 #[] B 0 cap xs.toArray w eg (TK B 0 xs.toArray.size w) V U (by rw[s];omega);rw[s]at q
 change cs prog 97 _ _ _ at q;refine q.mono ?_;rintro e G ⟨rfl,b,n,Y,⟨y,_,z⟩,hs,rfl⟩;have I:=holdsK_putRowK ju 2 (dA w n) B 0 xs.toArray b (holdsK_ahead ju 2 w n B 0 _ V) y;have J:B<(fe ju 2 (dA w n) B 0 b).heap.size:=by
  unfold fe m3 i6;simpa[dA]using U
 have D:b.toList.length=xs.length:=by rw[dU,y,s]
 refine⟨rfl,b.toList,?_,?_,Dn (holdsK_grow ju 2 _ Y B 0 b J I),?_⟩
 ·have e1:(b.extract 0 xs.length)=b:=by
   apply m4;simp only[Array.toList_extract,List.drop_zero,Nat.sub_zero];exact aV (ks D)
  have e2:(xs.toArray.extract 0 xs.length)=xs.toArray:=by
   apply m4;simp
  rw[e1,e2]at z;simpa using z
 ·rw[kG,ek];intro i j hi hj L;have Z:=hs i j (iP _) L (by omega);have M:i<b.size:=by rw[<-dU];exact hi
  have O:j<b.size:=by rw[<-dU];exact hj
  rw[BW]at Z;simpa[M,O]using Z
 refine⟨rfl,rfl,rfl,?_,fun k hk Q=>?_⟩
 ·unfold m5;simp only[fI,hI];have:(fe ju 2 (dA w n) B 0 b).heap.size=w.heap.size:=by
   unfold fe m3 i6;simp[dA]
  omega
 unfold m5;have S:k<(fe ju 2 (dA w n) B 0 b).heap.size:=by
  unfold fe m3 i6;simpa[dA]using hk
 rw[heap_grow_old _ Y S,vM _ _ _ _ _ Q]
 rfl
theorem vZ{q:Type}[DecidableEq q](a:q):∀l:List q,aq (l++[a])=if l.getLast?=some a then aq l else aq l++[a]
 |[]=>rfl
 |[b]=>by
  by_cases h:b=a<;>simp[aq,h]
 |b::c::t=>by
  have s:=vZ a (c::t);simp only[eB]at s⊢;unfold aq;by_cases h:b=c
  ·rw[if_pos h,if_pos h,s,eH]
  rw[if_neg h,if_neg h,s,eH]
  split<;>simp
theorem NC{b:Type}(l:List b)(k:Nat)(s:0<k)(q:k<=l.length):(l.take k).getLast?=some (l[k-1]'(by omega)):=by
 rw[List.getLast?_eq_getElem?,iF,Nat.min_eq_left q,List.getElem?_take,if_pos (by omega),bz]
theorem jq{b:Type}[DecidableEq b](l:List b)(k:Nat)(q:0<k)(s:k<l.length):aq (l.take (k+1))=if l[k]=l[k-1]then aq (l.take k)else aq (l.take k)++[l[k]]:=by
 rw[bt s,vZ,NC l k q (by omega)];simp only[ch];by_cases h:l[k]=l[k-1]
 ·rw[if_pos h,if_pos h.symm]
 rw[if_neg h,if_neg (fun e=>h e.symm)]
theorem ig{q:Type}[DecidableEq q]:∀l:List q,(aq l).length<=l.length
 |[]=>bu _
 |[a]=>bu _
 |a::b::t=>by
  have s:=ig (b::t);unfold aq
  split
  ·simp only[ak]at*;omega
  simp only[ak]at*;omega
theorem ag.setCells{S:Nat->Prop}(b:Nat):∀(vs:List be) (o:Nat) (w:aQ),S b->ag S w (w.setCells b o vs)
 |[],_,w,_=>ag.refl S w
 |v::vs,o,w,h=>(ag.setCell w v h).trans (ag.setCells b vs (o+1) _ h)
theorem jo.gr{w w':aQ}{B:Nat}{xs:List aa}(h:jo w B xs)(g:Gr w w')(b:B<w.heap.size):jo w' B xs:=
 fun i hi=>⟨⟨g.keeps (h i hi).1.1,(g.frozen _ b).trans (h i hi).1.2⟩,⟨g.keeps (h i hi).2.1,(g.frozen _ b).trans (h i hi).2.2⟩⟩
theorem jo.set{w:aQ}{B i:Nat}{y:List aa}(h:jo w B y)(hi:i<y.length)(D G:Int):
  jo ((w.setCell ⟨B,i*2,none⟩ (.int .i64 D)).setCell ⟨B,i*2+1,none⟩ (.int .i64 G)) B (y.set i (D,G)):=by
 intro k H;rw[bB]at H;have q:=h k H;have s:=h i hi;have J:(⟨B,i*2+1,none⟩:Addr)≠⟨B,k*2,none⟩:=fun e=>by
  have:=congrArg Addr.off e;simp at this;omega
 have I:(⟨B,i*2,none⟩:Addr)≠⟨B,k*2+1,none⟩:=fun e=>by
  have:=congrArg Addr.off e;simp at this;omega
 refine⟨⟨?_,by rw[cg,cg];exact q.1.2⟩,⟨?_,by rw[cg,cg];exact q.2.2⟩⟩
 ·rw[aU _ _ _ _ J];by_cases b:k=i
  ·subst b;rw[bQ _ _ _ s.1.1];simp
  have z:(⟨B,i*2,none⟩:Addr)≠⟨B,k*2,none⟩:=fun e=>by
   have:=congrArg Addr.off e;simp at this;omega
  rw[aU _ _ _ _ z,q.1.1];simp[Ne.symm b]
 by_cases b:k=i
 ·subst b;rw[bQ _ _ _ ((aU _ _ _ _ I).trans s.2.1)];simp
 have z:(⟨B,i*2+1,none⟩:Addr)≠⟨B,k*2+1,none⟩:=fun e=>by
  have:=congrArg Addr.off e;simp at this;omega
 rw[aU _ _ _ _ z,aU _ _ _ _ I,q.2.1];simp[Ne.symm b]
theorem qy(w:aQ)(ty:kr)(b o n c:Nat)(hn:0<n)(hc:∀j,j<n*2->(w.cell? ⟨b,o+j,none⟩).isSome=true)(hf:∀j,j<n*2->w.frozen? ⟨b,o+j,none⟩=false):
  (i7 #[57] ty #[.slice (some ⟨b,o,none⟩) n c]).run prog w=.ok (.tuple #[]) (w.setCells b o (de (n*2) (.int .i64 0))):=by
 have hv:∀w,(zeroValue 104).run prog w=.ok (.agg #[.int .i64 0,.int .i64 0]) w:=zeroValue104;have s:(en (Value.agg #[.int .i64 0,.int .i64 0]).cells n).toList=de (n*2) (.int .i64 0):=by
  apply List.ext_getElem
  ·simp[en,l_]
  intro i z B;simp only[en,l_,List.getElem_replicate];rcases bj i with e|e<;>simp[e]
 have q:=run_storeCells_cells (P:=prog) b o (de (n*2) (.int .i64 0)) 0 w (by simpa using hc) (by simpa using hf) (by intro v y;rw[List.eq_of_mem_replicate y];rfl);simp only[g4]at q;obtain⟨m,rfl⟩:∃m,n=m+1:=⟨n-1,by omega⟩;simp[i7,run_underlying dg,hv,s,q]
theorem gD(b x2 q s:Int)(W:aQ):(Op.equalIn 10000 104 (.agg #[.int .i64 b,.int .i64 x2]) (.agg #[.int .i64 q,.int .i64 s])).run prog W=.ok (b==q&&x2==s) W:=by
 have u3:=fn;have D:=nl;have G:=m6;have hS:prog.underlying 104=some (.struct (prog.fieldsOf 104)):=by kernel_rfl
 have y:prog.stoodInHeld 104=false:=by kernel_rfl
 rw[show(10000:Nat)=9999+1 from rfl,run_equalIn_agg W 9999 104 _ _ hS y];simp only[m9,underlying104];go_simp
 by_cases z:b=q<;>by_cases B:x2=s<;>simp[z,B]
theorem ND(xs:List aa)(B cap:Nat)(hl:xs.length<=1000000)(e9:xs.length<=cap)(w:aQ)(h:jo w B xs)(hB:B<w.heap.size):
  cs prog 98 #[.slice (some ⟨B,0,none⟩) xs.length cap] w fun e w'=>
   e=.returned (.slice (some ⟨B,0,none⟩) (aq xs).length cap)/\jo w' B (aq xs)/\ag (fun i=>i=B) w w':=by
 have H:=ap h;clear h;by_cases h2:xs.length<2
 ·have e:aq xs=xs:=by
   match xs,h2 with
   |[],_=>rfl
   |[a],_=>rfl
   |_::_::_,h=>simp at h;omega
  rw[e];have g1:decide ((xs.length:Int)<2)=true:=by simp;omega
  go_enter nJ,m8;go_wp2_with fail
  go_ret;exact⟨rfl,H.out,ag.refl _ _⟩
 have g1:decide ((xs.length:Int)<2)=false:=by simp;omega
 go_enter nJ,m8;go_wp2_with fail
 go_loopw [3] (fun kv w'=>∃k:Nat,1<=k/\k<=xs.length/\kv=.int .i64 k/\aq (xs.take k)=xs.take k/\Gr w w') (fun kv _=>xs.length-(intOf kv).toNat)
 case atStart=>exact⟨1,bu _,by omega,rfl,by cases xs<;>rfl,Gr.refl _⟩
 case round=>
  obtain⟨k,h1,hk,rfl,hs,Z⟩:=hrel;obtain⟨m,rfl⟩:∃m,k=m+1:=⟨k-1,by omega⟩;by_cases b5:m+1<xs.length
  ·have b:=H.out (m+1) b5;have G:=H.out m (by omega);have f1:=fun d Q=>aX (Z.keeps b.1.1) d Q;have f2:=fun d Q=>aX (Z.keeps b.2.1) d Q;have f3:=fun d Q=>aX (Z.keeps G.1.1) d Q;have f4:=fun d Q=>aX (Z.keeps G.2.1) d Q;have J:aq (xs.take (m+1+1))=if xs[m+1]=xs[m]'(by omega)then aq (xs.take (m+1))else aq (xs.take (m+1))++[xs[m+1]]:=jq xs (m+1) (by omega) b5
   have g6:(m:Int)+1<(xs.length:Int):=by omega
   have g7:(m:Int)<(xs.length:Int):=by omega
   generalize b6:xs[m+1]=x at*;generalize c8:xs[m]'(by omega)=y at*;by_cases he:x=y
   ·have a3:=(J.trans (if_pos he)).trans hs;clear J;subst he;obtain⟨x1,x2⟩:=x;simp only at f1 f2 f3 f4;have hq:∀W,(Op.equalIn 10000 104 (.agg #[.int .i64 x1,.int .i64 x2]) (.agg #[.int .i64 x1,.int .i64 x2])).run prog W=.ok true W:=fun W=>by
     rw[gD];simp
    clear b G;go_wp2_with fail
    refine az (by kernel_rfl) (by kernel_rfl) ?_
    repeat(go_big_quiet_step (fail))
    refine bc ?_;intro w3 a8;have Y:=Z.trans (bR a8);clear a8 f1 f2 f3 f4 Z;have g8:¬cap=m+1:=by omega
    have g9:(m:Int)+1<=(xs.length:Int):=by omega
    have b4:jo w3 B xs:=fun i hi=>⟨⟨Y.keeps (H.out i hi).1.1,(Y.frozen _ hB).trans (H.out i hi).1.2⟩,⟨Y.keeps (H.out i hi).2.1,(Y.frozen _ hB).trans (H.out i hi).2.2⟩⟩;have d6:=ap b4;have d7:=ap a3;clear b4 a3 b6 c8 hs;go_wp2_with fail
    go_loopw [3,5] (fun kv jv w'=>∃(q j:Nat) (I:List aa),1<=j/\m+1+j<=xs.length/\kv=.int .i64 q/\jv=.int .i64 j/\m+1<=q/\q<=m+j/\I.length=xs.length/\(∀i,q<=i->I[i]?=xs[i]?)/\aq (xs.take (m+1+j))=I.take q/\jo w' B I/\ag (fun i=>i=B) w w') (fun _ jv _=>xs.length-(intOf jv).toNat)
    case atStart=>exact⟨m+1,1,xs,bu _,by omega,by go_num,rfl,bu _,bu _,rfl,fun _ _=>rfl,d7.out,d6.out,ag.ah Y⟩
    case round=>
     obtain⟨q,j,I,h0,h3,rfl,rfl,d8,h4,a0,c9,d0,c0,a4⟩:=hrel;have s:=ap c0;have d3:=ap d0;have b7:=ap c9;clear c0 d0 c9 Y;by_cases g0:j<xs.length-(m+1)
     ·obtain⟨p,rfl⟩:∃p,j=p+1:=⟨j-1,by omega⟩;have c1:m+1+(p+1)<xs.length:=by omega
      have d9:I[m+1+(p+1)]'(by omega)=xs[m+1+(p+1)]:=by
       have:=b7.out (m+1+(p+1)) (by omega);rw[bz (by omega),bz c1]at this;exact bP this
      have e0:I[m+1+p]'(by omega)=xs[m+1+p]'(by omega):=by
       have:=b7.out (m+1+p) (by omega);rw[bz (by omega),bz (by omega)]at this;exact bP this
      have b:=s.out (m+1+(p+1)) (by omega);have G:=s.out (m+1+p) (by omega);rw[d9,show(m+1+(p+1))*2=(m+1)*2+(p+1)*2 by omega]at b;rw[e0,show(m+1+p)*2=(m+1)*2+p*2 by omega]at G;have f1:=fun d Q=>aX b.1.1 d Q;have f2:=fun d Q=>aX b.2.1 d Q;have f3:=fun d Q=>aX G.1.1 d Q;have f4:=fun d Q=>aX G.2.1 d Q;have J:aq (xs.take (m+1+(p+1)+1))=if xs[m+1+(p+1)]=xs[m+1+p]'(by omega)then aq (xs.take (m+1+(p+1)))else aq (xs.take (m+1+(p+1)))++[xs[m+1+(p+1)]]:=jq xs (m+1+(p+1)) (by omega) c1
      rw[d3.out]at J;have h5:(p:Int)+1<((xs.length-(m+1):Nat):Int):=by omega
      have h6:(p:Int)<((xs.length-(m+1):Nat):Int):=by omega
      generalize b6:xs[m+1+(p+1)]=x at*;generalize c8:xs[m+1+p]'(by omega)=y at*;by_cases he:x=y
      ·have a3:=J.trans (if_pos he);clear J;subst he;obtain⟨U,V⟩:=x;simp only at f1 f2 f3 f4;have hq:∀W,(Op.equalIn 10000 104 (.agg #[.int .i64 U,.int .i64 V]) (.agg #[.int .i64 U,.int .i64 V])).run prog W=.ok true W:=fun W=>by
        rw[gD];simp
       clear b G;go_wp2_with fail
       refine az (by kernel_rfl) (by kernel_rfl) ?_
       repeat(go_big_quiet_step (fail))
       refine bc ?_;intro w4 a9;have D:=bR a9;clear a9 f1 f2 f3 f4;have a5:B<wr.heap.size:=bh hB a4.2.2.2.1;go_wp2_with fail
       exact⟨⟨q,p+2,I,by omega,by omega,rfl,by go_num,d8,by omega,a0,b7.out,a3,s.out.gr D a5,a4.trans (ag.ah D)⟩,by simp[intOf];omega⟩
      have a3:=J.trans (if_neg he);clear J;obtain⟨U,V⟩:=x;obtain⟨b1,b2⟩:=y;simp only at f1 f2 f3 f4;have hq:∀W,(Op.equalIn 10000 104 (.agg #[.int .i64 U,.int .i64 V]) (.agg #[.int .i64 b1,.int .i64 b2])).run prog W=.ok false W:=fun W=>by
       rw[gD,show(U==b1&&V==b2)=false from by
        rw[cO];intro h;simp only[cj,beq_iff_eq]at h;exact he (by rw[h.1,h.2])]
      go_wp2_with fail
      refine az (by kernel_rfl) (by kernel_rfl) ?_
      repeat(go_big_quiet_step (fail))
      refine bc ?_;intro w4 a9;have D:=bR a9;clear a9 f1 f2 f3 f4;have a5:B<wr.heap.size:=bh hB a4.2.2.2.1;have e1:=D.keeps b.1.1;have e2:=D.keeps b.2.1;have b0:=s.out q (by omega);have d1:=D.keeps b0.1.1;have d2:=D.keeps b0.2.1;have z1:=(D.frozen _ a5).trans b0.1.2;have z2:=(D.frozen _ a5).trans b0.2.2;have h7:(q:Int)<(xs.length:Int):=by omega
      clear b G b0;go_wp2_with fail
      go_roundw
      case measure=>
       simp[intOf];omega
      case rel=>
       have L:∀i,q+1<=i->(I.set q (U,V))[i]?=xs[i]?:=fun i hi=>by
        rw[List.getElem?_set_ne (by omega)];exact b7.out i (by omega)
       have M:aq (xs.take (m+1+(p+2)))=(I.set q (U,V)).take (q+1):=by
        rw[show m+1+(p+2)=m+1+(p+1)+1 by omega,a3,bt (by rw[bB];omega),List.take_set_of_le (bu q)];simp
       have z:=(s.out.gr D a5).set (i:=q) (by omega) U V;have O:=((a4.trans (ag.ah D)).trans (ag.setCell (S:=fun i=>i=B) w4 (p:=⟨B,q*2,none⟩) (.int .i64 U) rfl)).trans (ag.setCell (S:=fun i=>i=B) _ (p:=⟨B,q*2+1,none⟩) (.int .i64 V) rfl)
       first|exact⟨_,_,_,_,_,_,_,_,_,_,_,_,_,_,_,_,_,_,_,_,_,_,_,_,_,_,⟨q+1,p+2,I.set q (U,V),by omega,by omega,by go_num,by go_num,by omega,by omega,by rw[bB];exact a0,L,M,z,O⟩,rfl⟩|exact⟨_,_,_,_,_,_,_,_,_,_,_,_,_,_,_,_,_,_,_,_,_,_,_,_,_,_,_,⟨q+1,p+2,I.set q (U,V),by omega,by omega,by go_num,by go_num,by omega,by omega,by rw[bB];exact a0,L,M,z,O⟩,rfl⟩|exact⟨_,_,_,_,_,_,_,_,_,_,_,_,_,_,_,_,_,_,_,_,_,_,_,_,_,⟨q+1,p+2,I.set q (U,V),by omega,by omega,by go_num,by go_num,by omega,by omega,by rw[bB];exact a0,L,M,z,O⟩,rfl⟩|exact⟨_,_,_,_,_,_,_,_,_,_,_,_,_,_,_,_,_,_,_,_,_,_,_,_,_,_,_,_,⟨q+1,p+2,I.set q (U,V),by omega,by omega,by go_num,by go_num,by omega,by omega,by rw[bB];exact a0,L,M,z,O⟩,rfl⟩|exact⟨_,_,_,_,_,_,_,_,_,_,_,_,_,_,_,_,_,_,_,_,_,_,_,_,⟨q+1,p+2,I.set q (U,V),by omega,by omega,by go_num,by go_num,by omega,by omega,by rw[bB];exact a0,L,M,z,O⟩,rfl⟩|exact⟨_,_,_,_,_,_,_,_,_,_,_,_,_,_,_,_,_,_,_,_,_,_,_,_,_,_,_,_,_,⟨q+1,p+2,I.set q (U,V),by omega,by omega,by go_num,by go_num,by omega,by omega,by rw[bB];exact a0,L,M,z,O⟩,rfl⟩
     have g3:m+1+j=xs.length:=by omega
     have b3:=d3.out;rw[aV (by omega)]at b3;have a5:B<wr.heap.size:=bh hB a4.2.2.2.1;have h8:q<xs.length:=by omega
     have h9:=qy wr 0 B (q*2) (xs.length-q) (cap-q) (by omega) (fun j hj=>by
      have hh:=s.out (q+j/2) (by omega);rcases bj j with e|e
      ·rw[show q*2+j=(q+j/2)*2 by omega,hh.1.1]
       rfl
      ·rw[show q*2+j=(q+j/2)*2+1 by omega,hh.2.1]
       rfl) (fun j hj=>by
      have hh:=s.out (q+j/2) (by omega);rcases bj j with e|e
      ·rw[show q*2+j=(q+j/2)*2 by omega,hh.1.2]
      rw[show q*2+j=(q+j/2)*2+1 by omega,hh.2.2])
     go_wp2_with fail
     go_ret;have c2:(I.take q).length=q:=by
      rw[iF];omega
     have c3:=World.cell?_setCells_out B (de ((xs.length-q)*2) (.int .i64 0)) (q*2) wr;have c4:=World.frozen?_setCells B (de ((xs.length-q)*2) (.int .i64 0)) (q*2) wr;refine⟨by rw[b3,c2];rfl,?_,a4.trans (ag.setCells B _ _ wr rfl)⟩;rw[b3];intro i hi;rw[c2]at hi;have hh:=s.out i (by omega);rw[List.getElem_take];exact⟨⟨(c3 _ (fun _ _=>Or.inl (by show i*2<q*2;omega))).trans hh.1.1,(c4 _).trans hh.1.2⟩,⟨(c3 _ (fun _ _=>Or.inl (by show i*2+1<q*2;omega))).trans hh.2.1,(c4 _).trans hh.2.2⟩⟩
   obtain⟨x1,x2⟩:=x;obtain⟨y1,y2⟩:=y;simp only at f1 f2 f3 f4;have hq:∀W,(Op.equalIn 10000 104 (.agg #[.int .i64 x1,.int .i64 x2]) (.agg #[.int .i64 y1,.int .i64 y2])).run prog W=.ok false W:=fun W=>by
    rw[gD,show(x1==y1&&x2==y2)=false from by
     rw[cO];intro h;simp only[cj,beq_iff_eq]at h;exact he (by rw[h.1,h.2])]
   clear b G;go_wp2_with fail
   refine az (by kernel_rfl) (by kernel_rfl) ?_
   repeat(go_big_quiet_step (fail))
   refine bc ?_;intro w3 a8;have Y:=Z.trans (bR a8);clear a8 f1 f2 f3 f4 Z;go_wp2_with fail
   refine⟨⟨m+2,by omega,by omega,by go_num,?_,Y⟩,by simp[intOf];omega⟩;rw[bt b5,b6];have:=J;rw[if_neg he,bt b5,b6,hs]at this;exact this
  obtain i0:m+1=xs.length:=by omega
  go_wp2_with fail
  go_ret;have e:aq xs=xs:=by
   have:=hs;rw[aV (by omega)]at this;exact this
  rw[e];exact⟨rfl,fun i hi=>⟨⟨Z.keeps (H.out i hi).1.1,(Z.frozen _ hB).trans (H.out i hi).1.2⟩,⟨Z.keeps (H.out i hi).2.1,(Z.frozen _ hB).trans (H.out i hi).2.2⟩⟩,ag.ah Z⟩
end
section
open Go Go.RowKit
def Do(l:List UInt8):Option (Nat×List UInt8):=go 5 l
def lJ(l:List UInt8):be:=match Do l with
 |some (n,r)=>.tuple #[.int .i64 (n:Int),.string ⟨r.toArray⟩,.bool true]
 |none=>.tuple #[.int .i64 0,.string ⟨#[]⟩,.bool false]
def GB(l:List UInt8)(k n:Nat):Prop:=n<128^k/\Do l=(go (5-k) (l.drop k)).map fun x=>(n+128^k*x.1,x.2)
theorem NE(l:List UInt8):GB l 0 0:=⟨by simp,by simp[Do]⟩
theorem pw{l:List UInt8}{k n:Nat}(h:GB l k n)(B:k<5)(y:k<l.length)(hc:¬l[k].toNat<128):GB l (k+1) (n+128^k*(l[k].toNat-128)):=by
 have D:=eb l[k];refine⟨?_,?_⟩
 ·have s:=h.1;rw[ea];generalize 128^k=P at s⊢;have b:P*(l[k].toNat-128)<=P*127:=Nat.mul_le_mul_left _ (by omega);exact Nat.lt_of_lt_of_eq (Nat.add_lt_add_of_lt_of_le s b) (by omega)
 have b:=h.2;obtain⟨m,z⟩:∃m,5-k=m+1:=⟨4-k,by omega⟩;have q:5-(k+1)=m:=by omega
 rw[z,el y,go,if_neg hc,fA]at b;rw[b,q];refine eT fun x _=>?_;simp only[ms,cf,and_true];rw[ea,md,<-Nat.mul_assoc,jE]
theorem rx{l:List UInt8}{k n:Nat}(h:GB l k n)(s:k<5)(q:k<l.length)(hc:l[k].toNat<128):Do l=some (n+128^k*l[k].toNat,l.drop (k+1)):=by
 have b:=h.2;rw[el q,show 5-k=(5-(k+1))+1 by omega,go,if_pos hc]at b;exact b
theorem Ra{l:List UInt8}{k n:Nat}(h:GB l k n)(q:k=5\/l.length<=k):Do l=none:=by
 have b:=h.2;rcases q with rfl|q
 ·rw[Nat.sub_self,go]at b;exact b
 rw[List.drop_of_length_le q]at b;rw[b];cases 5-k<;>rfl
theorem Vu(c:UInt8):bits ik fT (c.toNat:Int) 127=((c.toNat % 128:Nat):Int):=by
 have h:∀r:Fin 256,bits ik fT ((r.val:Nat):Int) 127=((r.val % 128:Nat):Int):=by decide+kernel
 exact h ⟨c.toNat,eb c⟩
theorem Rb(n d k:Nat)(hn:n<128^k)(s:k<5)(hd:d<128):bits lr dS (n:Int) ((128^k*d:Nat):Int)=((n+128^k*d:Nat):Int):=by
 have q:128^k<=268435456:=by
  rw[show(268435456:Nat)=128^4 by decide];exact Nat.pow_le_pow_right (by omega) (by omega)
 have y:128^k*d<=268435456*127:=Nat.mul_le_mul q (by omega);show dS.wrap ((cW 64 (n:Int)|||cW 64 ((128^k*d:Nat):Int)).toNat:Int)=_;rw[BitVec.toNat_or,eU _ (by omega),eU _ (by omega),eA];have h:=Nat.two_pow_add_eq_or_of_lt (i:=7*k) (b:=n) (by rw[mm];exact hn) d;rw[mm,show(2:Nat)^7=128 by decide]at h;rw[Nat.or_comm,<-h];omega
theorem Jc(s:ByteArray)(hs:s.size<4294967281)(w:aQ):cs prog 123 #[.string s] w (ar w (lJ s.data.toList)):=by
 go_enter func123,ntmps123;go_wp2_with fail
 go_loop [10,5] (fun i u=>∃k n:Nat,k<=5/\k<=s.size/\i=.int .i64 k/\u=.int .i64 n/\GB s.data.toList k n) (fun i _=>5-(intOf i).toNat)
 case atStart=>exact⟨0,0,by omega,by omega,rfl,rfl,NE _⟩
 case round=>
  obtain⟨k,n,U,V,rfl,rfl,hi⟩:=hrel;have L:=ap hi;have hn:=hi.1;clear hi;by_cases B:k<5/\k<s.size
  ·obtain⟨S,B⟩:=B;have Q:(k:Int)<min (s.size:Int) 5:=by omega
   have Y:=eb s[k];have O:=bm s k B;have hb:=Vu s[k];have hd:=m1 s[k].toNat (show 128>0 by omega);generalize Z:s[k]=H at*;generalize D:H.toNat % 128=d at*;have b:=ap O;have G:=ap D;have M:=Rb n d k hn S hd;clear O D;rcases(show k=0\/k=1\/k=2\/k=3\/k=4 by omega)with rfl|rfl|rfl|rfl|rfl
   ·simp only[dD,dQ,cF,bZ,bX,aS _ (d:Int)]at M hn;cases q:decide ((H.toNat:Int)<128)
    ·go_wp2_with fail
     simp only[decide_eq_false_iff_not]at q;have z:=pw L.out (by omega) (by rw[<-size_data];exact B) (by rw[<-b.out];omega);rw[<-b.out]at z;have D:=G.out;refine⟨⟨_,_,?_,?_,?_,?_,z⟩,by simp[intOf]⟩
     ·omega
     ·omega
     ·rfl
     rw[show H.toNat-128=d by omega];simp[aS]
    simp only[decide_eq_true_eq]at q;have y:=rx L.out (by omega) (by rw[<-size_data];exact B) (by rw[<-b.out];omega);rw[<-b.out]at y;have D:=G.out;have I:=ap y;clear y;go_wp2_with fail
    go_region
    go_wp2
    have J:s.extract 1 s.size=⟨(s.data.toList.drop 1).toArray⟩:=by
     apply bE;rw[cl,aV (by rw[co,<-size_data];omega)]
    refine bA (v:=.tuple #[.int .i64 ((n:Int)+(d:Int)),.string (s.extract 1 s.size),.bool true]) (by simp[dF,b_,go_sem]) rfl ?_;unfold lJ;rw[I.out,J];refine ar.mk ?_ (by repeat(first|exact Gr.refl _|refine Gr.drew ?_));simp only;rw[show H.toNat=d by omega];simp[aS]
   ·simp only[dD,dQ,cF,bZ,bX,aS _ (d:Int)]at M hn;cases q:decide ((H.toNat:Int)<128)
    ·go_wp2_with fail
     simp only[decide_eq_false_iff_not]at q;have z:=pw L.out (by omega) (by rw[<-size_data];exact B) (by rw[<-b.out];omega);rw[<-b.out]at z;have D:=G.out;refine⟨⟨_,_,?_,?_,?_,?_,z⟩,by simp[intOf]⟩
     ·omega
     ·omega
     ·rfl
     rw[show H.toNat-128=d by omega];simp[aS]
    simp only[decide_eq_true_eq]at q;have y:=rx L.out (by omega) (by rw[<-size_data];exact B) (by rw[<-b.out];omega);rw[<-b.out]at y;have D:=G.out;have I:=ap y;clear y;go_wp2_with fail
    go_region
    go_wp2
    have J:s.extract 2 s.size=⟨(s.data.toList.drop 2).toArray⟩:=by
     apply bE;rw[cl,aV (by rw[co,<-size_data];omega)]
    refine bA (v:=.tuple #[.int .i64 ((n:Int)+(d:Int)*128),.string (s.extract 2 s.size),.bool true]) (by simp[dF,b_,go_sem]) rfl ?_;unfold lJ;rw[I.out,J];refine ar.mk ?_ (by repeat(first|exact Gr.refl _|refine Gr.drew ?_));simp only;rw[show H.toNat=d by omega];simp[aS]
   ·simp only[dD,dQ,cF,bZ,bX,aS _ (d:Int)]at M hn;cases q:decide ((H.toNat:Int)<128)
    ·go_wp2_with fail
     simp only[decide_eq_false_iff_not]at q;have z:=pw L.out (by omega) (by rw[<-size_data];exact B) (by rw[<-b.out];omega);rw[<-b.out]at z;have D:=G.out;refine⟨⟨_,_,?_,?_,?_,?_,z⟩,by simp[intOf]⟩
     ·omega
     ·omega
     ·rfl
     rw[show H.toNat-128=d by omega];simp[aS]
    simp only[decide_eq_true_eq]at q;have y:=rx L.out (by omega) (by rw[<-size_data];exact B) (by rw[<-b.out];omega);rw[<-b.out]at y;have D:=G.out;have I:=ap y;clear y;go_wp2_with fail
    go_region
    go_wp2
    have J:s.extract 3 s.size=⟨(s.data.toList.drop 3).toArray⟩:=by
     apply bE;rw[cl,aV (by rw[co,<-size_data];omega)]
    refine bA (v:=.tuple #[.int .i64 ((n:Int)+(d:Int)*16384),.string (s.extract 3 s.size),.bool true]) (by simp[dF,b_,go_sem]) rfl ?_;unfold lJ;rw[I.out,J];refine ar.mk ?_ (by repeat(first|exact Gr.refl _|refine Gr.drew ?_));simp only;rw[show H.toNat=d by omega];simp[aS]
   ·simp only[dD,dQ,cF,bZ,bX,aS _ (d:Int)]at M hn;cases q:decide ((H.toNat:Int)<128)
    ·go_wp2_with fail
     simp only[decide_eq_false_iff_not]at q;have z:=pw L.out (by omega) (by rw[<-size_data];exact B) (by rw[<-b.out];omega);rw[<-b.out]at z;have D:=G.out;refine⟨⟨_,_,?_,?_,?_,?_,z⟩,by simp[intOf]⟩
     ·omega
     ·omega
     ·rfl
     rw[show H.toNat-128=d by omega];simp[aS]
    simp only[decide_eq_true_eq]at q;have y:=rx L.out (by omega) (by rw[<-size_data];exact B) (by rw[<-b.out];omega);rw[<-b.out]at y;have D:=G.out;have I:=ap y;clear y;go_wp2_with fail
    go_region
    go_wp2
    have J:s.extract 4 s.size=⟨(s.data.toList.drop 4).toArray⟩:=by
     apply bE;rw[cl,aV (by rw[co,<-size_data];omega)]
    refine bA (v:=.tuple #[.int .i64 ((n:Int)+(d:Int)*2097152),.string (s.extract 4 s.size),.bool true]) (by simp[dF,b_,go_sem]) rfl ?_;unfold lJ;rw[I.out,J];refine ar.mk ?_ (by repeat(first|exact Gr.refl _|refine Gr.drew ?_));simp only;rw[show H.toNat=d by omega];simp[aS]
   simp only[dD,dQ,cF,bZ,bX,aS _ (d:Int)]at M hn;cases q:decide ((H.toNat:Int)<128)
   ·go_wp2_with fail
    simp only[decide_eq_false_iff_not]at q;have z:=pw L.out (by omega) (by rw[<-size_data];exact B) (by rw[<-b.out];omega);rw[<-b.out]at z;have D:=G.out;refine⟨⟨_,_,?_,?_,?_,?_,z⟩,by simp[intOf]⟩
    ·omega
    ·omega
    ·rfl
    rw[show H.toNat-128=d by omega];simp[aS]
   simp only[decide_eq_true_eq]at q;have y:=rx L.out (by omega) (by rw[<-size_data];exact B) (by rw[<-b.out];omega);rw[<-b.out]at y;have D:=G.out;have I:=ap y;clear y;go_wp2_with fail
   go_region
   go_wp2
   have J:s.extract 5 s.size=⟨(s.data.toList.drop 5).toArray⟩:=by
    apply bE;rw[cl,aV (by rw[co,<-size_data];omega)]
   refine bA (v:=.tuple #[.int .i64 ((n:Int)+(d:Int)*268435456),.string (s.extract 5 s.size),.bool true]) (by simp[dF,b_,go_sem]) rfl ?_;unfold lJ;rw[I.out,J];refine ar.mk ?_ (by repeat(first|exact Gr.refl _|refine Gr.drew ?_));simp only;rw[show H.toNat=d by omega];simp[aS]
  have Q:¬(k:Int)<min (s.size:Int) 5:=by omega
  go_wp2_with fail
  refine bA (v:=.tuple #[.int .i64 0,.string ⟨#[]⟩,.bool false]) (by simp[dF,b_,go_sem]) rfl ?_;unfold lJ;rw[Ra L.out (by rw[<-size_data];omega)];exact ar.mk rfl (Gr.refl _)
def dp(xs:List aa):List be:=xs.flatMap fun p=>[.int .i64 p.1,.int .i64 p.2]
def ci(a0 w:aQ)(v:be)(xs:List aa):Prop:=w.ownsRow a0.heap.size 104 2 v xs.length (dp xs)
theorem ci.row{a0 w:aQ}{v:be}{xs:List aa}(h:ci a0 w v xs):w.ownsRow a0.heap.size 104 2 v xs.length (dp xs):=h
theorem lj:(prog.info? 104).map (fun i=>(i.zero,i.size,i.bytes))=some (some (.agg #[.int .i64 0,.int .i64 0]),2,16):=by kernel_rfl
theorem sA{a0 w:aQ}{v:be}{xs:List aa}{x:aa}(h:w.ownsRow a0.heap.size 104 2 v (xs.length+1) (dp xs++[.int .i64 x.1,.int .i64 x.2])):ci a0 w v (xs++[x]):=by
 unfold ci;have e:dp (xs++[x])=dp xs++[.int .i64 x.1,.int .i64 x.2]:=by unfold dp;rw[dT];simp
 rw[e,aJ];exact h
theorem kH(a b:Int):∀u∈[na .i64 a,na .i64 b],u.oneCell'=true:=by
 intro u hu;simp only[bv,List.mem_nil_iff,or_false]at hu;rcases hu with rfl|rfl<;>rfl
theorem nw:∀(xs:List aa) (i:Nat) (h:i<xs.length),(dp xs)[i*2]?=some (.int .i64 xs[i].1)/\(dp xs)[i*2+1]?=some (.int .i64 xs[i].2)
 |[],i,h=>by simp at h
 |x::xs,0,_=>by simp[dp]
 |x::xs,i+1,h=>by
  have:=nw xs i (by simpa using h);have e:(i+1)*2=i*2+2:=by omega
  rw[e];unfold dp;rw[hO];simpa[dp]using this
theorem ci.places{a0 w:aQ}{v:be}{xs:List aa}(h:ci a0 w v xs):∃y b c,v=.slice y xs.length c/\(0<xs.length->y=some ⟨b,0,none⟩)/\cq w b 0 xs:=by
 have hc:=fun g q=>fK (g:=g) h.row q;rcases h.row.2 with⟨rfl,D⟩|⟨g,cap,G,rfl,_⟩
 ·have s:xs.length=0:=D;exact⟨none,0,0,by rw[s],fun h=>by omega,fun i hi=>by omega⟩
 refine⟨_,g,cap,rfl,fun _=>rfl,fun i hi=>?_⟩;have q:=nw xs i hi;have z:=hc g rfl _ _ q.1;have B:=hc g rfl _ _ q.2;have e:∀j,(⟨g,0,none⟩:Addr).add j=⟨g,0+j,none⟩:=by
  intro j;unfold Addr.add;split<;>simp_all
 rw[e]at z B;exact⟨z,by rw[jE];exact B⟩
def kS(w:aQ)(l:List UInt8)(e:Ending)(w':aQ):Prop:=
 match kQ l with
 |none=>e=.returned (.tuple #[.slice none 0 0,.iface 24 (.int .i64 3)])/\Gr w w'
 |some xs=>∃v,e=.returned (.tuple #[v,.nilIface])/\ci w w' v xs/\Gr w w'
theorem and_one(n:Nat)(h:n<9223372036854775808):bits ik dS (n:Int) 1=((n % 2:Nat):Int):=by
 show dS.wrap ((cW 64 (n:Int)&&&cW 64 ((1:Nat):Int)).toNat:Int)=_;rw[iu,eU _ (by omega),eU _ (by omega),dr n 1];rw[eA];omega
theorem sB{l r:List UInt8}{n:Nat}(h:go 5 l=some (n,r)):lJ l=.tuple #[.int .i64 (n:Int),.string ⟨r.toArray⟩,.bool true]:=by
 unfold lJ Do;rw[h]
theorem yn{l:List UInt8}(h:go 5 l=none):lJ l=.tuple #[.int .i64 0,.string ⟨#[]⟩,.bool false]:=by
 unfold lJ Do;rw[h]
theorem Lm{l:List UInt8}(h:lY (0,0) l=none):kQ l=none:=by unfold kQ;rw[h]
theorem lK{P:Program}{a0 w:aQ}{y:Array Oper}{rest:List Oper}{o:Oper}{a:Act}{Q:Exit->Act->aQ->Prop}(G:o.guard=none)(s x:m7)(t:kr)
  (S:o.op=.call {callee:=.builtin .append,args:=#[s,x],argTypes:=#[t,t]}) (e:kr) (i:TypeInfo) (z:be) (size bytes:Nat) (U:P.underlying t=some (.slice e)) (hi:P.info? e=some i)
  (V:i.zero=some z) (q:i.size=size) (I:i.bytes=bytes) (J:z.cells.size=size) (L:0<size) (v:be) (n:Nat) (xs:List be) (hs:a.eval s=v) (B:w.ownsRow a0.heap.size e size v n xs)
  (us:List be) (M:us.length=size) (Y:∀u∈us,u.oneCell'=true) (H:Nat) (Z:w.heap.size=H) (hx:a.eval x=.slice (some ⟨H,0,none⟩) 1 1) (hg:Gr a0 w) (O:n+1<=4611686018427387904) (b:(n+1)*bytes<=140737488355328)
  (h:∀D w',w'.ownsRow a0.heap.size e size D (n+1) (xs++us)->Gr a0 w'->kn v D w w'->wpList P y Q rest (a.put o.dst D) w'):wpList P y Q (o::rest) a (w.alloc (.cells us.toArray e)):=by
 subst Z;exact qL G s x t S e i z size bytes U hi V q I J L v n xs hs B us M Y hx hg O b h
def Ym(w:aQ)(L:Nat)(s:ByteArray)(x u:be)(w':aQ):Prop:=
 ∃(t:ByteArray) (us:List aa) (a:aa),x=.string t/\t.size+us.length<=s.size/\Gr w w'/\ci w w' u us/\u.ownBlock≠some L/\L<w'.heap.size/\
  (w'.cell? ⟨L,0,none⟩=some (.int .i64 a.1)/\w'.cell? ⟨L,1,none⟩=some (.int .i64 a.2)/\∀o,w'.frozen? ⟨L,o,none⟩=false)/\
  (0<=a.1/\a.1<=34359738368*us.length/\0<=a.2/\a.2<=34359738368*(us.length+1))/\lY (0,0) s.data.toList=(lY a t.data.toList).map (us++·)
theorem TL{l t r:List UInt8}{us:List aa}{b q:Int}{n:Nat}(h:lY (0,0) l=(lY (b,q) t).map (us++·))(s:go 5 t=some (n,r))(y:n % 2=0):
  lY (0,0) l=(lY (b,q+(n:Int)/2) r).map ((us++[(b,q+(n:Int)/2)])++·):=by
 rw[h,Gx s y,fA,show((n/2:Nat):Int)=(n:Int)/2 by omega];refine eT fun x _=>?_;simp
theorem Vv{l t r q:List UInt8}{us:List aa}{b y:Int}{n m:Nat}(h:lY (0,0) l=(lY (b,y) t).map (us++·))(z:go 5 t=some (n,r))(B:¬n % 2=0)(s:go 5 r=some (m,q)):
  lY (0,0) l=(lY (b+(n:Int)/2,(m:Int)) q).map ((us++[(b+(n:Int)/2,(m:Int))])++·):=by
 rw[h,Lf z B s,fA,show((n/2:Nat):Int)=(n:Int)/2 by omega];refine eT fun x _=>?_;simp
theorem PE{l t:List UInt8}{us:List aa}{a:aa}(h:lY (0,0) l=(lY a t).map (us++·))(b:lY a t=none):kQ l=none:=by
 apply Lm;rw[h,b];rfl
theorem Vw(s:ByteArray)(hs:s.size<=1000000)(w:aQ):cs prog 70 #[.string s] w (kS w s.data.toList):=by
 obtain⟨i0,hi,c4,c5,c6⟩:=m2 lj;go_enter func70,ntmps70;go_wp2_with fail
 have e3:=(Gr.refl w).alloc (.cells #[.int .i64 0,.int .i64 0] 104);have q0:(w.alloc (.cells #[.int .i64 0,.int .i64 0] 104)).cell? ⟨w.heap.size,0,none⟩=some (.int .i64 0):=by rw[ae];rfl
 have q1:(w.alloc (.cells #[.int .i64 0,.int .i64 0] 104)).cell? ⟨w.heap.size,1,none⟩=some (.int .i64 0):=by rw[ae];rfl
 have z0:∀o,(w.alloc (.cells #[.int .i64 0,.int .i64 0] 104)).frozen? ⟨w.heap.size,o,none⟩=false:=fun o=>by simp
 have c7:w.heap.size<(w.alloc (.cells #[.int .i64 0,.int .i64 0] 104)).heap.size:=by simp
 generalize(w.alloc (.cells #[.int .i64 0,.int .i64 0] 104))=W0 at*;generalize c8:w.heap.size=L at c7 q0 q1 z0⊢;have S:w.heap.size<=L:=ks c8;clear c8;have HQ:=ap (And.intro q0 (And.intro q1 z0));clear q0 q1 z0;go_loopw [6,4] (fun x u w'=>Ym w L s x u w') (fun x _ _=>lenOf x)
 case atStart=>exact⟨s,[],(0,0),rfl,by simp,e3,⟨rfl,.inl ⟨rfl,rfl⟩⟩,by simp[iT],c7,HQ.out,by simp,by simp⟩
 case round=>
  obtain⟨t,us,⟨G,a2⟩,rfl,e4,hg,ho,B,c9,⟨q0,q1,z⟩,e5,d0⟩:=hrel;have HO:=ap ho;have HR:=ap d0;clear ho d0;simp only at q0 q1 e5;by_cases M:t.data.toList=[]
  ·have hb:(!t.toList.isEmpty)=false:=by rw[dZ,M];rfl
   have HT:=ap M;clear M;rw[HT.out]at HR;have d2:lY (0,0) s.data.toList=some us:=by rw[HR.out,Le];simp
   have b3:=ap d2;clear d2;obtain⟨ao,bb,cc,rfl,d3,d4⟩:=ci.places HO.out;have HA:=ap d3;have HP:=ap d4;clear d3 d4;go_wp2_with fail
   refine(Dl us bb 0 cc ao HA.out (by omega) _ HP.out).mono ?_;rintro e Q ⟨rfl,b⟩;cases U:dG us
   ·have H:kQ s.data.toList=none:=by unfold kQ;rw[b3.out];simp[U]
    have Y:=ap H;unfold AM wS;simp only[U];clear U H;go_wp2_with fail
    refine bA (v:=.tuple #[.slice none 0 0,.iface 24 (.int .i64 3)]) (by simp[dF,dh,go_sem]) rfl ?_;unfold kS;rw[Y.out];exact⟨rfl,hg.trans b⟩
   have b4:(wS us)=cT us:=by unfold wS;rw[U];rfl
   have b5:AM us=.nilIface:=by unfold AM;rw[U];rfl
   rw[b4,b5];cases hw:cT us==s.data.toList
   ·have H:kQ s.data.toList=none:=by unfold kQ;rw[b3.out];simp[U,hw]
    have Y:=ap H;clear U H b4 b5;have i1:(cT us==s.toList)=false:=by rw[dZ];exact hw
    clear hw;go_wp2_with fail
    refine bA (v:=.tuple #[.slice none 0 0,.iface 24 (.int .i64 3)]) (by simp[dF,dh,go_sem]) rfl ?_;unfold kS;rw[Y.out];exact⟨rfl,hg.trans b⟩
   have H:kQ s.data.toList=some us:=by unfold kQ;rw[b3.out];simp[U,hw]
   have Y:=ap H;have d5:(⟨(cT us).toArray⟩:ByteArray)=s:=by apply bE;simpa using hw
   rw[d5];clear U H b4 b5 d5;go_wp2_with fail
   refine bA (v:=.tuple #[.slice ao us.length cc,.nilIface]) (by simp[dF,dh,go_sem]) rfl ?_;unfold kS;rw[Y.out];exact⟨_,rfl,aF (ci.row HO.out) b,hg.trans b⟩
  have hb:(!t.toList.isEmpty)=true:=by rw[dZ];simpa using M
  have HT:=ap M;clear M;cases O:go 5 t.data.toList with
  |none=>
   have HG:=ap O;clear O;go_wp2_with fail
   refine(Jc t (by omega) _).mono ?_;rintro e Q ⟨rfl,b⟩;rw[yn HG.out];go_wp2_with fail
   refine bA (v:=.tuple #[.slice none 0 0,.iface 24 (.int .i64 3)]) (by simp[dF,dh,go_sem]) rfl ?_;unfold kS;rw[PE HR.out (Q3 HT.out HG.out)];exact⟨rfl,hg.trans b⟩
  |some nr=>
   obtain⟨n,r⟩:=nr;have HG:=ap O;have e6:=Lc 5 _ _ _ O;have d6:=yi 5 _ _ _ O;rw[show 128^5=34359738368 by decide]at e6;rw[<-size_data]at d6;have b1:=and_one n (by omega);obtain⟨R,rfl⟩:∃R:ByteArray,R.data.toList=r:=⟨⟨r.toArray⟩,rfl⟩;rw[<-size_data]at d6;clear O;by_cases a4:n % 2=0
   ·have I:((n % 2:Nat):Int)=0:=by omega
    rw[I]at b1;go_wp2_with fail
    refine(Jc t (by omega) _).mono ?_;rintro e Q ⟨rfl,b⟩;rw[sB HG.out];have b6:=b.keeps q0;have b7:=b.keeps q1;have z':=fun o=>(b.frozen o c9).trans (z o);have e7:=z' 0;have e8:=z' 1;have b8:=cX (aF (ci.row HO.out) b) (a:=⟨L,1,none⟩) (u:=.int .i64 (a2+(n:Int)/2)) B;have b9:=(hg.trans b).setCell (p:=⟨L,1,none⟩) S (.int .i64 (a2+(n:Int)/2));have c0:(Q.setCell ⟨L,1,none⟩ (.int .i64 (a2+(n:Int)/2))).cell? ⟨L,0,none⟩=some (.int .i64 G):=(aU _ _ _ _ (by simp)).trans b6;have c1:(Q.setCell ⟨L,1,none⟩ (.int .i64 (a2+(n:Int)/2))).cell? ⟨L,1,none⟩=some (.int .i64 (a2+(n:Int)/2)):=bQ _ _ _ b7;have i2:=b.size;go_wp2_with(at_builtin;refine lK (a0:=w) rfl _ _ 57 rfl 104 i0 (.agg #[.int .i64 0,.int .i64 0]) 2 16 dg hi c4 c5 c6 rfl (by decide) _ _ _ rfl b8 [_,_] rfl (kH _ _) Q.heap.size (by simp) rfl b9 (by omega) (by omega) ?_;intro v4 w4 J c2 q)
    have Z:=q.2 L (by simp;omega) B;refine⟨⟨R,us++[(G,a2+(n:Int)/2)],(G,a2+(n:Int)/2),rfl,by rw[aJ];simp only[ak,cK];omega,c2,sA (x:=(G,a2+(n:Int)/2)) J,Z.1,by have:=q.1;simp at this;omega,⟨q.keeps B c0,q.keeps B c1,fun o=>(Z.2 o).2.trans (by simpa using z' o)⟩,?_,TL HR.out HG.out a4⟩,?_⟩
    ·rw[aJ];simp only[ak,cK];omega
    show R.size<t.size;omega
   have I:((n % 2:Nat):Int)=1:=by omega
   rw[I]at b1;go_wp2_with fail
   refine(Jc t (by omega) _).mono ?_;rintro e Q ⟨rfl,b⟩;rw[sB HG.out];have b6:=b.keeps q0;have b7:=b.keeps q1;have z':=fun o=>(b.frozen o c9).trans (z o);have e7:=z' 0;have e8:=z' 1;have i3:=b.size;have d7:=((hg.trans b).setCell (p:=⟨L,0,none⟩) S (.int .i64 (G+(n:Int)/2))).setCell (p:=⟨L,1,none⟩) S (.int .i64 0);have tw:=Cf (u:=.int .i64 (G+(n:Int)/2)) (v:=.int .i64 0) b6 b7;have e9:=cX (cX (aF (ci.row HO.out) b) (a:=⟨L,0,none⟩) (u:=.int .i64 (G+(n:Int)/2)) B) (a:=⟨L,1,none⟩) (u:=.int .i64 0) B;have c3:∀o,((Q.setCell ⟨L,0,none⟩ (.int .i64 (G+(n:Int)/2))).setCell ⟨L,1,none⟩ (.int .i64 0)).frozen? ⟨L,o,none⟩=false:=fun o=>by simpa using z' o
   have e4:((Q.setCell ⟨L,0,none⟩ (.int .i64 (G+(n:Int)/2))).setCell ⟨L,1,none⟩ (.int .i64 0)).heap.size=Q.heap.size:=by simp
   go_wp2_with fail
   generalize((Q.setCell ⟨L,0,none⟩ (.int .i64 (G+(n:Int)/2))).setCell ⟨L,1,none⟩ (.int .i64 0))=V at*;refine(Jc R (by omega) _).mono ?_;rintro e w2 ⟨rfl,y⟩;cases D:go 5 R.data.toList with
   |none=>
    have a3:=ap D;clear D;rw[yn a3.out];have y0:=y.keeps tw.1;have y1:=y.keeps tw.2;have yz:=(y.frozen 1 (by omega)).trans (c3 1);go_wp2_with fail
    refine bA (v:=.tuple #[.slice none 0 0,.iface 24 (.int .i64 3)]) (by simp[dF,dh,go_sem]) rfl ?_;unfold kS;rw[PE HR.out (EX HG.out a4 a3.out)];exact⟨rfl,(d7.trans y).setCell (p:=⟨L,1,none⟩) S _⟩
   |some g0=>
    obtain⟨m,r2⟩:=g0;have a3:=ap D;have d9:=Lc 5 _ _ _ D;have b2:=yi 5 _ _ _ D;rw[show 128^5=34359738368 by decide]at d9;rw[<-size_data]at b2;obtain⟨R2,rfl⟩:∃R:ByteArray,R.data.toList=r2:=⟨⟨r2.toArray⟩,rfl⟩;rw[<-size_data]at b2;clear D;rw[sB a3.out];have y0:=y.keeps tw.1;have y1:=y.keeps tw.2;have yz:=(y.frozen 1 (by omega)).trans (c3 1);have b8:=cX (aF e9 y) (a:=⟨L,1,none⟩) (u:=.int .i64 (m:Int)) B;have b9:=(d7.trans y).setCell (p:=⟨L,1,none⟩) S (.int .i64 (m:Int));have c0:(w2.setCell ⟨L,1,none⟩ (.int .i64 (m:Int))).cell? ⟨L,0,none⟩=some (.int .i64 (G+(n:Int)/2)):=(aU _ _ _ _ (by simp)).trans y0;have c1:(w2.setCell ⟨L,1,none⟩ (.int .i64 (m:Int))).cell? ⟨L,1,none⟩=some (.int .i64 (m:Int)):=bQ _ _ _ y1;have i4:=y.size;have g3:=fun o=>(y.frozen o (by omega)).trans (c3 o);go_wp2_with(at_builtin;refine lK (a0:=w) rfl _ _ 57 rfl 104 i0 (.agg #[.int .i64 0,.int .i64 0]) 2 16 dg hi c4 c5 c6 rfl (by decide) _ _ _ rfl b8 [_,_] rfl (kH _ _) w2.heap.size (by simp) rfl b9 (by omega) (by omega) ?_;intro v4 w4 J c2 q)
    have Z:=q.2 L (by simp;omega) B;refine⟨⟨R2,us++[(G+(n:Int)/2,(m:Int))],(G+(n:Int)/2,(m:Int)),rfl,by rw[aJ];simp only[ak,cK];omega,c2,sA (x:=(G+(n:Int)/2,(m:Int))) J,Z.1,by have:=q.1;simp at this;omega,⟨q.keeps B c0,q.keeps B c1,fun o=>(Z.2 o).2.trans (by simpa using g3 o)⟩,?_,Vv HR.out HG.out a4 a3.out⟩,?_⟩
    ·rw[aJ];simp only[ak,cK];omega
    show R2.size<t.size;omega
end
section
open Go Go.RowKit Go.Shelf Go.Lib Go.Sort
def kT(w:aQ)(v:be)(xs:List aa):Prop:=(v=.slice none 0 0/\xs=[])\/∃b q c,v=.slice (some ⟨b,q,none⟩) xs.length c/\b<w.heap.size/\cq w b q xs
theorem kT.gr{w w':aQ}{v:be}{xs:List aa}(h:kT w v xs)(g:Gr w w'):kT w' v xs:=by
 rcases h with h|⟨b,q,c,s,y,z⟩
 ·exact .inl h
 exact .inr ⟨b,q,c,s,bh y g.size,z.gr g⟩
theorem lL(xs b:List aa):dp (xs++b)=dp xs++dp b:=by
 unfold dp;rw[dT]
theorem lk:∀xs:List aa,(dp xs).length=xs.length*2
 |[]=>rfl
 |x::xs=>by
  have:=lk xs;unfold dp at*;rw[hO,aJ,this];simp only[ak,cK];omega
theorem AQ:∀(xs:List aa),∀u∈dp xs,u.oneCell'=true:=by
 intro xs u hu;unfold dp at hu;rw[List.mem_flatMap]at hu;obtain⟨p,_,h⟩:=hu;exact kH _ _ u h
theorem cq.cells{w:aQ}{b q:Nat}{xs:List aa}(h:cq w b q xs):∀j u,(dp xs)[j]?=some u->w.cell? ((⟨b,q,none⟩:Addr).add j)=some u:=by
 intro j u s;have B:j<xs.length*2:=by
  rw[<-lk];exact(List.getElem?_eq_some_iff.1 s).1
 have ha:(⟨b,q,none⟩:Addr).add j=⟨b,q+j,none⟩:=by
  unfold Addr.add
  split<;>simp_all
 have y:=nw xs (j/2) (by omega);have z:=h (j/2) (by omega);rw[ha];rcases bj j with e|e
 ·rw[show j/2*2=j by omega]at y z;rw[y.1]at s;rw[z.1,bP s]
 rw[show j/2*2+1=j by omega]at y;rw[show q+j/2*2+1=q+j by omega]at z;rw[y.2]at s;rw[z.2,bP s]
theorem px{a0 w:aQ}{B:Array Oper}{rest:List Oper}{o:Oper}{a:Act}{Q:Exit->Act->aQ->Prop}(D:o.guard=none)(s x:m7)
  (O:o.op=.call {callee:=.builtin .append,args:=#[s,x],argTypes:=#[57,57]}) (v:be) (us:List aa) (hs:a.eval s=v) (q:ci a0 w v us)
  (vs:be) (xs:List aa) (S:a.eval x=vs) (hi:kT w vs xs) (hl:us.length+xs.length<=1000000) (H:Gr a0 w)
  (h:∀G w',ci a0 w' G (us++xs)->Gr a0 w'->wpList prog B Q rest (a.put o.dst G) w'):wpList prog B Q (o::rest) a w:=by
 obtain⟨y,z,U⟩:∃y,prog.info? 104=some y/\(y.zero,y.size,y.bytes)=(some (.agg #[.int .i64 0,.int .i64 0]),2,16):=by
  have h:=lj;cases V:prog.info? 104 with
  |none=>rw[V]at h;cases h
  |some y=>rw[V]at h;exact⟨y,rfl,bP h⟩
 simp only[cf]at U;obtain⟨I,J,L⟩:=U;rcases hi with⟨rfl,rfl⟩|⟨b,M,c,rfl,hb,Y⟩
 ·rw[List.append_nil]at h;exact fl w D s x 57 57 O v (.slice none 0 0) hs S v w (run_append_owned_none w a0.heap.size 57 o.type 104 y 2 dg z v us.length (dp us) q) (h v w q H)
 refine wpList_append_own w D s x 57 O a0.heap.size 104 y (.agg #[.int .i64 0,.int .i64 0]) 2 16 dg z I J L rfl (by decide) v us.length (dp us) hs q ⟨b,M,none⟩ xs.length c (dp xs) S (lk xs) Y.cells (AQ xs) (by unfold maxLen;omega) (by omega) H.size
  (fun G w' Z h2 _=>h G w' ?_ (iG H h2 (aP q)))
 unfold ci;rw[aJ,lL];exact Z
theorem ci.ur{a0 w:aQ}{v:be}{xs:List aa}(h:ci a0 w v xs):(v=.slice none 0 0/\xs=[])\/∃B cap,v=.slice (some ⟨B,0,none⟩) xs.length cap/\xs.length<=cap/\a0.heap.size<=B/\B<w.heap.size/\jo w B xs:=by
 have hc:=fun g b=>fK (g:=g) h.row b;rcases h.row.2 with⟨rfl,D⟩|⟨g,cap,H,rfl,G,q,s,_⟩
 ·exact .inl ⟨rfl,bW D⟩
 refine .inr ⟨g,cap,rfl,s,G,(Array.getElem?_eq_some_iff.1 q).1,fun i hi=>?_⟩;have b:=nw xs i hi;have y:=hc g rfl _ _ b.1;have z:=hc g rfl _ _ b.2;have e:∀j,(⟨g,0,none⟩:Addr).add j=⟨g,j,none⟩:=by
  intro j;unfold Addr.add;split<;>simp_all
 rw[e]at y z;exact⟨⟨y,gc q _⟩,⟨z,gc q _⟩⟩
theorem Vx(n:Nat)(hn:n<=1000000)(w:aQ):
  cs prog 148 #[.slice none 0 0,.int .i64 n] w fun e B=>∃v,e=.returned v/\ci w B v []/\Gr w B:=by
 obtain⟨b,hi,D⟩:∃b,prog.info? 104=some b/\(b.zero,b.size,b.bytes)=(some (.agg #[.int .i64 0,.int .i64 0]),2,16):=by
  have h:=lj;cases q:prog.info? 104 with
  |none=>rw[q]at h;cases h
  |some b=>rw[q]at h;exact⟨b,rfl,bP h⟩
 simp only[cf]at D;obtain⟨s,I,z⟩:=D;have y:=ap s;have L:¬(n:Int)<0:=by omega
 clear s;by_cases q:n=0
 ·subst q;go_enter func148,ntmps148;go_wp2_with fail
  go_ret;exact⟨_,rfl,World.ownsRow_nil _ _ _ _,Gr.refl _⟩
 have g1:0<(n:Int):=by omega
 go_enter func148,ntmps148;have G:∀W:aQ,(ne #[57,3] 57 #[.slice none 0 0,.int .i64 n]).run prog W=_:=fun W=>Lib.run_append_nil_zeros (P:=prog) (ty:=57) W 57 3 104 b (.agg #[.int .i64 0,.int .i64 0]) .i64 .i64 dg fn hi y.out n (by omega) (by omega) (by omega) (by rw[z];omega);go_wp2_with(at_builtin;refine fl _ rfl _ _ _ _ rfl _ _ rfl rfl _ _ (G _) ?_)
 go_ret;refine⟨_,rfl,?_,((Gr.refl w).alloc _).drew⟩;have J:=grownCap_ge w n 0 104;have H:=grownCap_le_maxLen w n 0 104 (by unfold maxLen;omega);exact World.ownsRow_made (base:=w.heap.size) (size:=2) (e:=104) w _ _ (bu _) H (by
  simp only[hI,size_zeroCells];show n*2+(_-n)*2=_;omega)
theorem Rc(xs s:List aa)(O Q:be)(B c:Nat)(w:aQ)(S:kT w O xs)(U:kT w Q s)(hl:xs.length+s.length<=1000000)(V:w.cell? ⟨B,0,none⟩=some O)(Y:w.cell? ⟨B,1,none⟩=some Q):
  cs prog 96 #[.slice (some ⟨B,0,none⟩) 2 c] w fun e J=>∃v,e=.returned v/\ci w J v (xs++s)/\Gr w J:=by
 have HX:=ap S;have HY:=ap U;obtain⟨ao,ca,rfl⟩:∃ao ca,O=.slice ao xs.length ca:=by
  rcases S with⟨rfl,rfl⟩|⟨b,Z,c,rfl,_⟩
  ·exact⟨none,0,rfl⟩
  exact⟨_,c,rfl⟩
 obtain⟨bo,cb,rfl⟩:∃bo cb,Q=.slice bo s.length cb:=by
  rcases U with⟨rfl,rfl⟩|⟨b,Z,c,rfl,_⟩
  ·exact⟨none,0,rfl⟩
  exact⟨_,c,rfl⟩
 clear S U;go_enter func96,ntmps96;go_wp2_with fail
 go_loop [3,11] (fun L y=>(y=.int .i64 0/\L=.int .i64 0)\/(y=.int .i64 1/\L=.int .i64 xs.length)\/(y=.int .i64 2/\L=.int .i64 ((xs.length:Int)+s.length))) (fun _ y=>2-(intOf y).toNat)
 case atStart=>exact .inl ⟨rfl,rfl⟩
 case round=>
  rcases hrel with⟨rfl,rfl⟩|⟨rfl,rfl⟩|⟨rfl,rfl⟩
  ·have g1:¬(xs.length:Int)<0:=by omega
   go_wp2_with fail
   exact⟨.inr (.inl ⟨rfl,by go_num⟩),by simp[intOf]⟩
  ·have g1:¬(xs.length:Int)+s.length<0:=by omega
   go_wp2_with fail
   exact⟨.inr (.inr ⟨rfl,by go_num⟩),by simp[intOf]⟩
  have M:=Vx (xs.length+s.length) hl w;rw[bZ]at M;go_wp2_with fail
  refine M.mono ?_;rintro e w1 ⟨v,rfl,z,q⟩;have HO:=ap z;have c0:=q.keeps V;have c1:=q.keeps Y;have b8:=q.size;have HG:=ap q;clear z q;go_wp2_with fail
  go_loopw [6,27] (fun L y J=>∃(i:Nat) (us:List aa),y=.int .i64 i/\ci w J L us/\Gr w J/\((i=0/\us=[])\/(i=1/\us=xs)\/(i=2/\us=xs++s))) (fun _ y _=>2-(intOf y).toNat)
  case atStart=>exact⟨0,[],rfl,HO.out,HG.out,.inl ⟨rfl,rfl⟩⟩
  case round=>
   obtain⟨i,us,rfl,ho,q,a1⟩:=hrel;have d0:=q.keeps V;have d1:=q.keeps Y;have D:=ap ho;have G:=ap q;have a2:=ap (HX.out.gr q);have a3:=ap (HY.out.gr q);clear ho q c0 c1 V Y;rcases a1 with⟨rfl,rfl⟩|⟨rfl,rfl⟩|⟨rfl,rfl⟩
   ·go_wp2_with(at_builtin;refine px (a0:=w) rfl _ _ rfl _ [] rfl D.out _ xs rfl a2.out (by simp;omega) G.out ?_;intro v3 w3 H I)
    exact⟨⟨1,xs,by go_num,H,I,.inr (.inl ⟨rfl,rfl⟩)⟩,by simp[intOf]⟩
   ·go_wp2_with(at_builtin;refine px (a0:=w) rfl _ _ rfl _ us rfl D.out _ s rfl a3.out hl G.out ?_;intro v3 w3 H I)
    exact⟨⟨2,us++s,by go_num,H,I,.inr (.inr ⟨rfl,rfl⟩)⟩,by simp[intOf]⟩
   go_wp2_with fail
   go_ret;exact⟨_,rfl,D.out,G.out⟩
def dP(a0 w:aQ)(v:be)(xs:List aa):Prop:=(v=.slice none 0 0/\xs=[])\/∃B cap,v=.slice (some ⟨B,0,none⟩) xs.length cap/\xs.length<=cap/\a0.heap.size<=B/\B<w.heap.size/\jo w B xs
theorem ci.own{a0 w:aQ}{v:be}{xs:List aa}(h:ci a0 w v xs):dP a0 w v xs:=h.ur
theorem dP.gr{a0 w w':aQ}{v:be}{xs:List aa}(h:dP a0 w v xs)(g:Gr w w'):dP a0 w' v xs:=by
 rcases h with h|⟨B,cap,q,s,y,b,z⟩
 ·exact .inl h
 exact .inr ⟨B,cap,q,s,y,bh b g.size,z.gr g b⟩
theorem dP.lZ{a0 w:aQ}{v:be}{xs:List aa}(h:dP a0 w v xs):kT w v xs:=by
 rcases h with h|⟨B,cap,b,y,z,q,s⟩
 ·exact .inl h
 refine .inr ⟨B,0,cap,b,q,fun i hi=>?_⟩;have:=s i hi;rw[eY];exact⟨this.1.1,this.2.1⟩
theorem dP.back{a0 b w:aQ}{v:be}{xs:List aa}(h:dP b w v xs)(g:Gr a0 b):dP a0 w v xs:=by
 rcases h with h|⟨B,cap,q,s,y,z,D⟩
 ·exact .inl h
 exact .inr ⟨B,cap,q,s,g5 g.size y,z,D⟩
theorem Jd(w:aQ):
  cs prog 98 #[.slice none 0 0] w (ar w (.slice none 0 0)):=by
 go_enter nJ,m8;go_wp2_with fail
 go_ret;exact ar.mk rfl (Gr.refl _)
theorem Re(w:aQ)(b:be):
  cs prog 97 #[.slice none 0 0,b] w (ar w (.tuple #[])):=by
 exact ar.of_same (AnyF.slices_SortFunc_none Tryz.zZ none 0 b w)
theorem kT.form{w:aQ}{v:be}{xs:List aa}(h:kT w v xs):∃q c,v=.slice q xs.length c:=by
 rcases h with⟨rfl,rfl⟩|⟨b,s,c,rfl,_⟩
 ·exact⟨none,0,rfl⟩
 exact⟨_,c,rfl⟩
theorem dP.form{a0 w:aQ}{v:be}{xs:List aa}(h:dP a0 w v xs):∃b c,v=.slice b xs.length c:=h.lZ.form
theorem Rf(a0 w:aQ)(v:be)(xs:List aa)(h:dP a0 w v xs)(z:Gr a0 w)(I:xs.length<=1000000):
  cs prog 97 #[v,.func (.func 71) #[] #[]] w fun e q=>
   e=.returned (.tuple #[])/\∃b:List aa,b.Perm xs/\kG af b/\dP a0 q v b/\Gr a0 q:=by
 rcases h with⟨rfl,rfl⟩|⟨B,cap,rfl,J,D,G,L⟩
 ·refine(Re w _).mono ?_;rintro e q ⟨rfl,y⟩;exact⟨rfl,[],nK _,em,.inl ⟨rfl,rfl⟩,z.trans y⟩
 refine(Jb xs B cap w L G I).mono ?_;rintro e q ⟨rfl,b,s,hw,M,H⟩;refine⟨rfl,b,s,hw,.inr ⟨B,cap,by rw[s.length_eq],by rw[s.length_eq];exact J,D,bh G H.2.2.2.1,M⟩,H.gr z (fun k O=>by rw[O];exact D)⟩
theorem Je(a0 w:aQ)(v:be)(xs:List aa)(h:dP a0 w v xs)(s:Gr a0 w)(I:xs.length<=1000000):
  cs prog 98 #[v] w fun e b=>∃y,e=.returned y/\dP a0 b y (aq xs)/\Gr a0 b:=by
 rcases h with⟨rfl,rfl⟩|⟨B,cap,rfl,z,D,G,J⟩
 ·refine(Jd w).mono ?_;rintro e b ⟨rfl,q⟩;exact⟨_,rfl,.inl ⟨rfl,rfl⟩,s.trans q⟩
 refine(ND xs B cap I z w J G).mono ?_;rintro e b ⟨rfl,L,H⟩;exact⟨_,rfl,.inr ⟨B,cap,rfl,g5 (ig xs) z,D,bh G H.2.2.2.1,L⟩,H.gr s (fun k M=>by rw[M];exact D)⟩
theorem yo(xs b:List aa)(O Q:be)(w:aQ)(G:kT w O xs)(H:kT w Q b)(S:xs.length+b.length<=1000000):
  cs prog 48 #[O,Q] w fun e U=>∃v,e=.returned v/\dP w U v (setOf af (xs++b))/\Gr w U:=by
 have HX:=ap G;have HY:=ap H;obtain⟨ao,ca,rfl⟩:=G.form;obtain⟨bo,cb,rfl⟩:=H.form;clear G H;go_enter func48,ntmps48;go_wp2_with fail
 refine(Rc xs b (.slice ao xs.length ca) (.slice bo b.length cb) w.heap.size 2 _ (HX.out.gr ((Gr.refl w).alloc _)) (HY.out.gr ((Gr.refl w).alloc _)) S (by rw[ae];rfl) (by rw[ae];rfl)).mono ?_;rintro e V ⟨v,rfl,Y,Z⟩;have I:Gr w V:=((Gr.refl w).alloc _).trans Z;have s:=ap (Y.own.back ((Gr.refl w).alloc _));clear Y Z;have q:(xs++b).length<=1000000:=by rw[aJ];exact S
 obtain⟨L,HL⟩:∃L,Hid (L=xs++b):=⟨_,ap rfl⟩;rw[<-HL.out]at s q;obtain⟨vo,vc,rfl⟩:=s.out.form;go_wp2_with fail
 refine(Rf w V _ _ s.out I q).mono ?_;rintro e w2 ⟨rfl,zs,hp,hw,y,J⟩;have z:=ap y;have HP:=ap hp;have HW:=ap hw;clear y hp hw s;go_wp2_with fail
 refine(Je w w2 _ _ z.out J (by rw[HP.out.length_eq];exact q)).mono ?_;rintro e w3 ⟨v3,rfl,B,M⟩;have D:=ap B;clear B z;have hs:aq zs=setOf af (xs++b):=lG bI HW.out (fun x=>by rw[<-HL.out];exact HP.out.mem_iff);rw[hs]at D;have HS:=ap hs;clear hs;go_wp2_with fail
 go_ret;exact⟨_,rfl,D.out,M⟩
end
section
open Go Go.RowKit
instance aah (x:ByteArray) (l:List ByteArray):Decidable (x∈l):=decidable_of_iff (∃y,y∈l/\y=x) ⟨fun⟨_,h,e⟩=>e▸h,fun h=>⟨x,h,rfl⟩⟩
def fv(r:Int)(wd:ByteArray):List ByteArray->Nat->List aa
 |[],_=>[]
 |x::xs,i=>if x=wd then(r,(i:Int))::fv r wd xs (i+1)else fv r wd xs (i+1)
theorem ux{r:Int}{wd:ByteArray}:∀{xs:List ByteArray} {i:Nat} {p:aa},p∈fv r wd xs i->p.1=r/\(i:Int)<=p.2/\p.2<(i:Int)+xs.length
 |[],_,_,h=>by cases h
 |x::xs,i,p,h=>by
  unfold fv at h;rw[ak]
  split at h
  ·rcases bv.1 h with e|h
   ·subst e;exact⟨rfl,Int.le_refl _,by show(i:Int)<_;omega⟩
   have:=ux h;omega
  have:=ux h;omega
theorem AR{r:Int}{wd:ByteArray}:∀{xs:List ByteArray} {i:Nat},bU af (fv r wd xs i)
 |[],_=>em
 |x::xs,i=>by
  unfold fv
  split
  ·refine bC.2 ⟨fun q b=>?_,AR⟩;have:=ux b;rw[eD];show r<q.1\/r=q.1/\(i:Int)<q.2;omega
  exact AR
theorem AS{r:Int}{wd:ByteArray}:∀(xs q:List ByteArray) (i:Nat),fv r wd (xs++q) i=fv r wd xs i++fv r wd q (i+xs.length)
 |[],q,i=>rfl
 |x::xs,q,i=>by
  have y:=AS (r:=r) (wd:=wd) xs q (i+1);rw[show i+1+xs.length=i+(xs.length+1)by omega]at y;rw[eB,ak];by_cases e:x=wd
  ·have s:∀b:List ByteArray,fv r wd (x::b) i=(r,(i:Int))::fv r wd b (i+1):=fun b=>if_pos e;rw[s,s,y,eB]
  have s:∀b:List ByteArray,fv r wd (x::b) i=fv r wd b (i+1):=fun b=>if_neg e;rw[s,s,y]
theorem uy{r:Int}{wd:ByteArray}:∀{xs:List ByteArray} {i:Nat},fv r wd xs i=[]↔wd∉xs
 |[],_=>by simp[fv]
 |x::xs,i=>by
  unfold fv
  split
  ·rename_i e
   simp[e]
  rename_i e
  rw[uy,bv]
  constructor
  ·rintro h (b|b)
   ·exact e b.symm
   exact h b
  exact fun h b=>h (.inr b)
def qA(l:List ByteArray):Nat:=(l.map fun x=>19+x.size).sum
theorem sE(x:ByteArray)(l:List ByteArray):qA (x::l)=19+x.size+qA l:=by
 unfold qA;rw[List.map_cons,List.sum_cons]
theorem AT{r:Int}{wd:ByteArray}:∀{xs:List ByteArray} {i:Nat},(19+wd.size)*(fv r wd xs i).length=qA (xs.filter fun x=>decide (x=wd))
 |[],_=>by simp[fv,qA]
 |x::xs,i=>by
  have b:=AT (r:=r) (wd:=wd) (xs:=xs) (i:=i+1);unfold fv;by_cases e:x=wd
  ·rw[if_pos e,List.filter_cons_of_pos (by simpa using e),sE,ak,md,Nat.mul_one,b,e];omega
  rw[if_neg e,List.filter_cons_of_neg (by simpa using e),b]
theorem TS(xs:List ByteArray)(p q:ByteArray->Bool)(h:∀x∈xs,p x=true->q x=false):qA (xs.filter p)+qA (xs.filter q)=qA (xs.filter fun x=>p x||q x):=by
 induction xs with
 |nil=>rfl
 |cons x xs z=>
  have z:=z fun y B=>h y (dJ _ B);have D:=h x bF;cases b:p x with
  |true=>
   have s:=D b;simp only[eV,b,s,if_true,ej,if_false,Bool.true_or,sE];omega
  |false=>
   cases s:q x with
   |true=>
    simp only[eV,b,s,if_true,ej,if_false,jH,sE];omega
   |false=>
    simp only[eV,b,s,ej,if_false,jH];exact z
def ry(ws:List ByteArray):List ByteArray->List ByteArray->Nat
 |_,[]=>0
 |b,wd::rest=>if wd∈b then ry ws (wd::b) rest else(19+wd.size)*(fv 0 wd ws 0).length+ry ws (wd::b) rest
theorem Dt{r s:Int}{wd:ByteArray}:∀{xs:List ByteArray} {i:Nat},(fv r wd xs i).length=(fv s wd xs i).length
 |[],_=>rfl
 |x::xs,i=>by
  unfold fv
  split
  ·rw[ak,ak,Dt]
  exact Dt
theorem Lq(ws:List ByteArray):∀(rest b:List ByteArray),ry ws b rest+qA (ws.filter fun x=>decide (x∈b))=qA (ws.filter fun x=>decide (x∈b)||decide (x∈rest))
 |[],b=>by
  simp[ry]
 |wd::rest,b=>by
  have s:=Lq ws rest (wd::b);have D:(ws.filter fun x=>decide (x∈wd::b)||decide (x∈rest))=ws.filter fun x=>decide (x∈b)||decide (x∈wd::rest):=by
   refine es fun x _=>?_;by_cases q:x=wd<;>by_cases y:x∈b<;>by_cases z:x∈rest<;>simp[q,y,z]
  rw[D]at s;unfold ry;by_cases hd:wd∈b
  ·rw[if_pos hd];have B:(ws.filter fun x=>decide (x∈wd::b))=ws.filter fun x=>decide (x∈b):=by
    refine es fun x _=>?_;by_cases q:x=wd
    ·simp[q,hd]
    simp[q]
   rw[B]at s;exact s
  rw[if_neg hd,AT];have z:=TS ws (fun x=>decide (x=wd)) (fun x=>decide (x∈b)) (fun x _ G=>by
   have e:x=wd:=of_decide_eq_true G;rw[e];exact decide_eq_false hd)
  have B:(ws.filter fun x=>decide (x=wd)||decide (x∈b))=ws.filter fun x=>decide (x∈wd::b):=by
   refine es fun x _=>?_;by_cases q:x=wd<;>by_cases y:x∈b<;>simp[q,y]
  rw[B]at z;omega
theorem Ri(ws:List ByteArray):ry ws [] ws=qA ws:=by
 have h:=Lq ws ws [];have b:(ws.filter fun x=>decide (x∈([]:List ByteArray)))=[]:=my fun x _=>by simp
 have q:(ws.filter fun x=>decide (x∈([]:List ByteArray))||decide (x∈ws))=ws:=filter_all fun x s=>by simp[s]
 rw[b,q]at h;simpa[qA]using h
