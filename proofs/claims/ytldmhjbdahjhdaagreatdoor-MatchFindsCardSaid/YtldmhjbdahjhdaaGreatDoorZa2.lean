/-
  Part 2 of the proof.
-/
import Derived.Test.YtldmhjbdahjhdaaGreatDoorZa1
import Derived.Lib.AppendZeros
import Derived.Deep.RegionHeld3
import Derived.Shelf.SlIterI.Nil
import Derived.Shelf.SortM.Plain
import Derived.Shelf.SortM.SortNone
import Derived.Shelf.SlMaps.Clone
open Go.Proofs.Tryz
open Go.Lib renaming hid->ae,cell_of_heap->be,byteCells_length->bh,byteCells->bX,extract_data->cl,repeatL->ej,byteCells_append->ek,BuilderAt->eH,frozen_of_heap->fn,IsBuilder->ji
open Go renaming World->ak,Value->aJ,Calls->bj,TypeId->da,run_string_add_sum->de,all_oneCell_toArray->ez,info_parts->eY,results->fT,plainElem_string->gw,wpList_store_mid->g5,run_loadVar_mid->iU,Operand->i3,bodyPost_ret->jT,bodyPost_end->jU,Program->kE
open Go.Proofs.Tryz renaming zeroCells156->ap,underlying3->di,underlying156->dA,underlying152->eB,underlying272->eT,results247->i1,underlying252->jk
open List renaming length_append->az,take_of_length_le->aS,range->aV,take_succ_eq_append_getElem->aX,getD_eq_getElem?_getD->bz,getElem?_eq_some_iff->bA,replicate->bB,getElem?_append_right->bQ,getElem?_append_left->bT,getElem?_eq_getElem->bW,mem_range->cg,contains_iff_mem->ch,mem_map->cK,append_assoc->dr,length_drop->dD,length_take->dQ,mem_append->dU,length_replicate->dZ,length_filter_le->ea,range_eq_range'->em,flatMap_append->es,toList_toArray->ew,getElem?_range->eA,mem_singleton->fy,find?_eq_none->fA,size_toArray->gc,cons_append->g6,getElem_mem->g8,map_append->hO,range_succ->ib,nil_append->ik,of_mem_zip->i2,drop_zero->i5
open Nat renaming zero_add->aQ,zero_le->bu,le_refl->bC,lt_of_lt_of_le->bZ,lt_succ_self->co,add_assoc->cs,le_trans->cF,two_pow_add_eq_or_of_lt->cL,pow_le_pow_right->el,lt_of_le_of_lt->fe,lt_or_ge->fS,div_le_self->iF,mul_le_mul->i4,pow_succ->jE
open Go.World renaming cell?_setCell_same->aU,cell?_alloc_new->bP,frozen?_of_block->dS,frozen?_setCells->dT,cell?_of_block->eh,ownsRow_nil->fI,ownsRow_lit->fK,cell?->kk
open Array renaming getElem?_eq_some_iff->bc,getElem?_append_right->cO,getElem?_eq_getElem->dg,getElem_replicate->dJ,replicate->iT
open BitVec renaming ofInt->bt,toNat_ofInt->fl,toNat_or->iu
open Go.Instr renaming index->bF,mapUpdate->iQ
open ByteArray renaming size_extract->bM,data_append->jZ
open Go.IntKind renaming u8->b_,u64->cD,i64->dh,wrap_u64->dF,wrap_i64->gs,signed->lW,bits->mm
open Go.Value renaming string->cf,int->cj,bool->kr
open Go.RowKit.Below renaming heap_setCell->cW,trans->eb,cell->i9,refl->kx
open Go.Lit renaming int->en
open Go.ResultVar renaming tmp->eV,cell->l_
open Go.Maps renaming keyOf_int_mk->fM
open Go.Lib.BuilderAt renaming put->gf
open Go.Lit.string renaming injEq->g4
open Bool renaming and_eq_true->g7
open Int renaming le_refl->g9
open Option.some renaming inj->hI
open Go.DataW.lit renaming injEq->iP
open Go.WideAt renaming IsKeyLit->iR
open Go.RowKit renaming wrap64->i6
open Go.Result renaming andThen->i7
open Prod.mk renaming injEq->jh
open Go.Extern.AbiNoEscape renaming same->js
open Go.ByteArray renaming mk_append_mk->jH,toList_eq->kq
open List.Pairwise renaming filter->ko,imp->kI
open ByteArray.mk renaming injEq->ks
open Go.BinOp renaming xor->kM,and->k2,or->lr
open Go.Builtin renaming delete_->lq,delete->md
set_option maxRecDepth 100000
set_option maxHeartbeats 100000000
set_option linter.all false
namespace Go.Proofs.YtldmhjbdahjhdaaGreatDoor
section
open Go Go.RowKit
def ag(S:Nat->Prop)(w w':ak):Prop:=w'.os=w.os/\w'.tape=w.tape/\w'.output=w.output/\w.heap.size<=w'.heap.size/\∀k,k<w.heap.size->¬S k->w'.heap[k]?=w.heap[k]?
theorem ag.refl(S:Nat->Prop)(w:ak):ag S w w:=⟨rfl,rfl,rfl,bC _,fun _ _ _=>rfl⟩
theorem ag.trans{S:Nat->Prop}{a b c:ak}(h:ag S a b)(k:ag S b c):ag S a c:=
 ⟨k.1.trans h.1,k.2.1.trans h.2.1,k.2.2.1.trans h.2.2.1,cF h.2.2.2.1 k.2.2.2.1,fun i hi hs=>(k.2.2.2.2 i (bZ hi h.2.2.2.1) hs).trans (h.2.2.2.2 i hi hs)⟩
theorem ag.ah{S:Nat->Prop}{w w':ak}(g:Gr w w'):ag S w w':=⟨g.os,g.tape,g.output,g.size,fun k b _=>g.block k b⟩
theorem ag.ce{S:Nat->Prop}{w w':ak}{B:Nat}(g:w.grownBy w' (some B))(b:S B):ag S w w':=⟨g.os,g.tape,g.output,g.size,fun k q hs=>g.block k q (fun e=>hs (by have:=hI e;rw[this];exact b))⟩
theorem ag.setCell{S:Nat->Prop}(w:ak){p:Addr}(u:aJ)(h:S p.block):ag S w (w.setCell p u):=⟨rfl,rfl,rfl,by simp,fun k _ hs=>cW _ _ _ _ (fun e=>hs (by rw[e];exact h))⟩
theorem ag.drew{S:Nat->Prop}(w:ak):ag S w w.drew:=ag.ah (Gr.refl w).drew
theorem ag.gr{S:Nat->Prop}{w w' b:ak}(g:ag S w w')(q:Gr b w)(h:∀k,S k->b.heap.size<=k):Gr b w':=
 eb q ⟨g.1,g.2.1,g.2.2.1,g.2.2.2.1,fun k s=>g.2.2.2.2 k (bZ s q.size) (fun hs=>absurd (h k hs) (by omega))⟩
theorem ag.block{S:Nat->Prop}{w w':ak}(g:ag S w w'){k:Nat}(b:k<w.heap.size)(hs:¬S k):w'.heap[k]?=w.heap[k]?:=g.2.2.2.2 k b hs
theorem ag.keeps{S:Nat->Prop}{w w':ak}(g:ag S w w'){b o:Nat}{v:aJ}(hs:¬S b)(hc:w.cell? ⟨b,o,none⟩=some v):w'.cell? ⟨b,o,none⟩=some v:=
 (eh (g.block (ad hc) hs)).trans hc
theorem ag.frozen{S:Nat->Prop}{w w':ak}(g:ag S w w'){b:Nat}(o:Nat)(q:b<w.heap.size)(hs:¬S b):w'.frozen? ⟨b,o,none⟩=w.frozen? ⟨b,o,none⟩:=dS (g.block q hs)
def ke{s:Type}(enc:s->aJ)(w:ak)(v:aJ)(xs:List s):Prop:=
 (v=.slice none 0 0/\xs=[])\/∃b q c,v=.slice (some ⟨b,q,none⟩) xs.length c/\b<w.heap.size/\∀i (h:i<xs.length),w.cell? ⟨b,q+i,none⟩=some (enc xs[i])
theorem ke.gr{s:Type}{enc:s->aJ}{w w':ak}{v:aJ}{xs:List s}(h:ke enc w v xs)(g:Gr w w'):ke enc w' v xs:=by
 rcases h with h|⟨b,q,c,y,z,B⟩
 ·exact .inl h
 exact .inr ⟨b,q,c,y,bZ z g.size,fun i hi=>g.keeps (B i hi)⟩
theorem ke.ay{s:Type}{enc:s->aJ}{S:Nat->Prop}{w w':ak}{v:aJ}{xs:List s}(h:ke enc w v xs)(g:ag S w w')(hs:∀b q n c,v=.slice (some ⟨b,q,none⟩) n c->¬S b):ke enc w' v xs:=by
 rcases h with h|⟨b,q,c,y,z,B⟩
 ·exact .inl h
 exact .inr ⟨b,q,c,y,bZ z g.2.2.2.1,fun i hi=>g.keeps (hs _ _ _ _ y) (B i hi)⟩
theorem ke.form{q:Type}{enc:q->aJ}{w:ak}{v:aJ}{xs:List q}(h:ke enc w v xs):∃s c,v=.slice s xs.length c:=by
 rcases h with⟨rfl,rfl⟩|⟨b,y,c,rfl,_⟩
 ·exact⟨none,0,rfl⟩
 exact⟨_,c,rfl⟩
theorem ke.at{s:Type}{enc:s->aJ}{w:ak}{y:Option Addr}{n c:Nat}{xs:List s}(h:ke enc w (.slice y n c) xs){i:Nat}(hi:i<xs.length):∃b q,y=some ⟨b,q,none⟩/\∀i (h:i<xs.length),w.cell? ⟨b,q+i,none⟩=some (enc xs[i]):=by
 rcases h with⟨_,rfl⟩|⟨b,q,c,z,G,B⟩
 ·exact absurd hi (by simp)
 injection z with D H I
 exact⟨b,q,D,B⟩
def gM{b:Type}(enc:b->aJ)(e:da)(a0 w:ak)(v:aJ)(xs:List b):Prop:=w.ownsRow a0.heap.size e 1 v xs.length (xs.map enc)
theorem gM.gr{b:Type}{enc:b->aJ}{e:da}{a0 w w':ak}{v:aJ}{xs:List b}(h:gM enc e a0 w v xs)(g:Gr w w'):gM enc e a0 w' v xs:=aF h g
theorem gM.row{y:Type}{enc:y->aJ}{e:da}{a0 w:ak}{v:aJ}{xs:List y}(h:gM enc e a0 w v xs):ke enc w v xs:=by
 have s:=bd h;rcases h.2 with⟨rfl,B⟩|⟨b,cap,q,rfl,I,D,J,L,M,G⟩
 ·exact .inl ⟨rfl,List.length_eq_zero_iff.1 B⟩
 refine .inr ⟨b,0,cap,rfl,s b rfl,fun i hi=>?_⟩;have H:w.cell? ⟨b,0+i,none⟩=q[0+i]?:=by simp[kk,D]
 rw[H,aQ];have z:(List.take (xs.length*1) q.toList)[i]?=(xs.map enc)[i]?:=by rw[G]
 rw[List.getElem?_take_of_lt (by omega)]at z;simpa[hi]using z
theorem gM.snoc{b:Type}{enc:b->aJ}{e:da}{a0 w:ak}{v:aJ}{xs:List b}{x:b}(h:w.ownsRow a0.heap.size e 1 v (xs.length+1) (xs.map enc++[enc x])):gM enc e a0 w v (xs++[x]):=by
 show w.ownsRow _ _ 1 v (xs++[x]).length ((xs++[x]).map enc);rw[az,hO];exact h
theorem Cg{b:Type}(enc:b->aJ)(e:da)(a0 w:ak):gM enc e a0 w (.slice none 0 0) []:=fI _ _ _ _
theorem Qb{b:Type}(enc:b->aJ)(w:ak)(x:b)(e:da):gM enc e w (w.alloc (.cells #[enc x] e)) (.slice (some ⟨w.heap.size,0,none⟩) 1 1) [x]:=
 fK w #[enc x] 1 (bC _) (by decide) rfl
theorem Ka{O:Type}{enc:O->aJ}{a0 w:ak}{I:Array Oper}{rest:List Oper}{o:Oper}{a:Act}{Q:Exit->Act->ak->Prop}(J:o.guard=none)(s x:i3)(t e:da)(z:aJ)(L:Nat)
  (ht:prog.underlying t=some (.slice e)) (q:(prog.info? e).map (fun i=>(i.zero,i.size,i.bytes))=some (some z,1,L)) (Y:z.cells.size=1) (S:∀x,(enc x).oneCell'=true) (Z:L<=16)
  (ho:o.op=.call {callee:=.builtin .append,args:=#[s,x],argTypes:=#[t,t]}) (v:aJ) (us:List O) (hs:a.eval s=v) (B:gM enc e a0 w v us)
  (vs:aJ) (xs:List O) (hx:a.eval x=vs) (hi:ke enc w vs xs) (hl:us.length+xs.length<=1000000) (U:Gr a0 w)
  (h:∀H w',gM enc e a0 w' H (us++xs)->Gr a0 w'->yQ v w w'->wpList prog I Q rest (a.put o.dst H) w'):wpList prog I Q (o::rest) a w:=by
 obtain⟨i0,q,a1,a2,a3⟩:=eY q;rcases hi with⟨rfl,rfl⟩|⟨b,G,c,rfl,V,hp⟩
 ·rw[List.append_nil]at h;exact Lib.wpList_append_run w J s x t t ho v (.slice none 0 0) hs hx v w (run_append_owned_none w a0.heap.size t o.type e i0 1 ht q v us.length (us.map enc) B) (h v w B U (fun k o _ _=>⟨rfl,rfl⟩))
 have D:(us.length+xs.length)*L<=140737488355328:=by
  have:=i4 hl Z;omega
 refine wpList_append_own w J s x t ho a0.heap.size e i0 z 1 L ht q a1 a2 a3 Y (by decide) v us.length (us.map enc) hs B ⟨b,G,none⟩ xs.length c (xs.map enc) hx (by simp) ?_ (by intro u hu;obtain⟨y,_,rfl⟩:=cK.1 hu;exact S y) (by unfold maxLen;omega) D U.size
  (fun H w' S h2 _=>h H w' ?_ (iG U h2 (aP B)) (fun k o hk a4=>?_))
 ·intro j u hj;have M:j<xs.length:=by
   have:=(bA.1 hj).1;simpa using this
  have he:(⟨b,G,none⟩:Addr).add j=⟨b,G+j,none⟩:=by
   unfold Addr.add
   split<;>simp_all
  rw[he,hp j M];simpa[M]using hj
 ·show w'.ownsRow _ _ 1 H (us++xs).length ((us++xs).map enc);rw[az,hO];exact S
 have V:w'.heap[k]?=w.heap[k]?:=h2.block k hk (fun e=>a4 e.symm);exact⟨eh V,dS V⟩
theorem FD:(prog.info? 9).map (fun i=>(i.zero,i.size,i.bytes))=some (some (.string ⟨#[]⟩),1,16):=by kernel_rfl
theorem Mv:(prog.info? 3).map (fun i=>(i.zero,i.size,i.bytes))=some (some (.int .i64 0),1,8):=by kernel_rfl
def Ae(n:Nat):aJ:=.int .i64 (n:Int)
structure Head where
 used:Nat->Bool
 roots:Nat->Int
 notes:Nat->Int
def Head.same(h g:Head):Prop:=(∀i,i<2000->h.used i=g.used i)/\∀i,i<8->h.roots i=g.roots i/\h.notes i=g.notes i
theorem Head.same.refl(h:Head):h.same h:=⟨fun _ _=>rfl,fun _ _=>⟨rfl,rfl⟩⟩
def Head.cells(h:Head):List aJ:=(aV 2000).map (fun i=>kr (h.used i))++((aV 8).map (fun i=>cj .i64 (h.roots i))++(aV 8).map (fun i=>cj .i64 (h.notes i)))
theorem Head.gy(h:Head):h.cells.length=2016:=by simp[Head.cells]
theorem Head.Af(h:Head){i:Nat}(hi:i<2000):h.cells[i]?=some (.bool (h.used i)):=by
 unfold Head.cells;rw[bT (by simpa using hi)];simp[hi]
theorem Head.Ag(h:Head){i:Nat}(hi:i<8):h.cells[2000+i]?=some (.int .i64 (h.roots i)):=by
 unfold Head.cells;rw[bQ (by simp),bT (by simp;omega)];simp[hi]
theorem Head.Ah(h:Head){i:Nat}(hi:i<8):h.cells[2008+i]?=some (.int .i64 (h.notes i)):=by
 unfold Head.cells;rw[bQ (by simp;omega),bQ (by simp;omega)];simp;rw[show 2008+i-2000-8=i by omega];simp[hi]
theorem Head.cells_one(h:Head):∀v∈h.cells,v.oneCell'=true:=by
 intro v hv;unfold Head.cells at hv;simp only[dU,cK]at hv;rcases hv with⟨_,_,rfl⟩|⟨_,_,rfl⟩|⟨_,_,rfl⟩<;>rfl
def Head.put(h:Head)(k:Nat)(b:Bool):Head:={h with used:=fun i=>if i=k then b else h.used i}
def Head.ed(h:Head)(i:Nat)(p n:Int):Head:={h with roots:=fun j=>if j=i then p else h.roots j,notes:=fun j=>if j=i then n else h.notes j}
structure Head.aE(h:Head):Prop where
 zero:h.used 0=true
 root:∀i,i<8->0<=h.roots i/\h.roots i<2000
 note:∀i,i<8->0<=h.notes i/\h.notes i<65536
def gm(n:Int):List UInt8:=[((n/256) % 256).toNat.toUInt8,(n % 256).toNat.toUInt8]
def mg(u:Nat->Bool)(i:Nat):Nat->Nat
 |0=>0
 |k+1=>mg u i k+if u (i+k)then 2^k else 0
theorem yS(u:Nat->Bool)(i:Nat):∀k,mg u i k<2^k
 |0=>by simp[mg]
 |k+1=>by
  have:=yS u i k;unfold mg;rw[jE]
  split<;>omega
def kY(u:Nat->Bool):List UInt8:=(aV 250).map fun i=>(mg u (8*i) 8).toUInt8
theorem jp(u:Nat->Bool):(kY u).length=250:=by simp[kY]
def jV(h:Head)(n:Nat):List UInt8:=(aV n).flatMap fun i=>gm (h.roots i)++gm (h.notes i)
theorem tH(h:Head)(n:Nat):(jV h n).length=4*n:=by
 unfold jV
 induction n with
 |zero=>rfl
 |succ n b=>
  rw[ib,es,az,b];simp[gm];omega
def mh(l:List UInt8):List UInt8:=l++bB (1024-l.length) 0
theorem Mw{l:List UInt8}(h:l.length<=1024):(mh l).length=1024:=by
 unfold mh;rw[az,dZ];omega
def tI(h:Head):List UInt8:=mh (kY h.used++jV h 8)
theorem Mx(h:Head):(tI h).length=1024:=Mw (by rw[az,jp,tH];omega)
def eX(l:List UInt8)(i:Nat):Int:=256*((l.getD i 0).toNat:Int)+((l.getD (i+1) 0).toNat:Int)
def nY(l:List UInt8):Head where
 used i:=i==0||(l.getD (i/8) 0).toNat/2^(i % 8) % 2==1
 roots i:=eX l (250+4*i)
 notes i:=eX l (252+4*i)
def jj(n:Nat)(c:UInt8):Nat:=((n^^^c.toNat)*1099511628211) % 18446744073709551616
def Wk(l:List (List UInt8)):Nat:=l.foldl (fun n s=>s.foldl jj n) 14695981039346656037
def Ci(n:Nat):Nat->List UInt8
 |0=>[]
 |k+1=>Ci n k++[(n/256^k).toUInt8]
theorem uZ(n:Nat):∀k,(Ci n k).length=k
 |0=>rfl
 |k+1=>by rw[Ci,az,uZ n k];rfl
def Cj(l:List (List UInt8)):List UInt8:=Ci (Wk l) 8
def qS(b:List Nat):List UInt8:=gm (b.length:Int)++kY fun i=>b.contains i
theorem EA(b:List Nat):(qS b).length=252:=by
 unfold qS;rw[az,jp]
 rfl
def Ia(b:List Nat)(l:List (List UInt8)):List UInt8:=mh (qS b++Cj (qS b::l))
def e_:ByteArray:=⟨(ej [0] 1024).toArray⟩
def cJ(pg:Nat->ByteArray)(k:Nat):ByteArray:=if(pg k).toList.isEmpty then e_ else pg k
def nL(pg:Nat->ByteArray)(k:Nat)(s:ByteArray):Nat->ByteArray:=fun i=>if i=k then s else pg i
def ei(w:ak)(B:Nat)(pg:Nat->ByteArray)(cut:Bool)(left torn:Int):Prop:=
 (∀k,k<4001->w.cell? ⟨B,k,none⟩=some (.string (pg k)))/\w.cell? ⟨B,4001,none⟩=some (.bool cut)/\w.cell? ⟨B,4002,none⟩=some (.int .i64 left)/\w.cell? ⟨B,4003,none⟩=some (.int .i64 torn)/\∀o,w.frozen? ⟨B,o,none⟩=false
theorem ei.gr{w w':ak}{B:Nat}{pg:Nat->ByteArray}{cut:Bool}{left torn:Int}(h:ei w B pg cut left torn)(g:Gr w w'):ei w' B pg cut left torn:=
 ⟨fun k b=>g.keeps (h.1 k b),g.keeps h.2.1,g.keeps h.2.2.1,g.keeps h.2.2.2.1,fun o=>(g.frozen o (ad h.2.1)).trans (h.2.2.2.2 o)⟩
theorem bx{w:ak}{B o p:Nat}{u v:aJ}(h:o≠p)(hc:w.cell? ⟨B,o,none⟩=some v):(w.setCell ⟨B,p,none⟩ u).cell? ⟨B,o,none⟩=some v:=
 (World.cell?_setCell_other _ _ _ _ (fun e=>h (congrArg Addr.off e).symm)).trans hc
theorem jW(w:ak)(B o:Nat)(u:aJ):w.grownBy (w.setCell ⟨B,o,none⟩ u) (some B):=
 ⟨rfl,rfl,rfl,by simp,fun k _ b=>cW _ _ _ _ (fun e=>b (by rw[e]))⟩
theorem nZ{w w':ak}(g:Gr w w')(row:Option Nat):w.grownBy w' row:=⟨g.os,g.tape,g.output,g.size,fun k b _=>g.block k b⟩
theorem ei.SN{w:ak}{B:Nat}{pg:Nat->ByteArray}{cut:Bool}{left torn:Int}(h:ei w B pg cut left torn)(n:Int):ei (w.setCell ⟨B,4002,none⟩ (.int .i64 n)) B pg cut n torn:=
 ⟨fun k b=>bx (by omega) (h.1 k b),bx (by omega) h.2.1,aU _ _ _ h.2.2.1,bx (by omega) h.2.2.2.1,fun o=>by simpa using h.2.2.2.2 o⟩
theorem ei.SO{w:ak}{B:Nat}{pg:Nat->ByteArray}{cut:Bool}{left torn:Int}(h:ei w B pg cut left torn)(n:Int):ei (w.setCell ⟨B,4003,none⟩ (.int .i64 n)) B pg cut left n:=
 ⟨fun k b=>bx (by omega) (h.1 k b),bx (by omega) h.2.1,bx (by omega) h.2.2.1,aU _ _ _ h.2.2.2.1,fun o=>by simpa using h.2.2.2.2 o⟩
theorem ei.Kb{w:ak}{B:Nat}{pg:Nat->ByteArray}{cut:Bool}{left torn:Int}(h:ei w B pg cut left torn){k:Nat}(b:k<4001)(s:ByteArray):ei (w.setCell ⟨B,k,none⟩ (.string s)) B (nL pg k s) cut left torn:=by
 refine⟨fun i hi=>?_,bx (by omega) h.2.1,bx (by omega) h.2.2.1,bx (by omega) h.2.2.2.1,fun o=>by simpa using h.2.2.2.2 o⟩;unfold nL;by_cases e:i=k
 ·subst e;rw[if_pos rfl];exact aU _ _ _ (h.1 i hi)
 rw[if_neg e];exact bx e (h.1 i hi)
def SP(cut:Bool)(left:Int):Bool:=!cut||decide (0<left)
theorem qT{a b:ByteArray}(h:a.data.toList=b.data.toList):a=b:=by
 cases a;cases b;simp only[ks];exact Array.ext' h
theorem Wl(B:Nat)(pg:Nat->ByteArray)(cut:Bool)(left torn:Int)(w:ak)(h:ei w B pg cut left torn):bj prog 192 #[.pointer (some ⟨B,0,none⟩)] w (ar w (.bool (SP cut left))):=by
 have b:=h.2.1;have q:=h.2.2.1;clear h;go_enter func192,ntmps192;go_wp2
 all_goals
  go_ret;refine ar.mk ?_ (Gr.refl _);simp_all [SP]
theorem u_(s:ByteArray)(c:Nat)(w:ak)(hc:c<=100000)(hs:s.size<=100000):bj prog 139 #[.string s,.int .i64 c] w (ar w (.string ⟨(ej s.data.toList c).toArray⟩)):=by
 refine(Tryz.strings_Repeat s c w (by omega) (by have:=i4 hs hc;omega)).mono ?_;rintro e q ⟨rfl,b⟩;exact⟨rfl,b⟩
theorem Ib(w:ak):bj prog 139 #[.string ⟨#[0]⟩,.int .i64 1024] w (ar w (.string e_)):=u_ ⟨#[0]⟩ 1024 w (by omega) (by decide)
theorem rT(B:Nat)(pg:Nat->ByteArray)(cut:Bool)(left torn:Int)(k:Nat)(s:k<4001)(w:ak)(h:ei w B pg cut left torn):
  bj prog 81 #[.pointer (some ⟨B,0,none⟩),.int .i64 k] w (ar w (.tuple #[.string (cJ pg k),.nilIface])):=by
 have y:=h.1 k s;clear h;go_enter func81,ntmps81;cases q:(pg k).toList.isEmpty
 ·go_wp2_with fail
  all_goals first|omega|skip
  go_ret2;refine ar.mk ?_ (Gr.refl _);unfold cJ;rw[if_neg (by rw[q];decide)]
  rfl
 go_wp2_with fail
 all_goals first|omega|skip
 refine(Ib w).mono ?_;rintro e z ⟨rfl,b⟩;go_wp2_with fail
 go_ret2;refine ar.mk ?_ b;unfold cJ;rw[if_pos q]
 rfl
def n_(t:Int):Nat:=(min (max t 0) 1024).toNat
def Ck(s old:ByteArray)(n:Nat):List UInt8:=s.data.toList.take n++old.data.toList.drop n
def Ic(s old:ByteArray)(n:Nat):ByteArray:=⟨(Ck s old n).toArray⟩
theorem Qc(B:Nat)(pg:Nat->ByteArray)(cut:Bool)(left torn:Int)(k:Nat)(z:k<4001)(s:ByteArray)(hs:s.size=1024)(D:SP cut left=true)(M:-1000000<=left/\left<=9223372036854775807)(w:ak)(h:ei w B pg cut left torn):
  bj prog 137 #[.pointer (some ⟨B,0,none⟩),.int .i64 k,.string s] w fun e G=>e=.returned .nilIface/\ei G B (nL pg k s) cut (left-1) torn/\w.grownBy G (some B):=by
 have H:=ae h;clear h;have L:((s.size:Int) !=1024)=false:=by simp;omega
 go_enter func137,ntmps137;go_wp2_with fail
 refine(rT B pg cut left torn k z w H.out).mono ?_;rintro e J ⟨rfl,q⟩;have I:=ae (H.out.gr q);go_wp2_with fail
 refine(Wl B pg cut left torn J I.out).mono ?_;rintro e O ⟨rfl,y⟩;rw[D];have b:=ae (I.out.gr y);have Q:=b.out.2.2.1;have S:=b.out.2.2.2.2 4002;have U:=b.out.1 k z;have V:=b.out.2.2.2.2 k;go_wp2_with fail
 go_ret;exact⟨rfl,(b.out.SN _).Kb z s,((nZ (q.trans y) _).trans (jW _ _ _ _)).trans (jW _ _ _ _)⟩
theorem My(B:Nat)(pg:Nat->ByteArray)(cut:Bool)(left torn:Int)(k:Nat)(J:k<4001)(s:ByteArray)(hs:s.size=1024)(L:SP cut left=false)(Q:(cJ pg k).size=1024)(w:ak)(h:ei w B pg cut left torn):
  bj prog 137 #[.pointer (some ⟨B,0,none⟩),.int .i64 k,.string s] w fun e M=>e=.returned (.iface 24 (.int .i64 14))/\ei M B (nL pg k (Ic s (cJ pg k) (n_ torn))) cut left 0/\w.grownBy M (some B):=by
 have H:=ae h;clear h;have U:((s.size:Int) !=1024)=false:=by simp;omega
 go_enter func137,ntmps137;go_wp2_with fail
 refine(rT B pg cut left torn k J w H.out).mono ?_;rintro e S ⟨rfl,z⟩;have O:=ae (H.out.gr z);go_wp2_with fail
 refine(Wl B pg cut left torn S O.out).mono ?_;rintro e Z ⟨rfl,D⟩;rw[L];have y:=ae (O.out.gr D);have c3:=y.out.2.2.2.1;have z3:=y.out.2.2.2.2 4003;have ck:=y.out.1 k J;have zk:=y.out.2.2.2.2 k;generalize b:cJ pg k=old at*;have G:=ae b;clear b;have V:min (max torn 0) 1024=((n_ torn:Nat):Int):=by unfold n_;omega
 have Y:n_ torn<=1024:=by unfold n_;omega
 generalize q:n_ torn=n at*;have I:=ae q;clear q;have ha:∀w,(Op.stringOp .add (s.extract 0 n) (old.extract n 1024)).run prog w=.ok (.string (Ic s old n)) w:=fun w=>by
  rw[de w _ _ (by rw[bM,bM];omega)]
  congr 2
  apply qT;rw[jZ,Array.toList_append,cl,cl,<-Q];show _=Ck s old n;unfold Ck;rw[i5,Nat.sub_zero,aS (l:=List.drop n _) (by rw[dD,<-size_data];exact bC _)]
 go_wp2_with fail
 go_region
 go_wp2
 go_ret;refine⟨rfl,?_,(((nZ (z.trans D) _).trans (jW _ _ _ _)).trans (jW _ _ _ _)).trans (nZ (Gr.refl _).drew _)⟩;rw[G.out,I.out];exact((y.out.Kb J _).SO 0).gr (Gr.refl _).drew
theorem gZ(c:UInt8):∀n,ej [c] n=bB n c
 |0=>rfl
 |n+1=>by
  rw[List.replicate_succ,<-gZ c n]
  rfl
theorem xJ:e_.data.toList=mh []:=by
 show(ej [0] 1024).toArray.toList=[]++bB (1024-([]:List UInt8).length) 0;rw[ew,gZ,ik,List.length_nil]
theorem Mz(n:Int)(w:ak):bj prog 189 #[.int .i64 n] w (ar w (.string ⟨(gm n).toArray⟩)):=by
 have s:b_.wrap (n/256)=((((n/256) % 256).toNat.toUInt8).toNat:Int):=by
  show(n/256) % 256=_;simp;omega
 have y:b_.wrap n=(((n % 256).toNat.toUInt8).toNat:Int):=by
  show n % 256=_;simp;omega
 have q:Hid (gm n=[((n/256) % 256).toNat.toUInt8,(n % 256).toNat.toUInt8]):=ae rfl;generalize((n/256) % 256).toNat.toUInt8=a at*;generalize(n % 256).toNat.toUInt8=b at*;have hc:∀w:ak,(convert 188 9 (.slice (some ⟨w.heap.size,0,none⟩) 2 2)).run prog (w.alloc (.cells #[.int .u8 (a.toNat:Int),.int .u8 (b.toNat:Int)] 5))=.ok (.string ⟨#[a,b]⟩) (w.alloc (.cells #[.int .u8 (a.toNat:Int),.int .u8 (b.toNat:Int)] 5)):=fun w=>
  pY (a0:=w) (l:=[a,b]) (fK w #[.int .u8 (a.toNat:Int),.int .u8 (b.toNat:Int)] 2 (bC _) (by decide) rfl)
 go_enter func189,ntmps189;go_wp2_with fail
 go_ret;exact ar.mk (by rw[q.out];rfl) ((Gr.refl w).alloc _)
theorem mi(l m:List UInt8)(h:l.length+m.length<=100000000000):∀w,(Op.stringOp .add ⟨l.toArray⟩ ⟨m.toArray⟩).run prog w=.ok (.string ⟨(l++m).toArray⟩) w:=fun w=>by
 rw[de w _ _ (by rw[lu,lu];omega),jH]
theorem ww(U c:Nat)(q:U<256)(hc:c<256):bits lr dh ((U:Int)*256) (c:Int)=256*(U:Int)+(c:Int):=by
 have e:((U:Int)*256)=((U*256:Nat):Int):=by omega
 rw[e];show dh.wrap ((bt 64 ((U*256:Nat):Int)|||bt 64 (c:Int)).toNat:Int)=_;rw[iu,eU _ (by omega),eU _ (by omega),gs];have h:=cL (i:=8) (b:=c) hc U;rw[Nat.mul_comm]at h;rw[show(2:Nat)^8=256 from rfl]at h;rw[<-h];omega
theorem O3(s:ByteArray)(hs:2<=s.size)(w:ak):bj prog 140 #[.string s] w fun e D=>e=.returned (.int .i64 (eX s.data.toList 0))/\D=w.drew:=by
 have q:0<s.size:=by omega
 have y:1<s.size:=by omega
 have z:s[0]=s.data.toList.getD 0 0:=by
  rw[bm s 0 q,bz,bW (by rw[<-size_data];exact q)]
  rfl
 have B:s[1]=s.data.toList.getD (0+1) 0:=by
  rw[bm s 1 y,bz,bW (by rw[<-size_data];exact y)]
  rfl
 have G:Hid (eX s.data.toList 0=256*((s[0].toNat:Nat):Int)+((s[1].toNat:Nat):Int)):=ae (by rw[z,B];rfl);have J:=ww s[0].toNat s[1].toNat (s[0].toNat_lt) (s[1].toNat_lt);have hw:i6 ((s[0].toNat:Int)*256)=(s[0].toNat:Int)*256:=by
  have:=s[0].toNat_lt;unfold i6;omega
 have H:i6 (s[0].toNat:Int)=(s[0].toNat:Int):=by
  have:=s[0].toNat_lt;unfold i6;omega
 have I:i6 (s[1].toNat:Int)=(s[1].toNat:Int):=by
  have:=s[1].toNat_lt;unfold i6;omega
 clear z B;generalize hA:s[0]=a at*;generalize L:s[1]=b at*;go_enter func140,ntmps140;go_wp2_with fail
 go_region
 go_wp2_with fail
 go_ret;refine⟨?_,rfl⟩;rw[G.out]
 rfl
theorem vd(l:List UInt8):(⟨l.toArray⟩:ByteArray).data.toList=l:=by show l.toArray.toList=l;simp
theorem Ie(s:ByteArray)(hs:s.size<=1024)(w:ak):bj prog 138 #[.string s] w (ar w (.string ⟨(mh s.data.toList).toArray⟩)):=by
 have q:∀w,bj prog 139 #[.string ⟨#[0]⟩,.int .i64 (1024-(s.size:Int))] w (ar w (.string ⟨(bB (1024-s.size) (0:UInt8)).toArray⟩)):=fun w=>by
  have:=u_ ⟨#[0]⟩ (1024-s.size) w (by omega) (show 1<=100000 by omega);rw[show((1024-s.size:Nat):Int)=1024-(s.size:Int)by omega]at this;rw[<-gZ];exact this
 have ha:∀w,(Op.stringOp .add s ⟨(bB (1024-s.size) (0:UInt8)).toArray⟩).run prog w=.ok (.string ⟨(mh s.data.toList).toArray⟩) w:=fun w=>by
  rw[de w _ _ (by rw[lu (bB (1024-s.size) 0),dZ];omega)]
  congr 2
 have hw:dh.wrap (1024-(s.size:Int))=1024-(s.size:Int):=by rw[gs];omega
 generalize(⟨(mh s.data.toList).toArray⟩:ByteArray)=r at*;generalize(⟨(bB (1024-s.size) (0:UInt8)).toArray⟩:ByteArray)=z at*;go_enter func138,ntmps138;go_wp2_with fail
 refine(q w).mono ?_;rintro e y ⟨rfl,b⟩;go_wp2_with fail
 go_ret;exact ar.mk rfl b
def il(l:List ByteArray):List (List UInt8):=l.map fun s=>s.data.toList
theorem WP(n c:Nat)(hn:n<18446744073709551616)(hc:c<256):bits kM cD (n:Int) (c:Int)=((n^^^c:Nat):Int):=by
 show cD.wrap ((bt 64 (n:Int)^^^bt 64 (c:Int)).toNat:Int)=_;rw[BitVec.toNat_xor,eU _ (by omega),eU _ (by omega),dF];have h:n^^^c<2^64:=Nat.xor_lt_two_pow (by omega) (by omega);omega
theorem Kc(n:Nat)(c:UInt8):jj n c<18446744073709551616:=Nat.mod_lt _ (by omega)
theorem yT:∀(l:List UInt8) (n:Nat),n<18446744073709551616->l.foldl jj n<18446744073709551616
 |[],_,h=>h
 |c::l,n,_=>yT l _ (Kc n c)
theorem Kd:∀(l:List (List UInt8)) (n:Nat),n<18446744073709551616->l.foldl (fun n s=>s.foldl jj n) n<18446744073709551616
 |[],_,h=>h
 |s::l,n,h=>Kd l _ (yT s n h)
theorem Cl{s q:Type}(f:q->s->q)(b:q)(l:List s)(k:Nat)(y:k<l.length):(l.take (k+1)).foldl f b=f ((l.take k).foldl f b) l[k]:=by
 rw[aX y,List.foldl_append]
 rfl
theorem WQ(l:List ByteArray)(v:aJ)(w:ak)(h:ke cf w v l)(hl:l.length<=1000000)(hs:∀i (h:i<l.length),l[i].size<=1000000):
  bj prog 191 #[v] w (ar w (.string ⟨(Cj (il l)).toArray⟩)):=by
 obtain⟨i0,hi,Z,a1,a2⟩:=eY xI;have H:=ae h;have HS:=ae hs;obtain⟨ao,ca,rfl⟩:=h.form;clear h hs;go_enter func191,ntmps191;go_wp2_with fail
 go_loopw [10,3] (fun y I B=>∃i n:Nat,i<=l.length/\y=.int .i64 i/\I=.int .u64 n/\n=((il l).take i).foldl (fun n s=>s.foldl jj n) 14695981039346656037/\B=w) (fun y _ _=>l.length-(intOf y).toNat)
 case atStart=>exact⟨0,_,bu _,rfl,rfl,rfl,rfl⟩
 case round=>
  obtain⟨i,n,c7,rfl,rfl,hn,rfl⟩:=hrel;have D:n<18446744073709551616:=by
   rw[hn];exact Kd _ _ (by omega)
  have HN:=ae hn;clear hn;by_cases z:i<l.length
  ·obtain⟨b,c8,rfl,hc⟩:=H.out.at z;have c0:=hc i z;have c9:=HS.out i z;have a3:i<(il l).length:=by simpa[il]using z
   have a4:=ae (Cl (fun n s=>s.foldl jj n) 14695981039346656037 (il l) i a3);have L:(il l)[i]=l[i].data.toList:=by simp[il]
   have a5:=ae L;clear hc L;generalize l[i]=t at*;go_wp2_with fail
   go_loopw [16,3] (fun y I B=>∃k m:Nat,k<=t.size/\y=.int .i64 k/\I=.int .u64 m/\m=(t.data.toList.take k).foldl jj n/\B=wr) (fun y _ _=>t.size-(intOf y).toNat)
   case atStart=>exact⟨0,_,bu _,rfl,rfl,rfl,rfl⟩
   case round=>
    obtain⟨k,m,hk,rfl,rfl,Y,rfl⟩:=hrel;have V:m<18446744073709551616:=by
     rw[Y];exact yT _ _ D
    have HM:=ae Y;clear Y;by_cases G:k<t.size
    ·have a6:k<t.data.toList.length:=by rw[<-size_data];exact G
     have a7:=ae (Cl jj n t.data.toList k a6);have HG:=ae (bm t k G);have hx:=WP m t[k].toNat V t[k].toNat_lt;have M:cD.wrap (bits kM cD (m:Int) (cD.wrap (t[k].toNat:Int))*1099511628211)=((jj m t[k]:Nat):Int):=by
      have hw:cD.wrap (t[k].toNat:Int)=(t[k].toNat:Int):=by
       have:=t[k].toNat_lt;rw[dF];omega
      rw[hw,hx,dF];unfold jj;generalize m^^^t[k].toNat=x;omega
     have a8:=ae M;clear hx M;go_wp2_with fail
     refine⟨⟨k+1,jj m t[k],by omega,by go_num,by rw[a8.out],?_,trivial⟩,by simp[intOf];omega⟩;rw[a7.out,<-HM.out,HG.out]
    obtain rfl:k=t.size:=by omega
    have O:m=((il l).take (i+1)).foldl (fun n s=>s.foldl jj n) 14695981039346656037:=by
     rw[a4.out,<-HN.out,a5.out,HM.out,aS (by rw[<-size_data];exact bC _)]
    have a9:=ae O;clear O;go_wp2_with fail
    exact⟨⟨i+1,m,by omega,by go_num,rfl,a9.out,trivial⟩,by simp[intOf];omega⟩
  obtain rfl:i=l.length:=by omega
  have Q:n=Wk (il l):=by
   rw[HN.out,aS (by simp[il])]
   rfl
  have b0:=ae Q;clear Q
  rename ak=>wa
  go_wp2_with fail
  go_loopw [28,3,7] (fun y I bv B=>∃k:Nat,k<=8/\y=.int .i64 k/\I=.int .u64 ((n/256^k:Nat):Int)/\eW wa B bv (Ci n k)/\Gr wa B) (fun y _ _ _=>8-(intOf y).toNat)
  case atStart=>exact⟨0,bu _,rfl,by simp,fI _ _ _ _,Gr.refl _⟩
  case round=>
   obtain⟨k,hk,rfl,rfl,ho,hg⟩:=hrel;have HO:=ae ho;clear ho;have d0:=uZ n k;have c1:n/256^k<18446744073709551616:=fe (iF _ _) D;by_cases G:k<8
   ·have hb:b_.wrap ((n/256^k:Nat):Int)=(((n/256^k).toUInt8.toNat:Nat):Int):=by
     show _ % 256=((n/256^k % 256:Nat):Int);omega
    have S:((n/256^k:Nat):Int)/256=((n/256^(k+1):Nat):Int):=by
     rw[jE,<-Nat.div_div_eq_div_mul];omega
    have b1:Hid (Ci n (k+1)=Ci n k++[(n/256^k).toUInt8]):=ae rfl;generalize U:n/256^(k+1)=nx at*;have b2:=ae U;clear U;generalize(n/256^k).toUInt8=c at*;generalize n/256^k=q at*;have b3:=ae S;clear S;go_wp2_with(at_builtin;(refine bK (a0:=wa) rfl _ _ 188 rfl 5 i0 (.int .u8 0) 1 1 underlying188 hi Z a1 a2 rfl (by decide) _ _ _ rfl (eW.row HO.out) [_] rfl (by intro u hu;simp at hu;subst hu;rfl) rfl hg (by omega) (by omega) ?_))
    intro v4 w4 J b4;go_wp2_with fail
    refine⟨⟨k+1,by omega,by go_num,by rw[b2.out,b3.out],?_,b4⟩,by simp[intOf];omega⟩;rw[b1.out];exact oC (by rw[me,uZ];exact J)
   obtain rfl:k=8:=by omega
   have d1:=pY HO.out;go_wp2_with fail
   go_ret;refine ar.mk ?_ hg;rw[Cj,<-b0.out]
   rfl
end
section
open Go Go.RowKit Go.Maps
def MapAt(w:ak)(M n:Nat)(F:Int->Option ByteArray):Prop:=
 ∃D:DataW Unit,w.ownsMap prog 3 (plainElem prog 9) M n D/\
  ∀k:Int,(en .i64 k).wf=true->Maps.has D (.int .i64 k)=(F k).isSome/\∀z,D.atKey (.int .i64 k) z=match F k with|none=>z|some s=>.lit (.string s.data.toList)
theorem Ke:Keyed prog 3:=int_keyed di
theorem MapAt.kept{w w':ak}{M n:Nat}{F:Int->Option ByteArray}{row:Option Nat}(h:MapAt w M n F)(g:w.grownBy w' row)(b:some M≠row):MapAt w' M n F:=by
 obtain⟨D,q,s⟩:=h;exact⟨D,q.kept g b,s⟩
theorem MapAt.gr{w w':ak}{M n:Nat}{F:Int->Option ByteArray}(h:MapAt w M n F)(g:Gr w w'):MapAt w' M n F:=h.kept (nZ g none) (by simp)
theorem MapAt.made(w:ak):MapAt (w.alloc (.map #[] 0)) w.heap.size 0 (fun _=>none):=
 ⟨.map [],World.ownsMap_made w _ _ _,fun _ _=>⟨rfl,fun _=>rfl⟩⟩
theorem SQ{k:Int}(h:-9223372036854775808<=k/\k<=9223372036854775807):(en .i64 k).wf=true:=by
 simp[Lit.wf,IntKind.min,IntKind.max,mm,lW];omega
theorem WR(w:ak):(zeroValue 9).run prog w=.ok (.string ⟨#[]⟩) w:=by kernel_rfl
theorem MapAt.look{w:ak}{M n:Nat}{F:Int->Option ByteArray}(h:MapAt w M n F){k:Int}(y:-9223372036854775808<=k/\k<=9223372036854775807):
  (Instr.lookup 152 (.map (some M)) (.int .i64 k) true).run prog w=.ok (.tuple #[.string ((F k).getD ⟨#[]⟩),.bool (F k).isSome]) w:=by
 obtain⟨D,B,G⟩:=h;obtain⟨H,I⟩:=G k (SQ y);obtain⟨v,J,q,hv⟩:=B.look_ok (t:=152) (e:=9) Ke eB (WR w) (gw underlying9 (by decide)) (fM di (SQ y));rw[q,H];rw[I]at hv;obtain⟨s,rfl,b,_⟩:=plainElem_string_inv underlying9 hv;have:s=(F k).getD ⟨#[]⟩:=by
  apply qT;cases z:F k with
  |none=>
   rw[z]at b;simp only[jh,iP,g4]at b;exact b.1.symm
  |some u=>
   rw[z]at b;simp only[jh,iP,g4]at b;exact b.1.symm
 rw[this]
theorem MapAt.store{w:ak}{M n:Nat}{F:Int->Option ByteArray}(h:MapAt w M n F)(hn:n<1000000){k:Int}(I:-9223372036854775808<=k/\k<=9223372036854775807)(s:ByteArray)(hs:s.size<=9223372036854775807):
  ∃q,(iQ 152 (.map (some M)) (.int .i64 k) (.string s)).run prog w=.ok () q/\MapAt q M (n+1) (fun i=>if i=k then some s else F i)/\w.grownBy q (some M):=by
 obtain⟨D,G,H⟩:=h;obtain⟨q,B,J,L⟩:=G.update (t:=152) (e:=9) Ke eB (by unfold maxLen;omega) (fM di (SQ I)) (gw underlying9 (s:=s) (by unfold maxLen;exact hs));refine⟨q,B,⟨_,J,fun i hi=>?_⟩,L⟩;have b:=G.isMap;by_cases e:i=k
 ·subst e;simp only[if_true];exact⟨Maps.has_put_same b (show iR (.int .i64 i)from trivial) _,fun z=>Maps.atKey_put_same b (show iR (.int .i64 i)from trivial) _ z⟩
 have y:(en .i64 i)≠(en .i64 k):=by
  intro h;injection h with _ h
  exact e h
 simp only[if_neg e];rw[Maps.has_put_other y];exact⟨(H i hi).1,fun z=>by rw[Maps.atKey_put_other y];exact(H i hi).2 z⟩
end
section
open Go Go.RowKit
theorem ei.ay{S:Nat->Prop}{w w':ak}{B:Nat}{pg:Nat->ByteArray}{cut:Bool}{left torn:Int}(h:ei w B pg cut left torn)(g:ag S w w')(hs:¬S B):ei w' B pg cut left torn:=
 ⟨fun k b=>g.keeps hs (h.1 k b),g.keeps hs h.2.1,g.keeps hs h.2.2.1,g.keeps hs h.2.2.2.1,fun o=>(g.frozen o (ad h.2.1) hs).trans (h.2.2.2.2 o)⟩
theorem MapAt.block{w w':ak}{M n:Nat}{F:Int->Option ByteArray}(h:MapAt w M n F)(q:w'.heap[M]?=w.heap[M]?):MapAt w' M n F:=by
 obtain⟨D,⟨s,b,y,z⟩,B⟩:=h;exact⟨D,⟨s,b,q.trans y,z⟩,B⟩
theorem MapAt.lt{w:ak}{M n:Nat}{F:Int->Option ByteArray}(h:MapAt w M n F):M<w.heap.size:=by
 obtain⟨D,⟨s,b,q,y⟩,z⟩:=h;exact(bc.1 q).1
theorem MapAt.ay{S:Nat->Prop}{w w':ak}{M n:Nat}{F:Int->Option ByteArray}(h:MapAt w M n F)(g:ag S w w')(hs:¬S M):MapAt w' M n F:=h.block (g.block h.lt hs)
structure aT(w:ak)(B o:Nat)(h:Head):Prop where
 used:∀i,i<2000->w.cell? ⟨B,o+i,none⟩=some (.bool (h.used i))
 root:∀i,i<8->w.cell? ⟨B,o+2000+i,none⟩=some (.int .i64 (h.roots i))
 note:∀i,i<8->w.cell? ⟨B,o+2008+i,none⟩=some (.int .i64 (h.notes i))
theorem aT.same{w:ak}{B o:Nat}{h g:Head}(a:aT w B o h)(s:h.same g):aT w B o g:=
 ⟨fun i hi=>by rw[a.used i hi,s.1 i hi],fun i hi=>by rw[a.root i hi,(s.2 i hi).1],fun i hi=>by rw[a.note i hi,(s.2 i hi).2]⟩
theorem aT.gr{w w':ak}{B o:Nat}{h:Head}(a:aT w B o h)(g:Gr w w'):aT w' B o h:=
 ⟨fun i hi=>g.keeps (a.used i hi),fun i hi=>g.keeps (a.root i hi),fun i hi=>g.keeps (a.note i hi)⟩
theorem aT.ay{S:Nat->Prop}{w w':ak}{B o:Nat}{h:Head}(a:aT w B o h)(g:ag S w w')(hs:¬S B):aT w' B o h:=
 ⟨fun i hi=>g.keeps hs (a.used i hi),fun i hi=>g.keeps hs (a.root i hi),fun i hi=>g.keeps hs (a.note i hi)⟩
theorem aT.range{w:ak}{B o:Nat}{h:Head}(a:aT w B o h):w.rangeAt B o h.cells:=fun j v hv=>by
 have s:j<2016:=by
  have:=(bA.1 hv).1;rw[h.gy]at this;exact this
 rcases fS j 2000 with b|b
 ·rw[h.Af b]at hv;rw[a.used j b,hv]
 rcases fS j 2008 with q|q
 ·obtain⟨i,rfl⟩:∃i,j=2000+i:=⟨j-2000,by omega⟩;rw[h.Ag (show i<8 by omega)]at hv;rw[<-cs,a.root i (by omega),hv]
 obtain⟨i,rfl⟩:∃i,j=2008+i:=⟨j-2008,by omega⟩;rw[h.Ah (show i<8 by omega)]at hv;rw[<-cs,a.note i (by omega),hv]
theorem aT.yU{w:ak}{B o:Nat}{h:Head}(r:w.rangeAt B o h.cells):aT w B o h:=
 ⟨fun i hi=>r i _ (h.Af hi),fun i hi=>by rw[cs];exact r (2000+i) _ (h.Ag hi),fun i hi=>by rw[cs];exact r (2008+i) _ (h.Ah hi)⟩
theorem aT.box(w:ak)(h:Head)(t:da):aT (w.alloc (.cells h.cells.toArray t)) w.heap.size 0 h:=
 .yU fun j v hv=>by
  rw[bP,aQ];simpa using hv
theorem aT.there{w:ak}{B o:Nat}{h:Head}(a:aT w B o h)(hf:∀j,w.frozen? ⟨B,j,none⟩=false):w.there B o 2016:=fun j b=>
 ⟨a.range.isSome j (by rw[h.gy];exact b),hf _⟩
theorem aT.bg{w:ak}{B o:Nat}{h:Head}(a:aT w B o h)(p:Nat)(u:aJ)(b:p<o\/o+2016<=p):aT (w.setCell ⟨B,p,none⟩ u) B o h:=
 ⟨fun i hi=>bx (by omega) (a.used i hi),fun i hi=>bx (by omega) (a.root i hi),fun i hi=>bx (by omega) (a.note i hi)⟩
theorem aT.put{w:ak}{B o:Nat}{h:Head}(a:aT w B o h){k:Nat}(q:k<2000)(b:Bool):aT (w.setCell ⟨B,o+k,none⟩ (.bool b)) B o (h.put k b):=
 ⟨fun i hi=>by
  show _=some (kr (if i=k then b else h.used i));by_cases e:i=k
  ·subst e;rw[if_pos rfl];exact aU _ _ _ (a.used i hi)
  rw[if_neg e];exact bx (by omega) (a.used i hi),fun i hi=>bx (by omega) (a.root i hi),fun i hi=>bx (by omega) (a.note i hi)⟩
def Head.mS(h:Head)(i:Nat)(p:Int):Head:={h with roots:=fun j=>if j=i then p else h.roots j}
def Head.mT(h:Head)(i:Nat)(n:Int):Head:={h with notes:=fun j=>if j=i then n else h.notes j}
theorem Head.Qd(h:Head)(i:Nat)(p n:Int):(h.mS i p).mT i n=h.ed i p n:=rfl
theorem aT.mS{w:ak}{B o:Nat}{h:Head}(a:aT w B o h){k:Nat}(b:k<8)(p:Int):aT (w.setCell ⟨B,o+2000+k,none⟩ (.int .i64 p)) B o (h.mS k p):=
 ⟨fun i hi=>bx (by omega) (a.used i hi),fun i hi=>by
  show _=some (cj .i64 (if i=k then p else h.roots i));by_cases e:i=k
  ·subst e;rw[if_pos rfl];exact aU _ _ _ (a.root i hi)
  rw[if_neg e];exact bx (by omega) (a.root i hi),fun i hi=>bx (by omega) (a.note i hi)⟩
theorem aT.mT{w:ak}{B o:Nat}{h:Head}(a:aT w B o h){k:Nat}(b:k<8)(p:Int):aT (w.setCell ⟨B,o+2008+k,none⟩ (.int .i64 p)) B o (h.mT k p):=
 ⟨fun i hi=>bx (by omega) (a.used i hi),fun i hi=>bx (by omega) (a.root i hi),fun i hi=>by
  show _=some (cj .i64 (if i=k then p else h.notes i));by_cases e:i=k
  ·subst e;rw[if_pos rfl];exact aU _ _ _ (a.note i hi)
  rw[if_neg e];exact bx (by omega) (a.note i hi)⟩
theorem aT.over{w:ak}{B o:Nat}{h:Head}(a:aT w B o h)(hf:∀j,w.frozen? ⟨B,j,none⟩=false)(g:Head):aT (w.setCells B o g.cells) B o g:=
 .yU (World.rangeAt_setCells_same w B o g.cells (by rw[g.gy];exact a.there hf))
theorem aT.Kf{w:ak}{B o:Nat}{h:Head}(a:aT w B o h)(b:Nat)(g:Head)(q:o+2016<=b\/b+2016<=o):aT (w.setCells B b g.cells) B o h:=
 .yU (World.rangeAt_setCells_apart a.range B b g.cells (by rw[h.gy,g.gy];omega))
theorem dM{w:ak}{B p o:Nat}{v:aJ}(hc:w.cell? ⟨B,p,none⟩=some v)(g:Head)(b:p<o\/o+2016<=p):(w.setCells B o g.cells).cell? ⟨B,p,none⟩=some v:=by
 rw[World.cell?_setCells_out B g.cells o w ⟨B,p,none⟩ (fun _ _=>by rw[g.gy];exact b)];exact hc
theorem gU(B:Nat):∀(vs:List aJ) (o:Nat) (w:ak),ag (fun k=>k=B) w (w.setCells B o vs)
 |[],_,w=>ag.refl _ w
 |v::vs,o,w=>(ag.setCell (S:=fun k=>k=B) (p:=⟨B,o,none⟩) w v rfl).trans (gU B vs (o+1) _)
def mj:Head:=⟨fun _=>false,fun _=>0,fun _=>0⟩
theorem Qe:ap=iT 2000 (.bool false)++iT 16 (.int .i64 0):=by kernel_rfl
theorem yV(w:ak):aT (w.alloc (.cells ap 156)) w.heap.size 0 mj:=by
 rw[Qe];refine⟨fun i hi=>?_,fun i hi=>?_,fun i hi=>?_⟩
 ·rw[bP,Array.getElem?_append_left (by simpa using hi)];simp[hi,mj]
 ·rw[bP,cO (by simp),dg (by simp;omega),dJ]
  rfl
 rw[bP,cO (by simp;omega),dg (by simp;omega),dJ]
 rfl
theorem Bu{P:kE}{C:ak->Prop}{K:Act->Prop}{a:Act}{o:Oper}(ty:da)(x:i3)(y:o.op=.load ty x)(b q:Nat)(z:a.eval x=.pointer (some ⟨b,q,none⟩))(s:List aJ)(d:TypeDesc)(hc:∀w,C w->w.rangeAt b q s)
  (hu:P.underlying ty=some d) (hd:d.isRow=true) (hi:(P.info? ty).map (·.size)=some s.length) (B:K (a.put o.dst (.agg s.toArray))):o.quiet P a C K:=
 ⟨_,fun w hw=>by
  unfold Oper.quietAt execOp;simp only[y,z,Instr.loadAt,Instr.sureAddr,Sem.run_bind,Sem.run_pure,Result.andThen_ok,iU w b q ty s d (hc w hw) hu hd hi];exact⟨rfl,rfl⟩,B⟩
theorem ED{P:kE}{q:Func}{a:Nat}{t:da}{tmps:Array aJ}{w:ak}{p:Addr}{v:aJ}(s:q.results=#[l_ a t])(y:tmps.getD a undef=.pointer (some p))(z:(loadVar t p).run P w=.ok v w):
  (fT q tmps).run P w=.ok v w:=by
 have b:tmps[a]?.getD undef=.pointer (some p):=by simpa using y
 simp[fT,s,b,asAddr,z]
theorem Head.xK(h:Head):h.cells.toArray.size=2016:=by rw[gc,Head.gy]
theorem ml:(prog.info? 156).map (·.size)=some 2016:=by kernel_rfl
theorem FE(n:Nat)(h:n<256):bits k2 b_ (n:Int) 1=((n % 2:Nat):Int):=by
 show b_.wrap ((bt 8 (n:Int)&&&bt 8 ((1:Nat):Int)).toNat:Int)=_;have e:∀m:Nat,m<256->(bt 8 (m:Int)).toNat=m:=fun m b=>by
  rw[fl];omega
 rw[BitVec.toNat_and,e n h,e 1 (by omega),Nat.and_two_pow_sub_one_eq_mod n 1];show((n % 2^1:Nat):Int) % 256=_;omega
def tJ(l:List UInt8)(i:Nat):Bool:=(l.getD (i/8) 0).toNat/2^(i % 8) % 2==1
def qU(l:List UInt8)(i:Nat):Head:=⟨fun j=>decide (j<i)&&tJ l j,fun _=>0,fun _=>0⟩
theorem EE(l:List UInt8)(i:Nat):((qU l i).put i (tJ l i)).same (qU l (i+1)):=
 ⟨fun j b=>by
  show(if j=i then tJ l i else decide (j<i)&&tJ l j)=(decide (j<i+1)&&tJ l j);by_cases e:j=i
  ·subst e;rw[if_pos rfl,decide_eq_true (co j),Bool.true_and]
  rw[if_neg e]
  congr 1
  rw[decide_eq_decide];omega,fun _ _=>⟨rfl,rfl⟩⟩
theorem extract_drop(s:ByteArray)(a b:Nat)(q:s.size<=b):(s.extract a b).data.toList=s.data.toList.drop a:=by
 rw[cl,aS];rw[dD,<-size_data];omega
theorem Ai(l:List UInt8)(k i:Nat):eX (l.drop k) i=eX l (k+i):=by
 unfold eX;simp only[bz,List.getElem?_drop];rw[cs]
def qV(l:List UInt8)(n:Nat):Head:=⟨fun j=>tJ l j,fun j=>if j<n then eX l (250+4*j)else 0,fun j=>if j<n then eX l (252+4*j)else 0⟩
theorem EF(l:List UInt8)(n:Nat):((qV l n).ed n (eX l (250+4*n)) (eX l (252+4*n))).same (qV l (n+1)):=
 ⟨fun _ _=>rfl,fun j q=>by
  constructor
  ·show(if j=n then eX l (250+4*n)else if j<n then eX l (250+4*j)else 0)=if j<n+1 then eX l (250+4*j)else 0
   by_cases e:j=n
   ·subst e;rw[if_pos rfl,if_pos (by omega)]
   rw[if_neg e];by_cases b:j<n
   ·rw[if_pos b,if_pos (by omega)]
   rw[if_neg b,if_neg (by omega)]
  show(if j=n then eX l (252+4*n)else if j<n then eX l (252+4*j)else 0)=if j<n+1 then eX l (252+4*j)else 0
  by_cases e:j=n
  ·subst e;rw[if_pos rfl,if_pos (by omega)]
  rw[if_neg e];by_cases b:j<n
  ·rw[if_pos b,if_pos (by omega)]
  rw[if_neg b,if_neg (by omega)]⟩
theorem If(l:List UInt8):((qV l 8).put 0 true).same (nY l):=
 ⟨fun j b=>by
  show(if j=0 then true else tJ l j)=(j==0||tJ l j);by_cases e:j=0
  ·subst e
   rfl
  ·rw[if_neg e,show(j==0)=false by simpa using e,Bool.false_or],fun j b=>by
  constructor
  ·show(if j<8 then eX l (250+4*j)else 0)=eX l (250+4*j);rw[if_pos b]
  show(if j<8 then eX l (252+4*j)else 0)=eX l (252+4*j);rw[if_pos b]⟩
theorem Kg(s:ByteArray)(hs:s.size=1024)(w:ak):bj prog 82 #[.string s] w (ar w (.agg (nY s.data.toList).cells.toArray)):=by
 go_enter func82,ntmps82;go_wp2_with fail
 have z0:aT ((w.alloc (.cells ap 156)).alloc (.cells ap 156)) w.heap.size 0 mj:=(yV w).gr ((Gr.refl _).alloc _);have z1:aT ((w.alloc (.cells ap 156)).alloc (.cells ap 156)) (w.heap.size+1) 0 mj:=by
  have:=yV (w.alloc (.cells ap 156));simpa using this
 have f0:∀j,((w.alloc (.cells ap 156)).alloc (.cells ap 156)).frozen? ⟨w.heap.size,j,none⟩=false:=fun j=>by simp
 have f1:∀j,((w.alloc (.cells ap 156)).alloc (.cells ap 156)).frozen? ⟨w.heap.size+1,j,none⟩=false:=fun j=>by simp
 have a7:Gr w ((w.alloc (.cells ap 156)).alloc (.cells ap 156)):=((Gr.refl w).alloc _).alloc _;generalize((w.alloc (.cells ap 156)).alloc (.cells ap 156))=w0 at*;have HS:=ae hs;go_loopw [7] (fun B y=>∃i:Nat,i<=2000/\B=.int .i64 i/\aT y (w.heap.size+1) 0 (qU s.data.toList i)/\aT y w.heap.size 0 mj/\(∀j,y.frozen? ⟨w.heap.size,j,none⟩=false)/\(∀j,y.frozen? ⟨w.heap.size+1,j,none⟩=false)/\Gr w y) (fun B _=>2000-(intOf B).toNat)
 case atStart=>exact⟨0,bu _,rfl,z1.same ⟨fun j _=>by simp[qU,mj],fun _ _=>⟨rfl,rfl⟩⟩,z0,f0,f1,a7⟩
 case round=>
  obtain⟨i,hi,rfl,ha,D,z,b,L⟩:=hrel;by_cases q:i<2000
  ·have M:=ha.used i q;have c1:=b i;rw[aQ]at M;have hq:i/8<s.size:=by omega
   have Q:(bits k2 b_ ((s[i/8].toNat:Int)/2^(i % 8)) 1==1)=tJ s.data.toList i:=by
    have e0:s[i/8]=s.data.toList.getD (i/8) 0:=by
     rw[bm s (i/8) hq,bz,bW (by rw[<-size_data];exact hq)]
     rfl
    have U:((s[i/8].toNat:Int)/2^(i % 8))=((s[i/8].toNat/2^(i % 8):Nat):Int):=by push_cast;rfl
    rw[U,FE _ (fe (iF _ _) s[i/8].toNat_lt),e0];unfold tJ;generalize(s.data.toList.getD (i/8) 0).toNat/2^(i % 8)=x;rcases Nat.mod_two_eq_zero_or_one x with h|h<;>rw[h]<;>rfl
   have HB:=ae Q;clear Q;go_wp2_with fail
   refine⟨⟨i+1,by omega,by go_num,?_,D.ay (ag.setCell (S:=fun k=>k=w.heap.size+1) wr _ rfl) (by omega),fun j=>by simpa using z j,fun j=>by simpa using b j,L.setCell (by simp) _⟩,by simp[intOf];omega⟩;rw[HB.out];have:=ha.put q (tJ s.data.toList i);rw[aQ]at this;exact this.same (EE _ _)
  have a8:i=2000:=by omega
  subst a8;go_wp2_with fail
  go_loopw [23] (fun B y=>∃i:Nat,i<=8/\B=.int .i64 i/\aT y (w.heap.size+1) 0 (qV s.data.toList i)/\aT y w.heap.size 0 mj/\(∀j,y.frozen? ⟨w.heap.size,j,none⟩=false)/\(∀j,y.frozen? ⟨w.heap.size+1,j,none⟩=false)/\Gr w y) (fun B _=>8-(intOf B).toNat)
  case atStart=>exact⟨0,bu _,rfl,ha.same ⟨fun j hj=>by simp[qU,qV,hj],fun _ _=>by simp[qU,qV]⟩,D,z,b,L⟩
  case round=>
   obtain⟨i,hi,rfl,ha,D,z,b,L⟩:=hrel;by_cases q:i<8
   ·have M:=ha.root i q;have c1:=ha.note i q;have z0:=b (2000+i);have z1:=b (2008+i);rw[aQ]at M c1;have V:(s.extract (250+4*i) 1024).size=774-4*i:=by rw[bM];omega
    have c8:250+4*(i:Int)<=(s.size:Int):=by omega
    go_wp2_with fail
    obtain⟨t,Y⟩:∃t,s.extract (250+4*i) 1024=t:=⟨_,rfl⟩;have U:eX t.data.toList 0=eX s.data.toList (250+4*i):=by
     rw[<-Y,extract_drop s _ _ (by omega),Ai,Nat.add_zero]
    have e2:eX (t.extract 2 t.size).data.toList 0=eX s.data.toList (252+4*i):=by
     rw[extract_drop t _ _ (bC _),<-Y,extract_drop s _ _ (by omega),List.drop_drop,Ai]
     congr 1
     omega
    rw[Y]at V⊢;have c9:(2:Int)<=(t.size:Int):=by omega
    have r1:=fun w=>O3 t (by omega) w;rw[U]at r1;have r2:=fun w=>O3 (t.extract 2 t.size) (by rw[bM];omega) w;rw[e2]at r2;clear V Y U e2;generalize Z:eX s.data.toList (250+4*i)=q0 at r1;generalize a0:eX s.data.toList (252+4*i)=q1 at r2;have a1:=ae Z;have a2:=ae a0;clear Z a0;go_region_with(first
     |( go_at_call_of 140 (cf t);refine(r1 _).mono ?_;rintro e w2 ⟨rfl,rfl⟩)
     |( go_at_call 140;refine(r2 _).mono ?_;rintro e w2 ⟨rfl,rfl⟩))
    all_goals
     go_wp2_with fail
     go_roundw
     case rel=>
       refine⟨_,_,_,_,_,_,_,_,_,_,_,_,_,_,_,_,_,_,_,_,_,_,?_,rfl⟩;have g3:∀W:ak,Gr W W.drew.drew.drew:=fun W=>(((Gr.refl W).drew).drew).drew;have G:=(ha.mS q q0).mT q q1;rw[aQ,aQ,Head.Qd]at G;have O:=(ag.setCell (S:=fun k=>k=w.heap.size+1) (p:=⟨w.heap.size+1,2000+i,none⟩) wr (.int .i64 q0) rfl).trans (ag.setCell (p:=⟨w.heap.size+1,2008+i,none⟩) _ (.int .i64 q1) rfl);refine⟨i+1,by omega,by go_num,?_,(D.ay O (by omega)).gr (g3 _),fun j=>by simpa using z j,fun j=>by simpa using b j,(O.gr L (fun k hk=>by omega)).trans (g3 _)⟩;rw[<-a1.out,<-a2.out]at G;rw[<-a1.out,<-a2.out];exact(G.same (EF _ _)).gr (g3 _)
     case measure=>
       simp[intOf];omega
   have a9:i=8:=by omega
   subst a9;have M:=ha.used 0 (by omega);have z0:=b 0;rw[aQ]at M;have H:=(ha.put (show 0<2000 by omega) true).same (If s.data.toList);rw[aQ]at H;have O:=ag.setCell (S:=fun k=>k=w.heap.size+1) (p:=⟨w.heap.size+1,0,none⟩) wr (.bool true) rfl;have I:=D.ay O (by omega);have J:∀j,(wr.setCell ⟨w.heap.size+1,0,none⟩ (.bool true)).frozen? ⟨w.heap.size,j,none⟩=false:=fun j=>by simpa using z j
   have b0:=O.gr L (fun k hk=>by omega);have a3:(wr.setCell ⟨w.heap.size+1,0,none⟩ (.bool true)).there w.heap.size 0 (nY s.data.toList).cells.toArray.size:=by
    rw[Head.xK];exact I.there J
   have b1:=ae H.range;have b2:=ae a3;clear a3;have ho:=I.over J (nY s.data.toList);have a4:=(gU w.heap.size (nY s.data.toList).cells 0 (wr.setCell ⟨w.heap.size+1,0,none⟩ (.bool true))).gr b0 (fun k hk=>by omega);have HO:=ae ho;have b3:=ae a4;clear H I ho a4 ha D z b J;go_wp2_with(first
    |( refine wpList_load_mid rfl 156 _ rfl (w.heap.size+1) 0 rfl _ _ b1.out dA rfl (by rw[ml,Head.gy]) ?_)
    |( refine g5 rfl 156 _ _ rfl w.heap.size 0 _ rfl rfl b2.out (by rw[ml,Head.xK]) (ez (Head.cells_one _)) ?_))
   refine jT (v:=.agg (nY s.data.toList).cells.toArray) ?_ rfl ⟨rfl,b3.out⟩;have b4:=iU (P:=prog) ((wr.setCell ⟨w.heap.size+1,0,none⟩ (.bool true)).setCells w.heap.size 0 (nY s.data.toList).cells) w.heap.size 0 156 _ _ HO.out.range dA rfl (by rw[ml,Head.gy]);exact ED rfl rfl b4
def mU(B b:Nat)(l:List UInt8)(w:ak):Prop:=ji 274 5 B b (bX l) w
theorem mU.gr{B b:Nat}{l:List UInt8}{w w':ak}(h:mU B b l w)(g:Gr w w'):mU B b l w':=by
 rcases h with⟨s,v,q,y,z⟩|⟨s,v,q,y,z⟩
 ·exact .inl ⟨s,v,(g.block _ (bc.1 q).1).trans q,aF y g,z⟩
 exact .inr ⟨s,v,(g.block _ (bc.1 q).1).trans q,aF y g,z⟩
theorem FG:(prog.info? 274).map (·.size)=some 2:=by kernel_rfl
theorem FH:liesAt prog prog.depth 274 (2/prog.cellsOf 274) 0 274 1=true:=by kernel_rfl
theorem mU.new(w:ak):mU w.heap.size w.heap.size [] (w.alloc (.cells #[.pointer none,.slice none 0 0] 274)):=Lib.fresh_isBuilder _ _ w
theorem xL(B b:Nat)(y:List aJ)(w:ak)(h:ji 274 5 B b y w):
  bj prog 247 #[.pointer (some ⟨b,0,none⟩)] w fun e z=>e=.returned (.tuple #[])/\eH 274 5 B b (.pointer (some ⟨b,0,none⟩)) y z/\Below B w z:=by
 obtain⟨j,q,s⟩:=Option.map_eq_some_iff.1 FG;rcases h with h|h
 ·have D:=h.cell0;have hf:=h.frozen0;have hu:=Lib.run_to_unsafe (P:=prog) (w:=w) ⟨b,0,none⟩ eT jk q (by rw[s];decide) h.shape (Nat.zero_lt_succ 1);have hv:=Lib.run_from_unsafe (P:=prog) (w:=w) ⟨b,0,none⟩ jk eT q h.shape FH;have H:=ae h;clear h;go_enter func247,ntmps247;go_wp2_with fail
  rw[run_callFunc_extern func286 (by kernel_rfl) (by kernel_rfl) (by kernel_rfl) (e:=js) (by kernel_rfl),Lib.run_noEscape];simp only[i7];rw[Oper.upon_value];go_wp2_with fail
  refine jU (v:=.tuple #[]) (by simp[fT,i1,go_sem]) rfl ?_;exact⟨rfl,H.out.used _,(kx B w).setCell (p:=⟨b,0,none⟩) H.out.1 _⟩
 have D:=h.cell0;have hn:=Lib.run_neq_ptr_same (P:=prog) (w:=w) ⟨b,0,none⟩ eT q;have H:=ae h;clear h;go_enter func247,ntmps247;go_wp2_with fail
 refine jU (v:=.tuple #[]) (by simp[fT,i1,go_sem]) rfl ?_;exact⟨rfl,H.out,kx B _⟩
theorem vf:(prog.info? 5).map (fun i=>(i.zero,i.size,i.bytes))=some (some (.int .u8 0),1,1):=by kernel_rfl
theorem BM:(274:da)≠5:=by decide
theorem xM{w s:ak}{b:Nat}{o:Obj}{row:Option Nat}{v:aJ}(y:w.heap[b]?=some o)(z:w.grownBy s row)(B:row=v.ownBlock)(q:v.ownBlock≠some b):s.heap[b]?=some o:=by
 rw[z.block b (bc.1 y).1 (fun e=>q (by rw[<-B,<-e]))];exact y
theorem oQ(B b:Nat)(l:List UInt8)(s:ByteArray)(w:ak)(h:mU B b l w)(hl:l.length+s.size<=1000000)(hB:B<=w.heap.size):
  bj prog 195 #[.pointer (some ⟨b,0,none⟩),.string s] w fun e Z=>e=.returned (.tuple #[.int .i64 s.size,.nilIface])/\mU B b (l++s.data.toList) Z/\Below B w Z:=by
 obtain⟨i0,hi,S,U,V⟩:=eY vf;have H:=ae h;clear h;go_enter func195,ntmps195;go_wp2_with fail
 refine(xL B b _ w H.out).mono ?_;rintro e w1 ⟨rfl,h1,L⟩;have H1:=ae h1;obtain⟨M,v,G,D,Y⟩:=h1;have a4:(bX l).length=l.length:=bh l;have c0:w1.cell? ⟨b,0,none⟩=some (.pointer (some ⟨b,0,none⟩)):=by rw[be G];rfl
 have c1:w1.cell? ⟨b,1,none⟩=some v:=by rw[be G];rfl
 have a9:=L.size;go_wp2_with(at_builtin;refine Lib.wpList_append_own_string _ rfl _ _ 188 9 rfl B 5 i0 underlying188 underlying9 hi S U V _ _ _ rfl D s rfl (by unfold maxLen;omega) (by omega) (by omega) ?_)
 intro Q O q y _;have z:=xM G y rfl Y;have d0:O.cell? ⟨b,0,none⟩=some (.pointer (some ⟨b,0,none⟩)):=by rw[be z];rfl
 have d1:O.cell? ⟨b,1,none⟩=some v:=by rw[be z];rfl
 have f1:O.frozen? ⟨b,1,none⟩=false:=fn z 1;have I:eH 274 5 B b (.pointer (some ⟨b,0,none⟩)) (bX (l++s.data.toList)) (O.setCell ⟨b,1,none⟩ Q):=by
  refine gf M z ?_ BM;rw[ek,az,bh s.data.toList,bh l,<-size_data];exact q
 have J:=(L.grown y (by omega) (fun k hk=>(D.lt k hk).1)).setCell (p:=⟨b,1,none⟩) M Q;have HP:=ae I;have HB:=ae J;clear I J;obtain⟨ao,n',cap,rfl⟩:∃ao n' cap,Q=.slice ao n' cap:=by
  rcases q.2 with⟨hv,_⟩|⟨g,cap,b0,hv,_⟩
  ·exact⟨_,_,_,hv⟩
  exact⟨_,_,_,hv⟩
 clear D q y z G;go_wp2_with fail
 go_ret2;exact⟨rfl,.inr HP.out,HB.out⟩
theorem Ig(B b:Nat)(l:List UInt8)(c:UInt8)(w:ak)(h:mU B b l w)(hl:l.length+1<=1000000)(hB:B<=w.heap.size):
  bj prog 244 #[.pointer (some ⟨b,0,none⟩),.int .u8 (c.toNat:Int)] w fun e w'=>e=.returned .nilIface/\mU B b (l++[c]) w'/\Below B w w':=by
 obtain⟨i0,hi,Y,Z,a0⟩:=eY vf;have H:=ae h;clear h;generalize hq:((c.toNat:Nat):Int)=q;have HQ:=ae hq;clear hq;go_enter func244,ntmps244;go_wp2_with fail
 refine(xL B b _ w H.out).mono ?_;rintro e I ⟨rfl,h1,M⟩;have H1:=ae h1;obtain⟨O,v,z,G,a1⟩:=h1;have a7:(bX l).length=l.length:=bh l;have c0:I.cell? ⟨b,0,none⟩=some (.pointer (some ⟨b,0,none⟩)):=by rw[be z];rfl
 have c1:I.cell? ⟨b,1,none⟩=some v:=by rw[be z];rfl
 have b2:=M.size;have U:∀j u,([cj .u8 q])[j]?=some u->(I.alloc (.cells #[.int .u8 q] 5)).cell? ((⟨I.heap.size,0,none⟩:Addr).add j)=some u:=by
  intro j u Q
  match j,Q with
  |0,Q=>simp at Q;subst Q;simp[Addr.add]
 go_wp2_with(at_builtin;refine wpList_append_own _ rfl _ _ 188 rfl B 5 i0 (.int .u8 0) 1 1 underlying188 hi Y Z a0 rfl (by decide) _ _ _ rfl (G.alloc _) ⟨I.heap.size,0,none⟩ 1 1 [.int .u8 q] rfl rfl U (by intro u hu;simp at hu;subst hu;rfl) (by unfold maxLen;omega) (by omega) (by simp;omega) ?_)
 intro V S s y _;have D:=xM (v:=v) ((Below.heap_alloc I (.cells #[.int .u8 q] 5) b (bc.1 z).1).trans z) y rfl a1;have d0:S.cell? ⟨b,0,none⟩=some (.pointer (some ⟨b,0,none⟩)):=by rw[be D];rfl
 have d1:S.cell? ⟨b,1,none⟩=some v:=by rw[be D];rfl
 have f1:S.frozen? ⟨b,1,none⟩=false:=fn D 1;have J:eH 274 5 B b (.pointer (some ⟨b,0,none⟩)) (bX (l++[c])) (S.setCell ⟨b,1,none⟩ V):=by
  refine gf O D ?_ BM;rw[ek,az,bh [c]];have e:bX [c]=[.int .u8 q]:=by
   rw[<-HQ.out]
   rfl
  rw[e,bh l];exact s
 have L:=((M.alloc (by omega) (.cells #[.int .u8 q] 5)).grown y (by simp;omega) (fun k hk=>(G.lt k hk).1)).setCell (p:=⟨b,1,none⟩) O V;have HP:=ae J;have HB:=ae L;clear J L;obtain⟨ao,n',cap,rfl⟩:∃ao n' cap,V=.slice ao n' cap:=by
  rcases s.2 with⟨hv,_⟩|⟨g,cap,b3,hv,_⟩
  ·exact⟨_,_,_,hv⟩
  exact⟨_,_,_,hv⟩
 clear G s y D z;go_wp2_with fail
 go_ret;exact⟨rfl,.inr HP.out,HB.out⟩
theorem Aj{b:Nat}{w w':ak}{h:Head}(a:aT w b 0 h)(g:Below (b+1) w w'):aT w' b 0 h:=
 ⟨fun i hi=>by rw[i9 (p:=⟨b,0+i,none⟩) g (co b)];exact a.used i hi,fun i hi=>by rw[i9 (p:=⟨b,0+2000+i,none⟩) g (co b)];exact a.root i hi,fun i hi=>by rw[i9 (p:=⟨b,0+2008+i,none⟩) g (co b)];exact a.note i hi⟩
theorem SR(x k:Nat)(q:x<2^k)(s:k<8):bits lr b_ (x:Int) ((2^k:Nat):Int)=((x+2^k:Nat):Int):=by
 show b_.wrap ((bt 8 (x:Int)|||bt 8 ((2^k:Nat):Int)).toNat:Int)=_;have y:2^k<=128:=by
  have:(2:Nat)^k<=2^7:=el (by omega) (by omega);omega
 have e:∀m:Nat,m<256->(bt 8 (m:Int)).toNat=m:=fun m z=>by
  rw[fl];omega
 rw[iu,e x (by omega),e _ (by omega)];have h:=cL (i:=k) (b:=x) q 1;rw[Nat.mul_one]at h;rw[Nat.or_comm,<-h];show((2^k+x:Nat):Int) % 256=_;omega
theorem MC(u:Nat->Bool){m:Nat}(b:m<250):(kY u).take (m+1)=(kY u).take m++[(mg u (8*m) 8).toUInt8]:=by
 rw[aX (by rw[jp];exact b)];simp[kY]
theorem Ih(h:Head)(n:Nat):jV h (n+1)=jV h n++(gm (h.roots n)++gm (h.notes n)):=by
 unfold jV;rw[ib,es];simp
theorem Ii(f:Nat->Int)(W:ak):(bF 154 (.agg #[.int .i64 (f 0),.int .i64 (f 1),.int .i64 (f 2),.int .i64 (f 3),.int .i64 (f 4),.int .i64 (f 5),.int .i64 (f 6),.int .i64 (f 7)]) (.int .i64 0)).run prog W=.ok (.int .i64 (f 0)) W:=by kernel_rfl
theorem Ij(f:Nat->Int)(W:ak):(bF 154 (.agg #[.int .i64 (f 0),.int .i64 (f 1),.int .i64 (f 2),.int .i64 (f 3),.int .i64 (f 4),.int .i64 (f 5),.int .i64 (f 6),.int .i64 (f 7)]) (.int .i64 1)).run prog W=.ok (.int .i64 (f 1)) W:=by kernel_rfl
theorem Ik(f:Nat->Int)(W:ak):(bF 154 (.agg #[.int .i64 (f 0),.int .i64 (f 1),.int .i64 (f 2),.int .i64 (f 3),.int .i64 (f 4),.int .i64 (f 5),.int .i64 (f 6),.int .i64 (f 7)]) (.int .i64 2)).run prog W=.ok (.int .i64 (f 2)) W:=by kernel_rfl
theorem Il(f:Nat->Int)(W:ak):(bF 154 (.agg #[.int .i64 (f 0),.int .i64 (f 1),.int .i64 (f 2),.int .i64 (f 3),.int .i64 (f 4),.int .i64 (f 5),.int .i64 (f 6),.int .i64 (f 7)]) (.int .i64 3)).run prog W=.ok (.int .i64 (f 3)) W:=by kernel_rfl
theorem Im(f:Nat->Int)(W:ak):(bF 154 (.agg #[.int .i64 (f 0),.int .i64 (f 1),.int .i64 (f 2),.int .i64 (f 3),.int .i64 (f 4),.int .i64 (f 5),.int .i64 (f 6),.int .i64 (f 7)]) (.int .i64 4)).run prog W=.ok (.int .i64 (f 4)) W:=by kernel_rfl
theorem Io(f:Nat->Int)(W:ak):(bF 154 (.agg #[.int .i64 (f 0),.int .i64 (f 1),.int .i64 (f 2),.int .i64 (f 3),.int .i64 (f 4),.int .i64 (f 5),.int .i64 (f 6),.int .i64 (f 7)]) (.int .i64 5)).run prog W=.ok (.int .i64 (f 5)) W:=by kernel_rfl
theorem Ip(f:Nat->Int)(W:ak):(bF 154 (.agg #[.int .i64 (f 0),.int .i64 (f 1),.int .i64 (f 2),.int .i64 (f 3),.int .i64 (f 4),.int .i64 (f 5),.int .i64 (f 6),.int .i64 (f 7)]) (.int .i64 6)).run prog W=.ok (.int .i64 (f 6)) W:=by kernel_rfl
theorem Iq(f:Nat->Int)(W:ak):(bF 154 (.agg #[.int .i64 (f 0),.int .i64 (f 1),.int .i64 (f 2),.int .i64 (f 3),.int .i64 (f 4),.int .i64 (f 5),.int .i64 (f 6),.int .i64 (f 7)]) (.int .i64 7)).run prog W=.ok (.int .i64 (f 7)) W:=by kernel_rfl
theorem Ir(f:Nat->Int)(m:Nat)(b:m<8):∀W,(bF 154 (.agg #[.int .i64 (f 0),.int .i64 (f 1),.int .i64 (f 2),.int .i64 (f 3),.int .i64 (f 4),.int .i64 (f 5),.int .i64 (f 6),.int .i64 (f 7)]) (.int .i64 (m:Int))).run prog W=.ok (.int .i64 (f m)) W:=by
 intro W;have:m=0\/m=1\/m=2\/m=3\/m=4\/m=5\/m=6\/m=7:=by omega
 rcases this with rfl|rfl|rfl|rfl|rfl|rfl|rfl|rfl
 ·exact Ii f W
 ·exact Ij f W
 ·exact Ik f W
 ·exact Il f W
 ·exact Im f W
 ·exact Io f W
 ·exact Ip f W
 exact Iq f W
theorem Kh{w wr W b:ak}{h:Head}(y:Gr w wr)(s:w.heap.size+1<=wr.heap.size)(ha:aT wr w.heap.size 0 h)(g:Gr wr W)(q:Below (w.heap.size+1) W b):aT b w.heap.size 0 h/\w.heap.size+1<=b.heap.size/\Gr w b:=
 ⟨Aj (ha.gr g) q,cF s (cF g.size q.size),eb (y.trans g) (q.mono (by omega))⟩
theorem U4(h:Head)(w:ak):bj prog 190 #[.agg h.cells.toArray] w (ar w (.string ⟨(tI h).toArray⟩)):=by
 go_enter func190,ntmps190;go_wp2_with fail
 have z0:aT ((w.alloc (.cells h.cells.toArray 156)).alloc (.cells #[.pointer none,.slice none 0 0] 274)) w.heap.size 0 h:=(aT.box w h _).gr ((Gr.refl _).alloc _);have z1:mU (w.heap.size+1) (w.heap.size+1) [] ((w.alloc (.cells h.cells.toArray 156)).alloc (.cells #[.pointer none,.slice none 0 0] 274)):=by
  have:=mU.new (w.alloc (.cells h.cells.toArray 156));simpa using this
 have b0:Gr w ((w.alloc (.cells h.cells.toArray 156)).alloc (.cells #[.pointer none,.slice none 0 0] 274)):=((Gr.refl w).alloc _).alloc _;have b1:w.heap.size+1<=((w.alloc (.cells h.cells.toArray 156)).alloc (.cells #[.pointer none,.slice none 0 0] 274)).heap.size:=by simp
 generalize((w.alloc (.cells h.cells.toArray 156)).alloc (.cells #[.pointer none,.slice none 0 0] 274))=w0 at*;go_loopw [4] (fun s y=>∃m:Nat,m<=250/\s=.int .i64 (8*(m:Int))/\mU (w.heap.size+1) (w.heap.size+1) ((kY h.used).take m) y/\aT y w.heap.size 0 h/\w.heap.size+1<=y.heap.size/\Gr w y) (fun s _=>2000-(intOf s).toNat)
 case atStart=>exact⟨0,bu _,rfl,z1,z0,b1,b0⟩
 case round=>
  obtain⟨m,hm,rfl,S,ha,b,U⟩:=hrel;have V:=ae S;clear S;by_cases G:m<250
  ·have c9:8*(m:Int)<2000:=by omega
   go_wp2_with fail
   go_loopw [13,5] (fun s cv y=>∃k:Nat,k<=8/\s=.int .i64 k/\cv=.int .u8 (mg h.used (8*m) k:Nat)/\y=wr) (fun s _ _=>8-(intOf s).toNat)
   case atStart=>exact⟨0,bu _,rfl,rfl,rfl⟩
   case round=>
    obtain⟨k,hk,rfl,rfl,rfl⟩:=hrel;by_cases b2:k<8
    ·have J:=ha.used (8*m+k) (by omega);rw[aQ]at J;have a5:=yS h.used (8*m) k;have ho:=SR _ k a5 b2;have hp:((2:Int)^k) % 256=((2^k:Nat):Int):=by
      have h1:(2:Nat)^k<=2^7:=el (by omega) (by omega);have h2:((2^k:Nat):Int)=(2:Int)^k:=by push_cast;rfl
      rw[<-h2];omega
     rw[<-hp]at ho;have HO:=ae ho;have hn:mg h.used (8*m) (k+1)=mg h.used (8*m) k+if h.used (8*m+k)then 2^k else 0:=rfl
     have HN:=ae hn;clear ho hn hp;cases hu:h.used (8*m+k)
     ·rw[hu]at J;have HU:=ae hu;clear hu;go_wp2_with fail
      refine⟨⟨k+1,by omega,by go_num,?_,trivial⟩,by simp[intOf];omega⟩;rw[HN.out,HU.out]
      rfl
     rw[hu]at J;have HU:=ae hu;clear hu;go_wp2_with fail
     refine⟨⟨k+1,by omega,by go_num,?_,trivial⟩,by simp[intOf];omega⟩;rw[HN.out,HU.out,HO.out]
     rfl
    obtain rfl:k=8:=by omega
    have Y:((mg h.used (8*m) 8:Nat):Int)=(((mg h.used (8*m) 8).toUInt8.toNat:Nat):Int):=by
     have:=yS h.used (8*m) 8;show _=((mg h.used (8*m) 8 % 256:Nat):Int);omega
    have Z:=MC h.used G;generalize b3:(mg h.used (8*m) 8).toUInt8=c at*;rw[Y];have H:=ae Z;clear Z Y b3;have a0:((kY h.used).take m).length=m:=by rw[dQ,jp];omega
    go_wp2_with fail
    refine(Ig _ _ _ c wr V.out (by omega) b).mono ?_;rintro e L ⟨rfl,O,q⟩;rw[<-H.out]at O;have b4:=Aj ha q;have Q:Gr w L:=eb U (q.mono (by omega));have a6:w.heap.size+1<=L.heap.size:=cF b q.size;have b5:=ae O;clear q O H;go_wp2_with fail
    exact⟨⟨m+1,by omega,by go_num,b5.out,b4,a6,Q⟩,by simp[intOf];omega⟩
  obtain rfl:m=250:=by omega
  have a1:wr.rangeAt w.heap.size 2000 ((aV 8).map (fun i=>cj .i64 (h.roots i))):=fun j v hv=>by
   have hj:j<8:=by simpa using(bA.1 hv).1
   have b6:v=.int .i64 (h.roots j):=by simpa[hj]using hv.symm
   rw[b6];have:=ha.root j hj;rw[aQ]at this;exact this
  have b7:=ae a1;clear a1;go_wp2_with(refine wpList_load_mid rfl 154 _ rfl w.heap.size 2000 rfl _ _ b7.out underlying154 rfl (by kernel_rfl) ?_)
  try go_frame
  go_loopw [31] (fun s y=>∃m:Nat,m<=8/\s=.int .i64 m/\mU (w.heap.size+1) (w.heap.size+1) (kY h.used++jV h m) y/\aT y w.heap.size 0 h/\w.heap.size+1<=y.heap.size/\Gr w y) (fun s _=>8-(intOf s).toNat)
  case atStart=>
   refine⟨0,bu _,rfl,?_,ha,b,U⟩;have:=V.out;rw[aS (by rw[jp];exact bC _)]at this;simpa[jV]using this
  case round=>
   obtain⟨m,hm,rfl,S,ha,b,U⟩:=hrel;have V:=ae S;clear S;by_cases G:m<8
   ·have d8:=Ir h.roots m G;have J:=ha.note m G;rw[aQ]at J;have H:=ae (Ih h m);generalize h.roots m=I at*;generalize h.notes m=D at*;have a0:(kY h.used++jV h m).length=250+4*m:=by rw[az,jp,tH]
    have d0:=mi (gm I) (gm D) (by simp[gm]);have a2:(gm I++gm D).length=8-4:=by simp[gm]
    have d9:(⟨(gm I++gm D).toArray⟩:ByteArray).size=4:=by rw[lu,a2]
    have b8:=fun(W:ak) (g:Gr wr W)=>oQ (w.heap.size+1) (w.heap.size+1) (kY h.used++jV h m) ⟨(gm I++gm D).toArray⟩ W (V.out.gr g) (by omega) (cF b g.size);clear a2;have b9:=Mz I;have c1:=Mz D;generalize gm I=t0 at*;generalize gm D=t1 at*;go_wp2_with fail
    go_region_with(first
     |( go_at_call_of 189 (cj dh I);refine(b9 _).mono ?_;rintro e L ⟨rfl,z⟩;first|(have k0:=z.keeps (show kk _ _=some (.int .i64 D)by simpa using J))|skip)
     |( go_at_call_of 189 (cj dh D);refine(c1 _).mono ?_;rintro e w3 ⟨rfl,B⟩)
     |( go_at_call 195;refine(b8 _ (by
       first
         |(refine Gr.trans ?_ B;repeat(with_reducible first|refine Gr.drew ?_|refine Gr.alloc ?_ _)
           refine Gr.trans ?_ z;repeat(with_reducible first|refine Gr.drew ?_|refine Gr.alloc ?_ _);exact Gr.refl _)
         |(refine Gr.trans ?_ z;repeat(with_reducible first|refine Gr.drew ?_|refine Gr.alloc ?_ _)
           refine Gr.trans ?_ B;repeat(with_reducible first|refine Gr.drew ?_|refine Gr.alloc ?_ _);exact Gr.refl _))).mono ?_;rintro e w4 ⟨rfl,a3,M⟩))
    all_goals
     obtain⟨c2,a7,c3⟩:=Kh U b ha (by
       first
         |(refine Gr.trans ?_ B;repeat(with_reducible first|refine Gr.drew ?_|refine Gr.alloc ?_ _)
           refine Gr.trans ?_ z;repeat(with_reducible first|refine Gr.drew ?_|refine Gr.alloc ?_ _);exact Gr.refl _)
         |(refine Gr.trans ?_ z;repeat(with_reducible first|refine Gr.drew ?_|refine Gr.alloc ?_ _)
           refine Gr.trans ?_ B;repeat(with_reducible first|refine Gr.drew ?_|refine Gr.alloc ?_ _);exact Gr.refl _)) M
     rw[dr,<-H.out]at a3;clear M z B;go_wp2_with fail
     go_roundw
     case rel=>
       exact⟨m+1,by omega,by go_num,a3,c2,a7,c3⟩
     case measure=>
       simp[intOf];omega
   obtain rfl:m=8:=by omega
   have a0:(kY h.used++jV h 8).length=282:=by rw[az,jp,tH]
   have c4:=Tryz.Builder_String_any (w.heap.size+1) (w.heap.size+1) _ wr V.out b;have c5:Hid (tI h=mh (kY h.used++jV h 8)):=ae rfl;generalize kY h.used++jV h 8=l at*;go_wp2_with fail
   refine c4.mono ?_;rintro e L ⟨rfl,q⟩;have Q:Gr w L:=eb U (q.mono (by omega));have a4:=Ie ⟨l.toArray⟩ (by rw[lu];omega);rw[vd,<-c5.out]at a4;clear q;go_wp2_with fail
   refine(a4 L).mono ?_;rintro e w3 ⟨rfl,c6⟩;go_wp2_with fail
   go_ret;exact ar.mk rfl (Q.trans c6)
def jX(b:List Nat):Head:=⟨fun j=>b.contains j,fun _=>0,fun _=>0⟩
theorem Is(b:List Nat)(i:Nat)(h:i<b.length):((jX (b.take i)).put b[i] true).same (jX (b.take (i+1))):=by
 have q:∀j,j∈b.take (i+1)↔j∈b.take i\/j=b[i]:=fun j=>by rw[aX h,dU,fy]
 refine⟨fun j _=>?_,fun _ _=>⟨rfl,rfl⟩⟩;show(if j=b[i]then true else(b.take i).contains j)=(b.take (i+1)).contains j;by_cases e:j=b[i]
 ·rw[if_pos e,eq_comm,ch,q];exact .inr e
 rw[if_neg e,Bool.eq_iff_iff,ch,ch,q];exact⟨.inl,fun h=>h.elim id (fun h=>absurd h e)⟩
theorem Ki(h:Head):(tI h).take 250=kY h.used:=by
 unfold tI mh;rw[dr,List.take_append_of_le_length (by rw[jp];exact bC _),aS (by rw[jp];exact bC _)]
theorem U5(q:List Nat)(l:List ByteArray)(pv lv:aJ)(w:ak)(U:ke Ae w pv q)(V:ke cf w lv l)(d4:q.length<=100000)(H:∀i (h:i<q.length),q[i]<2000)(d5:l.length<=100000)(I:∀i (h:i<l.length),l[i].size<=1000000):
  bj prog 136 #[pv,lv] w (ar w (.string ⟨(Ia q (il l)).toArray⟩)):=by
 have HP:=ae U;have HL:=ae V;have a2:=ae H;have a3:=ae I;obtain⟨po,pc,rfl⟩:=U.form;obtain⟨lo,lc,rfl⟩:=V.form;clear U V H I;go_enter func136,ntmps136;go_wp2_with fail
 have z0:=yV w;have f0:∀j,(w.alloc (.cells ap 156)).frozen? ⟨w.heap.size,j,none⟩=false:=fun j=>by simp
 have a4:Gr w (w.alloc (.cells ap 156)):=(Gr.refl w).alloc _;generalize(w.alloc (.cells ap 156))=w0 at*;go_loopw [11] (fun Y z=>∃i:Nat,i<=q.length/\Y=.int .i64 i/\aT z w.heap.size 0 (jX (q.take i))/\(∀j,z.frozen? ⟨w.heap.size,j,none⟩=false)/\Gr w z) (fun Y _=>q.length-(intOf Y).toNat)
 case atStart=>exact⟨0,bu _,rfl,z0.same ⟨fun j _=>by simp[jX,mj],fun _ _=>⟨rfl,rfl⟩⟩,f0,a4⟩
 case round=>
  obtain⟨i,hi,rfl,ha,hf,Z⟩:=hrel;by_cases B:i<q.length
  ·obtain⟨b,d6,rfl,hc⟩:=(HP.out.gr Z).at B;have c0:=hc i B;have hk:=a2.out i B;have a5:=ae (Is q i B);clear hc;generalize q[i]=k at*;unfold Ae at c0;have d0:=ha.used k hk;have d1:=hf k;rw[aQ]at d0;go_wp2_with fail
   refine⟨⟨i+1,by omega,by go_num,?_,fun j=>by simpa using hf j,Z.setCell (by simp) _⟩,by simp[intOf];omega⟩;have:=ha.put hk true;rw[aQ]at this;exact this.same a5.out
  obtain rfl:i=q.length:=by omega
  rw[List.take_length]at ha;have a6:=U4 (jX q);have a7:=Mz (q.length:Int);have a8:=ha.range;have J:∀W,(∃p:Regrown,W=Sort.grow (redrawn wr p.d) p.os)->W.rangeAt w.heap.size 0 (jX q).cells:=fun W h=>(ha.gr (bR h)).range;have L:=ae J;clear J;have c3:=mi (gm (q.length:Int)) (kY (jX q).used) (by rw[jp];simp[gm]);have d7:(⟨(tI (jX q)).toArray⟩:ByteArray).size=1024:=by rw[lu,Mx]
  have d8:(⟨(tI (jX q)).toArray⟩:ByteArray).extract 0 250=⟨(kY (jX q).used).toArray⟩:=by
   apply qT;rw[cl,vd,vd,i5,Ki]
  go_wp2_with fail
  have M:Hid (qS q=gm (q.length:Int)++kY (jX q).used):=ae rfl;generalize gm (q.length:Int)=s at*;generalize kY (jX q).used=y at*;generalize(⟨(tI (jX q)).toArray⟩:ByteArray)=tx at*;clear a8;refine wp_region_quiet_below (by kernel_rfl) (by kernel_rfl) ?_
  repeat(first
   |( go_big_quiet_want;refine Bu 156 _ rfl w.heap.size 0 rfl _ _ L.out dA rfl (by rw[ml,Head.gy]) ?_;(try simp only[Act.put,List.setIfInBounds_toArray,List.set_cons_zero,List.set_cons_succ]);go_big_quiet_on)
   |go_big_quiet_step (first|(go_at_call 189;exact ar.qR (a7 _))|(go_at_call 190;exact ar.qR (a6 _))))
  refine wpQuiet_nil ?_;intro G O;have Q:=Z.trans (bR O);have a9:=ae ((HL.out.gr Q).gr ((Gr.refl G).alloc (.cells #[.string ⟨(s++y).toArray⟩] 9)));have b0:=ae (Qb cf G ⟨(s++y).toArray⟩ 9);clear O L;have b1:(s++y).length=252:=by rw[<-M.out,EA]
  have b2:Hid (∀(D:aJ) (z:ak),gM cf 9 G z D ([⟨(s++y).toArray⟩]++l)->bj prog 191 #[D] z (ar z (.string ⟨(Cj ((s++y)::il l)).toArray⟩))):=ae fun D z ho=>by
   have:=WQ ([⟨(s++y).toArray⟩]++l) D z ho.row (by simp;omega) (fun i hi=>by
     cases i with
     |zero=>
       show(⟨(s++y).toArray⟩:ByteArray).size<=_;rw[lu,b1];omega
     |succ i=>
       have:=a3.out i (by simpa using hi);simpa using this)
   have e:il ([⟨(s++y).toArray⟩]++l)=(s++y)::il l:=by
     show(⟨(s++y).toArray⟩:ByteArray).data.toList::il l=_;rw[vd]
   rw[e]at this;exact this
  have c4:(Cj ((s++y)::il l)).length=8:=uZ _ 8;have b3:Hid (Ia q (il l)=mh ((s++y)++Cj ((s++y)::il l))):=ae (by rw[<-M.out];rfl);generalize Cj ((s++y)::il l)=sm at*;have c2:=mi (s++y) sm (by omega);have S:=Ie ⟨((s++y)++sm).toArray⟩ (by rw[lu,az];omega);rw[vd,<-b3.out]at S;generalize(⟨((s++y)++sm).toArray⟩:ByteArray)=u2 at*;generalize(⟨(s++y).toArray⟩:ByteArray)=u1 at*;go_wp2_with(at_builtin;refine Ka (a0:=G) rfl _ _ 22 9 (.string ⟨#[]⟩) 16 underlying22 FD rfl (fun _=>rfl) (by omega) rfl _ [u1] rfl b0.out _ l rfl a9.out (by simp;omega) ((Gr.refl G).alloc _) ?_)
  intro D w4 b4 b5 _;go_wp2_with fail
  refine(b2.out D w4 b4).mono ?_;rintro e w5 ⟨rfl,b6⟩;go_wp2_with fail
  refine(S _).mono ?_;rintro e w6 ⟨rfl,b7⟩;go_wp2_with fail
  go_ret;exact ar.mk rfl (((Q.trans b5).trans b6).trans b7)
structure Dk where
 pg:Nat->ByteArray
 cut:Bool
 left:Int
 torn:Int
def Dk.on(d:Dk):Bool:=SP d.cut d.left
def Dk.whole(d:Dk):Prop:=∀k,k<4001->(cJ d.pg k).size=1024
theorem oS:e_.size=1024:=by
 show(List.toArray _).size=1024;rw[gc,Lib.repeatL_length]
 rfl
theorem xO{pg:Nat->ByteArray}{k:Nat}{s:ByteArray}(hs:s.size=1024)(i:Nat):cJ (nL pg k s) i=if i=k then s else cJ pg i:=by
 unfold cJ nL;by_cases e:i=k
 ·rw[if_pos e,if_pos e,if_neg];intro h;rw[kq]at h;have b:s.data.toList.length=1024:=by rw[<-size_data];exact hs
  rw[List.isEmpty_iff]at h;rw[h]at b;simp at b
 rw[if_neg e,if_neg e]
theorem Qf{s old:ByteArray}(hs:s.size=1024)(b:old.size=1024)(n:Nat)(hn:n<=1024):(Ic s old n).size=1024:=by
 have q:s.data.toList.length=1024:=by rw[<-size_data];exact hs
 have y:old.data.toList.length=1024:=by rw[<-size_data];exact b
 rw[size_data];show(Ck s old n).toArray.toList.length=1024;simp only[Ck,ew,az,dQ,dD];omega
theorem MD(t:Int):n_ t<=1024:=by unfold n_;omega
def jG(d:Dk)(k:Nat)(s:ByteArray):Bool×Dk:=
 if d.on then(true,{d with pg:=nL d.pg k s,left:=d.left-1})else(false,{d with pg:=nL d.pg k (Ic s (cJ d.pg k) (n_ d.torn)),torn:=0})
def fW:Dk->List (Nat×ByteArray)->Bool×Dk
 |d,[]=>(true,d)
 |d,x::l=>if(jG d x.1 x.2).1 then fW (jG d x.1 x.2).2 l else(false,(jG d x.1 x.2).2)
theorem yW(d:Dk):fW d []=(true,d):=rfl
theorem kJ(d:Dk)(x:Nat×ByteArray)(l:List (Nat×ByteArray)):fW d (x::l)=if(jG d x.1 x.2).1 then fW (jG d x.1 x.2).2 l else(false,(jG d x.1 x.2).2):=rfl
theorem od:∀(a b:List (Nat×ByteArray)) (d:Dk),fW d (a++b)=if(fW d a).1 then fW (fW d a).2 b else(false,(fW d a).2)
 |[],b,d=>by rw[ik,yW];rfl
 |x::a,b,d=>by
  rw[g6,kJ,kJ];cases(jG d x.1 x.2).1
  ·rfl
  exact od a b _
theorem ME{d:Dk}(h:d.whole)(k:Nat){s:ByteArray}(hs:s.size=1024):(jG d k s).2.whole:=by
 intro i hi;unfold jG
 split
 ·show(cJ (nL d.pg k s) i).size=1024;rw[xO hs]
  split
  ·exact hs
  exact h i hi
 by_cases y:k<4001
 ·have q:=Qf hs (h k y) _ (MD d.torn);show(cJ (nL d.pg k _) i).size=1024;rw[xO q]
  split
  ·exact q
  exact h i hi
 show(cJ (nL d.pg k _) i).size=1024;have b:i≠k:=by omega
 unfold cJ nL;rw[if_neg b];exact h i hi
def MF(l:List (Nat×ByteArray)):Prop:=∀x∈l,x.1<4001/\x.2.size=1024
theorem Kj{a b:List (Nat×ByteArray)}(ha:MF a)(q:MF b):MF (a++b):=fun x s=>(dU.1 s).elim (ha x) (q x)
theorem tK:∀(l:List (Nat×ByteArray)) {d:Dk},d.whole->MF l->(fW d l).2.whole
 |[],_,h,_=>h
 |x::l,d,h,b=>by
  have q:=ME h x.1 (b x (by simp)).2;rw[kJ];cases(jG d x.1 x.2).1
  ·exact q
  exact tK l q (fun y s=>b y (by simp[s]))
theorem Qg(d:Dk)(k:Nat)(s:ByteArray):d.left-1<=(jG d k s).2.left/\(jG d k s).2.left<=d.left:=by
 unfold jG
 split
 ·exact⟨g9 _,by show d.left-1<=d.left;omega⟩
 exact⟨by show d.left-1<=d.left;omega,g9 _⟩
theorem Cn:∀(l:List (Nat×ByteArray)) (d:Dk),d.left-l.length<=(fW d l).2.left/\(fW d l).2.left<=d.left
 |[],d=>⟨by simp[fW],g9 _⟩
 |x::l,d=>by
  have b:=Qg d x.1 x.2;have q:=Cn l (jG d x.1 x.2).2;rw[kJ,List.length_cons];cases(jG d x.1 x.2).1
  ·exact⟨by show _<=(jG d x.1 x.2).2.left;omega,b.2⟩
  exact⟨by show _<=(fW (jG d x.1 x.2).2 l).2.left;omega,by show(fW (jG d x.1 x.2).2 l).2.left<=_;omega⟩
theorem MG{d e:Dk}{l:List (Nat×ByteArray)}{i:Nat}(hi:i<l.length)(h:fW d (l.take i)=(true,e))(b:(jG e l[i].1 l[i].2).1=true):fW d (l.take (i+1))=(true,(jG e l[i].1 l[i].2).2):=by
 rw[aX hi,od,h,if_pos rfl,kJ,if_pos b,yW]
theorem MH{d e:Dk}{l m:List (Nat×ByteArray)}{i:Nat}(hi:i<l.length)(h:fW d (l.take i)=(true,e))(b:(jG e l[i].1 l[i].2).1=false):fW d (l++m)=(false,(jG e l[i].1 l[i].2).2):=by
 have q:l++m=l.take i++(l[i]::(l.drop (i+1)++m)):=by
  rw[<-g6,<-dr,<-List.drop_eq_getElem_cons hi,List.take_append_drop]
 rw[q,od,h,if_pos rfl,kJ,b]
 rfl
def wy(b:List Nat)(l:List ByteArray):ByteArray:=⟨(Ia b (il l)).toArray⟩
def MI(F:Int->Option ByteArray):List Nat:=(aV 2000).filter fun(k:Nat)=>(F k).isSome
theorem Kk{F:Int->Option ByteArray}{k:Nat}:k∈MI F↔k<2000/\(F k).isSome:=by simp[MI]
theorem SV(F:Int->Option ByteArray):(MI F).length<=2000:=by
 have:=ea (fun(k:Nat)=>(F k).isSome) (aV 2000);simpa[MI]using this
def tL(F:Int->Option ByteArray):Prop:=∀k s,F k=some s->1<=k/\k<2000/\s.size=1024
def lw(b:List Nat)(l:List ByteArray):List (Nat×ByteArray):=b.zip l++[(2000,e_)]
theorem Kl{b:List Nat}{l:List ByteArray}(y:∀k∈b,k<2000)(hs:∀s∈l,s.size=1024):MF (lw b l):=by
 refine Kj (fun x q=>?_) (fun x q=>?_)
 ·obtain⟨z,B⟩:=i2 (show(x.1,x.2)∈b.zip l from q);exact⟨by have:=y _ z;omega,hs _ B⟩
 rw[fy.1 q];exact⟨by show 2000<4001;omega,oS⟩
def jD(l:List UInt8)(k:Nat):Bool:=(l.getD (2+k/8) 0).toNat/2^(k % 8) % 2==1
def oT(pg:Nat->ByteArray):List Nat:=(aV 2000).filter (jD (cJ pg 2000).data.toList)
def yX(pg:Nat->ByteArray):List ByteArray:=(aV (oT pg).length).map fun i=>cJ pg (2001+i)
def fc(pg:Nat->ByteArray):List Nat:=if wy (oT pg) (yX pg)=cJ pg 2000 then oT pg else[]
def jI(pg:Nat->ByteArray):List ByteArray:=if wy (oT pg) (yX pg)=cJ pg 2000 then yX pg else[]
theorem Km(pg:Nat->ByteArray):(fc pg).length=(jI pg).length:=by
 unfold fc jI
 split
 ·simp[yX]
 rfl
theorem Co(pg:Nat->ByteArray):(oT pg).length<=2000:=by
 have:=ea (jD (cJ pg 2000).data.toList) (aV 2000);simpa[oT]using this
theorem Ak(pg:Nat->ByteArray):∀k∈fc pg,k<2000:=by
 intro k b;unfold fc at b
 split at b
 ·exact cg.1 (List.mem_filter.1 b).1
 cases b
theorem Al{d:Dk}(h:d.whole):∀s∈jI d.pg,s.size=1024:=by
 intro s hs;unfold jI at hs
 split at hs
 ·obtain⟨i,hi,rfl⟩:=cK.1 hs;have:=cg.1 hi;have:=Co d.pg;exact h _ (by omega)
 cases hs
def kK(pg:Nat->ByteArray):List (Nat×ByteArray):=if fc pg=[]then[]else lw (fc pg) (jI pg)
theorem Qh{d:Dk}(h:d.whole):MF (kK d.pg):=by
 unfold kK
 split
 ·intro x b;cases b
 exact Kl (Ak d.pg) (Al h)
def headD(pg:Nat->ByteArray):Head:=nY (cJ pg 0).data.toList
end
section
open Go Go.RowKit Go.Maps
theorem MapAt.drop{w:ak}{M n:Nat}{F:Int->Option ByteArray}(h:MapAt w M n F){k:Int}(B:-9223372036854775808<=k/\k<=9223372036854775807)(ty:da):
  ∃b,(lq #[152,3] ty #[.map (some M),.int .i64 k]).run prog w=.ok (.tuple #[]) b/\MapAt b M n (fun i=>if i=k then none else F i)/\w.grownBy b (some M):=by
 obtain⟨D,G,y⟩:=h;obtain⟨b,s,H,I⟩:=G.drop (t:=152) (e:=9) Ke eB (fM di (SQ B)) ty;refine⟨b,s,⟨_,H,fun i hi=>?_⟩,I.grown⟩;by_cases e:i=k
 ·subst e;simp only[if_true];exact⟨Maps.has_del_same,fun z=>Maps.atKey_del_same z⟩
 have q:(en .i64 i)≠(en .i64 k):=by
  intro h;injection h with _ h
  exact e h
 simp only[if_neg e];rw[Maps.has_del_other q];exact⟨(y i hi).1,fun z=>by rw[Maps.atKey_del_other q];exact(y i hi).2 z⟩
def lx(F:Int->Option ByteArray)(k:Int)(s:Option ByteArray):Int->Option ByteArray:=fun i=>if i=k then s else F i
theorem MapAt.O5{w:ak}{M n:Nat}{F:Int->Option ByteArray}(h:MapAt w M n F)(hn:n<1000000){k:Int}(q:-9223372036854775808<=k/\k<=9223372036854775807)(s:ByteArray)(hs:s.size<=9223372036854775807):
 ∃b,(iQ 152 (.map (some M)) (.int .i64 k) (.string s)).run prog w=.ok () b/\MapAt b M (n+1) (lx F k (some s))/\w.grownBy b (some M):=h.store hn q s hs
theorem Kn{b:Array Oper}{rest:List Oper}{o:Oper}{a:Act}{Q:Exit->Act->ak->Prop}{w:ak}(z:o.guard=none)(m x:i3)(s:o.op=Op.call {callee:=Callee.builtin md,args:=#[m,x],argTypes:=#[152,3]})
  {M n:Nat} {F:Int->Option ByteArray} (h:MapAt w M n F) (B:a.eval m=.map (some M)) {k:Int} (D:a.eval x=.int .i64 k) (G:-9223372036854775808<=k/\k<=9223372036854775807)
  (H:∀w',MapAt w' M n (lx F k none)->w.grownBy w' (some M)->wpList prog b Q rest (a.put o.dst (.tuple #[])) w'):wpList prog b Q (o::rest) a w:=by
 refine wpList_plain z fun I y=>?_;obtain⟨w',q,r1,r2⟩:=h.drop G o.type;unfold Oper.wp;simp[execOp,s,resolve,invoke,builtin,B,D,q,i7];exact y _ _ (H w' r1 r2)
end
section
open Go Go.RowKit
structure aK(w:ak)(PB DB M n:Nat)(h sv:Head)(F:Int->Option ByteArray)(down:Bool)(times:Int):Prop where
 pZ:w.cell? ⟨PB,0,none⟩=some (.pointer (some ⟨DB,0,none⟩))
 head:aT w PB 1 h
 map:w.cell? ⟨PB,2017,none⟩=some (.map (some M))
 saved:aT w PB 2018 sv
 down:w.cell? ⟨PB,4034,none⟩=some (.bool down)
 times:w.cell? ⟨PB,4035,none⟩=some (.int .i64 times)
 free:∀o,w.frozen? ⟨PB,o,none⟩=false
 iH:MapAt w M n F
 ne:PB≠M
theorem aK.gr{w w':ak}{PB DB M n:Nat}{h s:Head}{F:Int->Option ByteArray}{q:Bool}{b:Int}(p:aK w PB DB M n h s F q b)(g:Gr w w'):aK w' PB DB M n h s F q b:=
 ⟨g.keeps p.pZ,p.head.gr g,g.keeps p.map,p.saved.gr g,g.keeps p.down,g.keeps p.times,fun o=>(g.frozen o (ad p.pZ)).trans (p.free o),p.iH.gr g,p.ne⟩
theorem aK.ay{S:Nat->Prop}{w w':ak}{PB DB M n:Nat}{h y:Head}{F:Int->Option ByteArray}{s:Bool}{b:Int}(p:aK w PB DB M n h y F s b)(g:ag S w w')(q:¬S PB)(z:¬S M):aK w' PB DB M n h y F s b:=
 ⟨g.keeps q p.pZ,p.head.ay g q,g.keeps q p.map,p.saved.ay g q,g.keeps q p.down,g.keeps q p.times,fun o=>(g.frozen o (ad p.pZ) q).trans (p.free o),p.iH.ay g z,p.ne⟩
theorem aK.lt{w:ak}{PB DB M n:Nat}{h s:Head}{F:Int->Option ByteArray}{q:Bool}{b:Int}(p:aK w PB DB M n h s F q b):PB<w.heap.size:=ad p.pZ
theorem aK.MJ{w w':ak}{PB DB M n z:Nat}{h B:Head}{F D:Int->Option ByteArray}{y:Bool}{b:Int}(p:aK w PB DB M n h B F y b)(g:w.grownBy w' (some M))(G:MapAt w' M z D):aK w' PB DB M z h B D y b:=by
 have q:ag (fun k=>k=M) w w':=ag.ce g rfl;have s:¬(fun k=>k=M) PB:=p.ne;exact⟨q.keeps s p.pZ,p.head.ay q s,q.keeps s p.map,p.saved.ay q s,q.keeps s p.down,q.keeps s p.times,fun o=>(q.frozen o (ad p.pZ) s).trans (p.free o),G,p.ne⟩
theorem MapAt.bg{w:ak}{M n:Nat}{F:Int->Option ByteArray}(h:MapAt w M n F){B:Nat}(b:B≠M)(o:Nat)(u:aJ):MapAt (w.setCell ⟨B,o,none⟩ u) M n F:=h.block (cW _ _ _ _ (fun e=>b e.symm))
theorem aK.put{w:ak}{PB DB M n:Nat}{h y:Head}{F:Int->Option ByteArray}{s:Bool}{q:Int}(p:aK w PB DB M n h y F s q){k:Nat}(z:k<2000)(b:Bool):aK (w.setCell ⟨PB,1+k,none⟩ (.bool b)) PB DB M n (h.put k b) y F s q:=
 ⟨bx (by omega) p.pZ,p.head.put z b,bx (by omega) p.map,p.saved.bg _ _ (by omega),bx (by omega) p.down,bx (by omega) p.times,fun o=>by simpa using p.free o,p.iH.bg p.ne _ _,p.ne⟩
theorem aK.mS{w:ak}{PB DB M n:Nat}{h s:Head}{F:Int->Option ByteArray}{q:Bool}{b:Int}(p:aK w PB DB M n h s F q b){k:Nat}(y:k<8)(r:Int):aK (w.setCell ⟨PB,2001+k,none⟩ (.int .i64 r)) PB DB M n (h.mS k r) s F q b:=
 ⟨bx (by omega) p.pZ,p.head.mS y r,bx (by omega) p.map,p.saved.bg _ _ (by omega),bx (by omega) p.down,bx (by omega) p.times,fun o=>by simpa using p.free o,p.iH.bg p.ne _ _,p.ne⟩
theorem aK.mT{w:ak}{PB DB M n:Nat}{h s:Head}{F:Int->Option ByteArray}{q:Bool}{b:Int}(p:aK w PB DB M n h s F q b){k:Nat}(y:k<8)(r:Int):aK (w.setCell ⟨PB,2009+k,none⟩ (.int .i64 r)) PB DB M n (h.mT k r) s F q b:=
 ⟨bx (by omega) p.pZ,p.head.mT y r,bx (by omega) p.map,p.saved.bg _ _ (by omega),bx (by omega) p.down,bx (by omega) p.times,fun o=>by simpa using p.free o,p.iH.bg p.ne _ _,p.ne⟩
def eL(h:Head)(k:Int):Bool:=decide (1<=k)&&decide (k<2000)&&h.used k.toNat
def rU(h:Head)(b:Bool)(k:Int):aJ:=if eL h k then if b then .iface 24 (.int .i64 6)else .nilIface else .iface 24 (.int .i64 2)
theorem rV{h:Head}{b:Bool}{k:Int}(hu:eL h k=false):rU h b k=.iface 24 (.int .i64 2):=by
 unfold rU;rw[hu]
 rfl
theorem wz{h:Head}{k:Int}(hu:eL h k=true):rU h false k=.nilIface:=by
 unfold rU;rw[hu]
 rfl
theorem im{h:Head}{k:Int}:eL h k=true↔∃m:Nat,k=m/\1<=m/\m<2000/\h.used m=true:=by
 unfold eL
 constructor
 ·intro e;simp only[g7,decide_eq_true_eq]at e;exact⟨k.toNat,by omega,by omega,by omega,e.2⟩
 rintro⟨m,rfl,q,s,b⟩;simp only[g7,decide_eq_true_eq];exact⟨⟨by omega,by omega⟩,by simpa using b⟩
theorem oD(PB DB M n:Nat)(h z:Head)(F:Int->Option ByteArray)(b:Bool)(q:Int)(k:Int)(w:ak)(p:aK w PB DB M n h z F b q):
  bj prog 223 #[.pointer (some ⟨PB,0,none⟩),.int .i64 k] w (ar w (rU h b k)):=by
 have P:=ae p;have H:=p.down;clear p;by_cases y:1<=k/\k<2000
 ·obtain⟨m,rfl⟩:=Int.eq_ofNat_of_zero_le (show 0<=k by omega);have B:m<2000:=by omega
  have I:=P.out.head.used m B;have s:eL h (m:Int)=h.used m:=by
   unfold eL;rw[decide_eq_true y.1,decide_eq_true y.2];simp
  have hv:Hid (rU h b (m:Int)=if h.used m then if b then .iface 24 (.int .i64 6)else .nilIface else .iface 24 (.int .i64 2)):=ae (by unfold rU;rw[s]);clear s;rw[hv.out];generalize h.used m=u at*;obtain⟨D,G⟩:=y;cases u<;>cases b<;>
   (go_enter func223,ntmps223
    go_wp2_with fail
    all_goals first|omega|skip
    all_goals
     go_ret;exact ar.mk rfl (Gr.refl _))
 have hu:eL h k=false:=by
  rw[Bool.eq_false_iff];intro e;obtain⟨m,rfl,J,L,_⟩:=im.1 e;omega
 rw[rV hu];clear hu;go_enter func223,ntmps223;go_wp2_with fail
 all_goals first|omega|skip
 all_goals
  go_ret;exact ar.mk rfl (Gr.refl _)
def fB(pg:Nat->ByteArray)(F:Int->Option ByteArray)(k:Nat):ByteArray:=match F k with|some s=>s|none=>cJ pg k
theorem It(PB DB M n:Nat)(h y:Head)(F:Int->Option ByteArray)(q:Bool)(b:Int)(k:Int)(w:ak)(p:aK w PB DB M n h y F q b)(hu:eL h k=false):
  bj prog 170 #[.pointer (some ⟨PB,0,none⟩),.int .i64 k] w (ar w (.tuple #[.string ⟨#[]⟩,.iface 24 (.int .i64 2)])):=by
 have P:=ae p;have z:=ae hu;clear p hu;go_enter func170,ntmps170;go_wp2_with fail
 refine(oD PB DB M n h y F q b k w P.out).mono ?_;rintro e B ⟨rfl,s⟩;rw[rV z.out];go_wp2_with fail
 go_ret2;exact ar.mk rfl s
theorem SX(PB DB M n:Nat)(h J:Head)(F:Int->Option ByteArray)(b:Int)(pg:Nat->ByteArray)(cut:Bool)(left torn:Int)(k:Nat)(w:ak)(p:aK w PB DB M n h J F false b)(d:ei w DB pg cut left torn)(hu:eL h k=true):
  bj prog 170 #[.pointer (some ⟨PB,0,none⟩),.int .i64 k] w (ar w (.tuple #[.string (fB pg F k),.nilIface])):=by
 obtain⟨m,L,U,V,G⟩:=im.1 hu;obtain rfl:k=m:=by omega
 have P:=ae p;have O:=ae d;have Q:=ae hu;clear p d hu L G;go_enter func170,ntmps170;go_wp2_with fail
 refine(oD PB DB M n h J F false b k w P.out).mono ?_;rintro e S ⟨rfl,q⟩;rw[wz Q.out];have B:=ae (P.out.gr q);have H:=ae (O.out.gr q);have Y:=B.out.pZ;have Z:=B.out.map;have z:=B.out.iH.look (k:=(k:Int)) (by omega);cases y:F (k:Int)with
 |none=>
  rw[y]at z;simp only[Option.isSome_none,Option.getD_none]at z;have D:Hid (fB pg F k=cJ pg k):=ae (by unfold fB;rw[y]);clear y;go_wp2_with fail
  refine(rT DB pg cut left torn k (by omega) S H.out).mono ?_;rintro e w2 ⟨rfl,I⟩;go_wp2_with fail
  go_ret2;refine ar.mk ?_ (q.trans I);rw[D.out]
  rfl
 |some s=>
  rw[y]at z;simp only[Option.isSome_some,Option.getD_some]at z;have D:Hid (fB pg F k=s):=ae (by unfold fB;rw[y]);clear y;go_wp2_with fail
  go_ret2;refine ar.mk ?_ q;rw[D.out]
  rfl
theorem EI(PB DB M n:Nat)(h z:Head)(F:Int->Option ByteArray)(q:Bool)(b:Int)(k:Int)(s:ByteArray)(w:ak)(p:aK w PB DB M n h z F q b)(hu:eL h k=false):
  bj prog 251 #[.pointer (some ⟨PB,0,none⟩),.int .i64 k,.string s] w (ar w (.iface 24 (.int .i64 2))):=by
 have P:=ae p;have B:=ae hu;clear p hu;go_enter func251,ntmps251;go_wp2_with fail
 refine(oD PB DB M n h z F q b k w P.out).mono ?_;rintro e D ⟨rfl,y⟩;rw[rV B.out];go_wp2_with fail
 go_ret;exact ar.mk rfl y
theorem Qi(PB DB M n:Nat)(h G:Head)(F:Int->Option ByteArray)(q:Int)(k:Int)(s:ByteArray)(hs:s.size=1024)(hn:n<1000000)(w:ak)(p:aK w PB DB M n h G F false q)(hu:eL h k=true):
  bj prog 251 #[.pointer (some ⟨PB,0,none⟩),.int .i64 k,.string s] w fun e L=>e=.returned .nilIface/\aK L PB DB M (n+1) h G (lx F k (some s)) false q/\ag (fun b=>b=PB\/b=M) w L:=by
 have z:-9223372036854775808<=k/\k<=9223372036854775807:=by
  obtain⟨m,hm,U,V,Y⟩:=im.1 hu;omega
 have P:=ae p;have Q:=ae hu;have I:=ae z;clear p hu z;have Z:((s.size:Int) !=1024)=false:=by simp;omega
 go_enter func251,ntmps251;go_wp2_with fail
 refine(oD PB DB M n h G F false q k w P.out).mono ?_;rintro e w1 ⟨rfl,B⟩;rw[wz Q.out];have H:=ae (P.out.gr B);have c1:=H.out.map;obtain⟨w2,O,D,y⟩:=H.out.iH.O5 hn I.out s (by omega);have J:=ae (H.out.MJ y D);have S:=ae y;clear D y;go_wp2_with fail
 go_ret;exact⟨rfl,J.out,(ag.ah B).trans (ag.ce S.out (.inr rfl))⟩
theorem Iu(PB DB M n:Nat)(h y:Head)(F:Int->Option ByteArray)(q:Bool)(b:Int)(k:Int)(w:ak)(p:aK w PB DB M n h y F q b)(hu:eL h k=false):
  bj prog 204 #[.pointer (some ⟨PB,0,none⟩),.int .i64 k] w (ar w (.iface 24 (.int .i64 2))):=by
 have P:=ae p;have z:=ae hu;clear p hu;go_enter func204,ntmps204;go_wp2_with fail
 refine(oD PB DB M n h y F q b k w P.out).mono ?_;rintro e B ⟨rfl,s⟩;rw[rV z.out];go_wp2_with fail
 go_ret;exact ar.mk rfl s
theorem SY(PB DB M n:Nat)(h B:Head)(F:Int->Option ByteArray)(q:Int)(k:Nat)(w:ak)(p:aK w PB DB M n h B F false q)(hu:eL h k=true):
  bj prog 204 #[.pointer (some ⟨PB,0,none⟩),.int .i64 k] w fun e J=>e=.returned .nilIface/\aK J PB DB M n (h.put k false) B (lx F k none) false q/\ag (fun b=>b=PB\/b=M) w J:=by
 obtain⟨m,L,S,U,H⟩:=im.1 hu;obtain rfl:k=m:=by omega
 have P:=ae p;have O:=ae hu;clear p hu H L;go_enter func204,ntmps204;go_wp2_with fail
 refine(oD PB DB M n h B F false q k w P.out).mono ?_;rintro e V ⟨rfl,y⟩;rw[wz O.out];have D:=ae (P.out.gr y);have Y:=D.out.head.used k (by omega);have Z:=D.out.free (1+k);have G:=ae (D.out.put (show k<2000 by omega) false);have c1:=G.out.map;go_wp2_with(at_delete;refine Kn rfl _ _ rfl G.out.iH rfl rfl (by omega) ?_)
 intro w2 z s;have I:=ae (G.out.MJ s z);have Q:=ae s;clear z s;go_wp2_with fail
 go_ret;exact⟨rfl,I.out,((ag.ah y).trans (ag.setCell _ _ (.inl rfl))).trans (ag.ce Q.out (.inr rfl))⟩
theorem MK:tL fun _=>none:=fun _ _ h=>by cases h
theorem Cp{F:Int->Option ByteArray}(h:tL F){k:Int}(b:1<=k/\k<2000){s:ByteArray}(hs:s.size=1024):tL (lx F k (some s)):=fun i u e=>by
 unfold lx at e
 split at e
 ·injection e with e
  subst e;rename_i hi
  subst hi;exact⟨b.1,b.2,hs⟩
 exact h i u e
theorem ML{F:Int->Option ByteArray}(h:tL F)(k:Int):tL (lx F k none):=fun i u e=>by
 unfold lx at e
 split at e
 ·cases e
 exact h i u e
def cS(h:Head):Option Nat:=(aV 2000).find? fun i=>!h.used i
theorem xP{h:Head}(hf:h.aE){k:Nat}(e:cS h=some k):1<=k/\k<2000/\h.used k=false/\∀i,i<k->h.used i=true:=by
 unfold cS at e;obtain⟨y,q,z,s,B⟩:=List.find?_eq_some_iff_append.1 e;have D:k<2000:=cg.1 (List.mem_of_find?_eq_some e);have hu:h.used k=false:=by simpa using y
 have J:k≠0:=fun G=>by rw[G,hf.zero]at hu;cases hu
 refine⟨by omega,D,hu,fun i hi=>?_⟩;have L:q.length=k:=by
  have b:(aV 2000)[q.length]?=some k:=by rw[s];simp
  have H:q.length<2000:=by
   have:=(bA.1 b).1;simpa using this
  rw[eA H]at b;exact hI b
 have I:i∈q:=by
  have b:(q++k::z)[i]?=some i:=by rw[<-s,eA (by omega)]
  rw[bT (by omega)]at b;exact List.mem_of_getElem? b
 simpa using B i I
theorem FI{h:Head}(hf:h.aE){k:Nat}(q:1<=k)(b:Bool):(h.put k b).aE:=
 ⟨by show(if 0=k then b else h.used 0)=true;rw[if_neg (by omega)];exact hf.zero,hf.root,hf.note⟩
theorem FJ{h:Head}(hf:h.aE)(i:Nat){p n:Int}(q:0<=p/\p<2000)(hn:0<=n/\n<65536):(h.ed i p n).aE:=
 ⟨hf.zero,fun j b=>by
  show 0<=(if j=i then p else h.roots j)/\(if j=i then p else h.roots j)<2000
  split
  ·exact q
  ·exact hf.root j b,fun j b=>by
  show 0<=(if j=i then n else h.notes j)/\(if j=i then n else h.notes j)<65536
  split
  ·exact hn
  exact hf.note j b⟩
structure Ch where
 h:Head
 F:Int->Option ByteArray
structure Ch.aE(c:Ch):Prop where
 head:c.h.aE
 iH:tL c.F
def Ch.alloc(c:Ch):Ch:=match cS c.h with|none=>c|some k=>⟨c.h.put k true,lx c.F k (some e_)⟩
def Ch.free(c:Ch)(k:Int):Ch:=if eL c.h k then⟨c.h.put k.toNat false,lx c.F k none⟩else c
def Ch.write(c:Ch)(k:Int)(s:ByteArray):Ch:=if eL c.h k then⟨c.h,lx c.F k (some s)⟩else c
def Ch.new(h:Head):Ch:=⟨h,fun _=>none⟩
theorem Ch.aE.p_{c:Ch}(h:c.aE):c.alloc.aE:=by
 unfold Ch.alloc
 split
 ·exact h
 rename_i k e
 obtain⟨b,q,_,_⟩:=xP h.head e;exact⟨FI h.head b _,Cp h.iH (by omega) oS⟩
theorem Ch.aE.oU{c:Ch}(h:c.aE)(k:Int):(c.free k).aE:=by
 unfold Ch.free
 split
 ·rename_i hu
  obtain⟨m,rfl,b,q,_⟩:=im.1 hu;exact⟨FI h.head (by simpa using b) _,ML h.iH _⟩
 exact h
theorem Ch.aE.tM{c:Ch}(h:c.aE)(k:Int){s:ByteArray}(hs:s.size=1024):(c.write k s).aE:=by
 unfold Ch.write
 split
 ·rename_i hu
  obtain⟨m,rfl,b,q,_⟩:=im.1 hu;exact⟨h.head,Cp h.iH (by omega) hs⟩
 exact h
theorem Ch.FK{h:Head}(hf:h.aE):(Ch.new h).aE:=⟨hf,MK⟩
def jl(w:ak)(B:Nat)(d:Dk):Prop:=ei w B d.pg d.cut d.left d.torn
theorem jl.gr{w w':ak}{B:Nat}{d:Dk}(h:jl w B d)(g:Gr w w'):jl w' B d:=ei.gr h g
theorem jl.ay{S:Nat->Prop}{w w':ak}{B:Nat}{d:Dk}(h:jl w B d)(g:ag S w w')(hs:¬S B):jl w' B d:=ei.ay h g hs
theorem jl.lt{w:ak}{B:Nat}{d:Dk}(h:jl w B d):B<w.heap.size:=ad h.2.1
def FS(b:Bool):aJ:=if b then .nilIface else .iface 24 (.int .i64 14)
theorem FU(B:Nat)(d:Dk)(k:Nat)(s:ByteArray)(w:ak)(z:k<4001)(hs:s.size=1024)(hw:d.whole)(H:-1000000<=d.left/\d.left<=1000000)(h:jl w B d):
  bj prog 137 #[.pointer (some ⟨B,0,none⟩),.int .i64 k,.string s] w fun e y=>e=.returned (FS (jG d k s).1)/\jl y B (jG d k s).2/\ag (fun b=>b=B) w y:=by
 unfold jG
 split
 ·rename_i q
  refine(Qc B d.pg d.cut d.left d.torn k z s hs q (by omega) w h).mono ?_;rintro e y ⟨rfl,D,G⟩;exact⟨rfl,D,ag.ce G rfl⟩
 rename_i q
 refine(My B d.pg d.cut d.left d.torn k z s hs (Bool.not_eq_true _▸q:d.on=false) (hw k z) w h).mono ?_;rintro e y ⟨rfl,D,G⟩;exact⟨rfl,D,ag.ce G rfl⟩
def FV(v:aJ)(B:Nat):Prop:=∀b q n c,v=.slice (some ⟨b,q,none⟩) n c->b≠B
theorem ke.wrote{q:Type}{enc:q->aJ}{w w':ak}{v:aJ}{xs:List q}{B:Nat}(h:ke enc w v xs)(s:FV v B)(g:ag (fun b=>b=B) w w'):ke enc w' v xs:=h.ay g s
theorem S5(w:ak):bj prog 138 #[.string ⟨#[]⟩] w (ar w (.string e_)):=by
 have:=Ie ⟨#[]⟩ (by decide) w;have e:(⟨(mh (⟨#[]⟩:ByteArray).data.toList).toArray⟩:ByteArray)=e_:=qT (by rw[xJ,vd]);rw[e]at this;exact this
theorem Qn(B:Nat)(d:Dk)(q:List Nat)(L:List ByteArray)(pv lv:aJ)(w:ak)(hp:ke Ae w pv q)(hl:ke cf w lv L)(V:FV pv B)(Y:FV lv B)(G:q.length=L.length)(M:∀k∈q,k<2000)(O:∀s∈L,s.size=1024)(hn:q.length<=2000)
  (hd:jl w B d) (hw:d.whole) (e8:-900000<=d.left/\d.left<=1000000):
  bj prog 80 #[.pointer (some ⟨B,0,none⟩),pv,lv] w fun e S=>e=.returned (FS (fW d (lw q L)).1)/\jl S B (fW d (lw q L)).2/\ag (fun b=>b=B) w S:=by
 obtain⟨po,pc,rfl⟩:=hp.form;obtain⟨lo,lc,rfl⟩:=hl.form;have HP:=ae hp;have HL:=ae hl;have c5:=ae V;have c6:=ae Y;have HW:=ae hw;have HD:=ae hd;have c7:=ae M;have c8:=ae O;have e9:(q.zip L).length=q.length:=by rw[List.length_zip];omega
 have Z:MF (q.zip L):=fun x H=>by
  obtain⟨U,h2⟩:=i2 (show(x.1,x.2)∈q.zip L from H);exact⟨by have:=M _ U;omega,O _ h2⟩
 have c9:=ae Z;have a0:=ae G;clear hp hl V Y hw hd M O Z G;go_enter func80,ntmps80;go_wp2_with fail
 go_loopw [12] (fun kv S=>∃(i:Nat) (e:Dk),i<=q.length/\kv=.int .i64 i/\fW d ((q.zip L).take i)=(true,e)/\jl S B e/\ag (fun b=>b=B) w S) (fun kv _=>q.length-(intOf kv).toNat)
 case atStart=>exact⟨0,d,bu _,rfl,rfl,HD.out,ag.refl _ _⟩
 case round=>
  obtain⟨i,e,hi,rfl,he,a2,hg⟩:=hrel;have HE:=ae he;have a4:e.whole:=by
   have:=tK ((q.zip L).take i) HW.out (fun x H=>c9.out x (List.mem_of_mem_take H));rw[he]at this;exact this
  have g0:d.left-i<=e.left/\e.left<=d.left:=by
   have h3:=Cn ((q.zip L).take i) d;rw[he]at h3;have h4:d.left-(((q.zip L).take i).length:Int)<=e.left/\e.left<=d.left:=h3;rw[dQ]at h4;omega
  have a5:=ae a4;have a6:=ae a2;clear he a4 a2;by_cases y:i<q.length
  ·obtain⟨b,g3,rfl,hc⟩:=(HP.out.wrote c5.out hg).at y;obtain⟨b2,d7,rfl,a7⟩:=(HL.out.wrote c6.out hg).at (i:=i) (by rw[<-a0.out];exact y);have c0:=hc i y;have I:i<L.length:=by rw[<-a0.out];exact y
   have c1:=a7 i I;have a8:i<(q.zip L).length:=by omega
   have H:(q.zip L)[i]=(q[i],L[i]):=by rw[List.getElem_zip]
   have HX:=ae H;have hk:=c7.out _ (g8 y);have hs:=c8.out _ (g8 I);have d0:Hid (∀e',(jG e q[i] L[i]).1=true->(jG e q[i] L[i]).2=e'->fW d ((q.zip L).take (i+1))=(true,e')):=ae fun e' U h2=>by
    have:=MG a8 HE.out (by rw[HX.out];exact U);rw[this,HX.out];show(true,(jG e q[i] L[i]).2)=_;rw[h2]
   have d1:Hid ((jG e q[i] L[i]).1=false->fW d (lw q L)=(false,(jG e q[i] L[i]).2)):=ae fun U=>by
    have:=MH (m:=[(2000,e_)]) a8 HE.out (by rw[HX.out];exact U);rw[HX.out]at this;exact this
   unfold Ae at c0;clear hc a7 H;generalize q[i]=k at*;generalize L[i]=s at*;go_wp2_with fail
   refine(FU B e k s _ (by omega) hs a5.out (by omega) a6.out).mono ?_;rintro e1 w1 ⟨rfl,Q,z⟩;have b0:=ae Q;have b1:=hg.trans z;cases D:(jG e k s).1
   ·have d2:=ae (d1.out D);clear Q D;unfold FS;go_wp2_with fail
    go_ret;rw[d2.out];exact⟨rfl,b0.out,b1⟩
   have d3:=ae (d0.out _ D rfl);clear Q D;unfold FS;go_wp2_with fail
   go_roundw
   case rel=>
    exact⟨i+1,_,by omega,by go_num,d3.out,b0.out,b1⟩
   case measure=>
    simp[intOf];omega
  obtain rfl:i=q.length:=by omega
  have J:(q.zip L).take q.length=q.zip L:=aS (by omega);have b4:Hid (fW d (lw q L)=jG e 2000 e_):=ae (by
   unfold lw;have:=HE.out;rw[J]at this;rw[od,this,if_pos rfl,kJ];show(if(jG e 2000 e_).1 then fW (jG e 2000 e_).2 []else(false,(jG e 2000 e_).2))=_;cases h:(jG e 2000 e_).1
   ·exact Prod.ext h.symm rfl
   exact Prod.ext h.symm rfl)
  clear J;go_wp2_with fail
  refine(S5 _).mono ?_;rintro e1 w1 ⟨rfl,z⟩;have b5:=ae (a6.out.gr z);go_wp2_with fail
  refine(FU B e 2000 e_ _ (by omega) oS a5.out (by omega) b5.out).mono ?_;rintro e2 w2 ⟨rfl,b3,d4⟩;have d5:=ae b3;clear b3;go_wp2_with fail
  go_ret;rw[b4.out];exact⟨rfl,d5.out,(hg.trans (ag.ah z)).trans d4⟩
theorem results_tmp3{P:kE}{q:Func}{a b c:Nat}{tmps:Array aJ}{w:ak}(s:q.results=#[eV a,eV b,eV c]):
  (fT q tmps).run P w=.ok (.tuple #[tmps.getD a undef,tmps.getD b undef,tmps.getD c undef]) w:=by
 simp[fT,s]
theorem S7(PB DB M n:Nat)(h y:Head)(F:Int->Option ByteArray)(q:Bool)(b:Int)(k:Nat)(s:k<8)(w:ak)(p:aK w PB DB M n h y F q b):
  bj prog 83 #[.pointer (some ⟨PB,0,none⟩),.int .i64 k] w (ar w (.tuple #[.int .i64 (h.roots k),.int .i64 (h.notes k),.nilIface])):=by
 have z:=p.head.root k s;have B:=p.head.note k s;clear p;generalize h.roots k=r0 at*;generalize h.notes k=r1 at*;go_enter func83,ntmps83;go_wp2_with fail
 go_region
 all_goals
  go_wp2_with fail
  refine jT (results_tmp3 rfl) rfl ?_;refine ar.mk rfl ?_
  repeat(with_reducible first|refine Gr.drew ?_|refine Gr.alloc ?_ _)
  exact Gr.refl _
theorem By(PB DB M n:Nat)(h s:Head)(F:Int->Option ByteArray)(q:Bool)(b:Int)(i k t:Int)(y:i<0\/8<=i\/k<0\/2000<=k\/t<0\/65536<=t)(w:ak)(_:aK w PB DB M n h s F q b):
  bj prog 202 #[.pointer (some ⟨PB,0,none⟩),.int .i64 i,.int .i64 k,.int .i64 t] w (ar w (.iface 24 (.int .i64 2))):=by
 go_enter func202,ntmps202;go_wp2_with fail
 all_goals first|omega|skip
 all_goals
  go_ret;exact ar.mk rfl (Gr.refl _)
theorem Kr(PB DB M n:Nat)(h s:Head)(F:Int->Option ByteArray)(q:Int)(i:Nat)(k t:Int)(hi:i<8)(z:0<=k/\k<2000)(B:0<=t/\t<65536)(w:ak)(p:aK w PB DB M n h s F false q):
  bj prog 202 #[.pointer (some ⟨PB,0,none⟩),.int .i64 i,.int .i64 k,.int .i64 t] w fun e y=>e=.returned .nilIface/\aK y PB DB M n (h.ed i k t) s F false q/\ag (fun b=>b=PB\/b=M) w y:=by
 have D:=p.head.root i hi;have G:=p.head.note i hi;have H:=p.down;have I:=p.free (2001+i);have J:=p.free (2009+i);have P:=ae p;clear p;go_enter func202,ntmps202;go_wp2_with fail
 all_goals first|omega|skip
 go_region
 all_goals
  go_wp2_with fail
  go_ret;refine⟨rfl,aK.gr (w:=(w.setCell ⟨PB,2001+i,none⟩ (.int .i64 k)).setCell ⟨PB,2009+i,none⟩ (.int .i64 t)) ?_ ?_,?_⟩
  ·exact(P.out.mS hi k).mT hi t
  ·exact(Gr.refl _).drew
  exact((ag.setCell _ _ (.inl rfl)).trans (ag.setCell _ _ (.inl rfl))).trans (ag.drew _)
theorem EM{h:Head}{k:Nat}(y:k<2000)(b:∀j,j<k->h.used j=true)(q:h.used k=false):cS h=some k:=by
 unfold cS;have e:aV 2000=aV k++k::List.range' (k+1) (1999-k):=by
  rw[em,em,show 2000=k+(1999-k+1)by omega,<-List.range'_append_1,List.range'_succ];simp
 rw[e,List.find?_append,fA.2 (fun j s=>by rw[b j (cg.1 s)];decide),Option.none_or,List.find?_cons_of_pos (by rw[q];rfl)]
theorem IA{h:Head}(b:∀j,j<2000->h.used j=true):cS h=none:=
 fA.2 fun j q=>by rw[b j (cg.1 q)];decide
def xT(h:Head):Int:=match cS h with|none=>-1|some k=>k
theorem Ks(B:Nat)(h:Head)(w:ak)(a:aT w B 1 h):
  bj prog 250 #[.slice (some ⟨B,1,none⟩) 2000 2000,.bool false] w (ar w (.int .i64 (xT h))):=by
 have I:=ae a;clear a;go_enter func250,ntmps250;go_wp2_with fail
 go_loopw [8] (fun s J=>∃i:Nat,i<=2000/\s=.int .i64 i/\(∀j,j<i->h.used j=true)/\J=w) (fun s _=>2000-(intOf s).toNat)
 case atStart=>exact⟨0,bu _,rfl,fun j b=>absurd b (Nat.not_lt_zero _),rfl⟩
 case round=>
  obtain⟨i,hi,rfl,b,rfl⟩:=hrel;have y:=ae b;clear b;by_cases q:i<2000
  ·have G:=I.out.used i q;cases hu:h.used i
   ·rw[hu]at G;have z:Hid (xT h=(i:Int)):=ae (by unfold xT;rw[EM q y.out hu]);clear hu;go_wp2_with fail
    go_ret;rw[z.out];exact ar.mk rfl (Gr.refl _)
   rw[hu]at G;have D:Hid (∀j,j<i+1->h.used j=true):=ae fun j b=>by
    rcases fS j i with H|H
    ·exact y.out j H
    obtain rfl:j=i:=by omega
    exact hu
   clear hu;go_wp2_with fail
   refine⟨⟨i+1,by omega,by go_num,D.out,trivial⟩,by simp[intOf];omega⟩
  obtain rfl:i=2000:=by omega
  have z:Hid (xT h=-1):=ae (by unfold xT;rw[IA y.out]);go_wp2_with fail
  go_ret;rw[z.out];exact ar.mk rfl (Gr.refl _)
theorem Cu(PB DB M n:Nat)(h B:Head)(F:Int->Option ByteArray)(q:Int)(w:ak)(p:aK w PB DB M n h B F false q)(ha:cS h=none):
  bj prog 199 #[.pointer (some ⟨PB,0,none⟩)] w (ar w (.tuple #[.int .i64 0,.iface 24 (.int .i64 12)])):=by
 have D:=p.down;have b:=Ks PB h w p.head;have z:xT h=-1:=by unfold xT;rw[ha]
 rw[z]at b;have s:=ae b;clear b z ha p;go_enter func199,ntmps199;go_wp2_with fail
 refine s.out.mono ?_;rintro e G ⟨rfl,y⟩;go_wp2_with fail
 go_ret2;exact ar.mk rfl y
theorem Qo(PB DB M n:Nat)(h S:Head)(F:Int->Option ByteArray)(q:Int)(hn:n<1000000)(w:ak)(p:aK w PB DB M n h S F false q){k:Nat}(U:k<2000)(ha:cS h=some k):
  bj prog 199 #[.pointer (some ⟨PB,0,none⟩)] w fun e V=>e=.returned (.tuple #[.int .i64 k,.nilIface])/\aK V PB DB M (n+1) (h.put k true) S (lx F k (some e_)) false q/\ag (fun b=>b=PB\/b=M) w V:=by
 have cd:=p.down;have s:=Ks PB h w p.head;have Y:xT h=k:=by unfold xT;rw[ha]
 rw[Y]at s;have L:=ae s;have P:=ae p;clear s Y ha p;go_enter func199,ntmps199;go_wp2_with fail
 refine L.out.mono ?_;rintro e Z ⟨rfl,z⟩;have H:=ae (P.out.gr z);have c0:=H.out.head.used k U;have z0:=H.out.free (1+k);have I:=ae (H.out.put U true);have c1:=I.out.map;have O:=fun J (hg:Gr (Z.setCell ⟨PB,1+k,none⟩ (.bool true)).drew J)=>(I.out.gr ((Gr.refl _).drew.trans hg)).iH.O5 hn (k:=(k:Int)) (by omega) e_ (by rw[oS];omega);go_wp2_with fail
 go_region_with(first
  |(go_at_call 138;refine(S5 _).mono ?_;rintro e J ⟨rfl,y⟩;have k0:=y.keeps ((Gr.refl _).drew.keeps c1);obtain⟨w5,a2,B,D⟩:=O J y;have Q:=ae B;have G:=ae y;clear B))
 all_goals
  go_wp2_with fail
  go_ret2;exact⟨rfl,(I.out.gr ((Gr.refl _).drew.trans G.out)).MJ D Q.out,((((ag.ah z).trans (ag.setCell _ _ (.inl rfl))).trans (ag.drew _)).trans (ag.ah G.out)).trans (ag.ce D (.inr rfl))⟩
theorem aK.U8{w:ak}{PB DB M n:Nat}{h s:Head}{F:Int->Option ByteArray}{q:Bool}{b:Int}(p:aK w PB DB M n h s F q b)(g:Head):aK (w.setCells PB 1 g.cells) PB DB M n g s F q b:=by
 have y:ag (fun k=>k=PB) w (w.setCells PB 1 g.cells):=gU PB g.cells 1 w;have z:¬(fun k=>k=PB) M:=fun e=>p.ne e.symm;exact⟨dM p.pZ g (by omega),p.head.over p.free g,dM p.map g (by omega),p.saved.Kf 1 g (by omega),dM p.down g (by omega),dM p.times g (by omega),fun o=>by rw[dT];exact p.free o,p.iH.ay y z,p.ne⟩
theorem aK.U9{w:ak}{PB DB M n:Nat}{h s:Head}{F:Int->Option ByteArray}{q:Bool}{b:Int}(p:aK w PB DB M n h s F q b)(g:Head):aK (w.setCells PB 2018 g.cells) PB DB M n h g F q b:=by
 have y:ag (fun k=>k=PB) w (w.setCells PB 2018 g.cells):=gU PB g.cells 2018 w;have z:¬(fun k=>k=PB) M:=fun e=>p.ne e.symm;exact⟨dM p.pZ g (by omega),p.head.Kf 2018 g (by omega),dM p.map g (by omega),p.saved.over p.free g,dM p.down g (by omega),dM p.times g (by omega),fun o=>by rw[dT];exact p.free o,p.iH.ay y z,p.ne⟩
theorem qi{q:Array Oper}{rest:List Oper}{op:Oper}{a:Act}{w:ak}{Q:Exit->Act->ak->Prop}(s:op.guard=none)(x:i3)(y:op.op=.load 156 x)(b o:Nat)(h:Head)
  (z:a.eval x=.pointer (some ⟨b,o,none⟩)) (ha:aT w b o h) (B:∀A:Array aJ,Hid (A=h.cells.toArray)->wpList prog q Q rest (a.put op.dst (.agg A)) w):wpList prog q Q (op::rest) a w:=
 wpList_load_mid s 156 x y b o z _ _ ha.range dA rfl (by rw[ml,Head.gy]) (B _ (ae rfl))
theorem iW{q:Array Oper}{rest:List Oper}{op:Oper}{a:Act}{w:ak}{Q:Exit->Act->ak->Prop}(s:op.guard=none)(x y:i3)(z:op.op=.store 156 x y)(b o:Nat)(h B:Head)(A:Array aJ)
  (D:a.eval x=.pointer (some ⟨b,o,none⟩)) (G:a.eval y=.agg A) (hv:A=h.cells.toArray) (ha:aT w b o B) (hf:∀j,w.frozen? ⟨b,j,none⟩=false)
  (H:∀w',Hid (w'=w.setCells b o h.cells)->wpList prog q Q rest (a.put op.dst undef) w'):wpList prog q Q (op::rest) a w:=by
 subst hv;refine g5 s 156 x y z b o _ D G ?_ (by rw[ml,Head.xK]) (ez (Head.cells_one _)) ?_
 ·rw[Head.xK];exact ha.there hf
 exact H _ (ae rfl)
theorem Cv{w w':ak}{PB DB M n:Nat}{h s:Head}{F:Int->Option ByteArray}{q:Bool}{b:Int}{g:Head}(hw:Hid (w'=w.setCells PB 1 g.cells))(p:aK w PB DB M n h s F q b):aK w' PB DB M n g s F q b/\ag (fun k=>k=PB) w w':=by
 rw[hw.out];exact⟨p.U8 g,gU PB g.cells 1 w⟩
theorem Cx{w w':ak}{PB DB M n:Nat}{h s:Head}{F:Int->Option ByteArray}{q:Bool}{b:Int}{g:Head}(hw:Hid (w'=w.setCells PB 2018 g.cells))(p:aK w PB DB M n h s F q b):aK w' PB DB M n h g F q b/\ag (fun k=>k=PB) w w':=by
 rw[hw.out];exact⟨p.U9 g,gU PB g.cells 2018 w⟩
end
section
open Go Go.RowKit Go.Maps Go.Sort Go.Shelf
theorem MapAt.keys{w:ak}{M n:Nat}{F:Int->Option ByteArray}(h:MapAt w M n F)(Z:tL F):
  ∃D:DataW Unit,w.ownsMap prog 3 (plainElem prog 9) M n D/\((MI F).map fun(k:Nat)=>(k:Int)).Perm (intKeys D):=by
 obtain⟨D,H,U⟩:=h;refine⟨D,H,?_⟩;obtain⟨V,Y,I,_⟩:=H.entries Ke;obtain⟨J,B,L⟩:=H.keysOf;obtain rfl:V=J:=by rw[Y]at B;simpa using B
 subst Y;have y:∀p∈V,∃x:Int,p.1=.int .i64 x/\(en .i64 x).wf=true:=fun p z=>by
  obtain⟨v,hv⟩:=L p z;obtain⟨x,_,q,hw⟩:=Maps.keyOf_i64 di hv;exact⟨x,q,hw⟩
 have O:((MI F).map fun(k:Nat)=>(k:Int)).Nodup:=by
  show List.Pairwise _ _;rw[List.pairwise_map];refine kI (fun{a b} (a1:a≠b)=>?_) (ko _ List.nodup_range);show(a:Int)≠(b:Int);omega
 refine perm_intKeys I (fun p z=>by obtain⟨x,q,_⟩:=y p z;exact⟨x,q⟩) O fun x=>?_
 constructor
 ·intro q;obtain⟨k,hk,rfl⟩:=cK.1 q;obtain⟨a2,Q⟩:=Kk.1 hk;rw[(U (k:Int) (SQ (by omega))).1];exact Q
 intro q;have G:=q;rw[has_eq,List.any_eq_true]at G;obtain⟨p,z,hs⟩:=G;obtain⟨a,ha,hw⟩:=y p z;rw[ha]at hs;have S:x=a:=by simpa[Lit.sameKey,eq_comm]using hs
 subst S;rw[(U x hw).1]at q;obtain⟨s,hs⟩:=Option.isSome_iff_exists.1 q;obtain⟨f1,f2,_⟩:=Z _ _ hs;refine cK.2 ⟨x.toNat,Kk.2 ⟨by omega,?_⟩,by omega⟩;rw[show((x.toNat:Nat):Int)=x by omega,hs]
 rfl
