/-
  Part 2 of the proof.
-/
import Derived.Test.YtldmhjbdahjhdaaGreatDoorZb1
import Derived.Lib.AppendZeros
import Derived.Deep.MidRow
open Go.Proofs.Tryz renaming prog->acH,zeroCells156->acI,underlying9->ac0,underlying188->ac7,underlying272->ac8,underlying3->adg,underlying152->adt,underlying156->adu,underlying252->adv,results247->adL,ntmps137->adN,ntmps247->adQ,func137->adU,func247->adZ
open Go.Lib renaming hid->acJ,cell_of_heap->acN,byteCells_length->acO,byteCells->acY,extract_data->ade,repeatL->adm,byteCells_append->adn,BuilderAt->adp,frozen_of_heap->adw,IsBuilder->adP
open List renaming length_append->acK,getD_eq_getElem?_getD->acP,replicate->acR,take_of_length_le->acT,getElem?_append_right->acV,getElem?_eq_getElem->acX,getElem?_eq_some_iff->ac9,getElem?_append_left->ac_,range->adj,length_replicate->adk,length_drop->adA,map_append->adF,mem_map->adS
open Go.World renaming cell?_setCell_same->acL,cell?_alloc_new->acU,frozen?_of_block->adi,cell?_of_block->adl,ownsRow_nil->adx,ownsRow_lit->ady
open Array renaming getElem?_eq_some_iff->acM,getElem?_append_right->ac4,getElem?_eq_getElem->ada,getElem_replicate->adh,replicate->adJ
open Nat renaming zero_add->acQ,lt_of_lt_of_le->acZ,add_assoc->ac1,le_refl->ac2,zero_le->adb,lt_of_le_of_lt->ads,div_le_self->adG,mul_le_mul->adM,pow_succ->adT,lt_or_ge->adX
open ByteArray renaming size_extract->acS
open BitVec renaming ofInt->acW
open Go.IntKind renaming u64->ac3,u8->ac6,wrap_u64->adf,wrap_i64->adB,i64->adE
open Go renaming run_string_add_sum->ac5,info_parts->adr,plainElem_string->adC,run_loadVar_mid->adK,results->adY
open Go.Value renaming int->ado,string->adV,bool->ad0
open Go.RowKit.Below renaming heap_setCell->adq,refl->ad2
open Go.Lib.BuilderAt renaming put->adz
open Go.Lit.string renaming injEq->adD
open Go.DataW.lit renaming injEq->adH
open Go.WideAt renaming IsKeyLit->adI
open Prod.mk renaming injEq->adO
open Go.Extern.AbiNoEscape renaming same->adR
open Go.Lit renaming int->adW
open ByteArray.mk renaming injEq->ad1
open Go.BinOp renaming xor->ad3,and->ad4
open Option.some renaming inj->ad5
set_option maxRecDepth 100000
set_option maxHeartbeats 100000000
set_option linter.all false
namespace Go.Proofs.YtldmhjbdahjhdaaGreatDoor
section
open Go Go.RowKit
def ag(S:Nat->Prop)(w w':World):Prop:=w'.os=w.os/\w'.tape=w.tape/\w'.output=w.output/\w.heap.size<=w'.heap.size/\∀k,k<w.heap.size->¬S k->w'.heap[k]?=w.heap[k]?
theorem ag.refl(S:Nat->Prop)(w:World):ag S w w:=⟨rfl,rfl,rfl,ac2 _,fun _ _ _=>rfl⟩
theorem ag.trans{S:Nat->Prop}{a b c:World}(h:ag S a b)(k:ag S b c):ag S a c:=
 ⟨k.1.trans h.1,k.2.1.trans h.2.1,k.2.2.1.trans h.2.2.1,Nat.le_trans h.2.2.2.1 k.2.2.2.1,fun i hi hs=>(k.2.2.2.2 i (acZ hi h.2.2.2.1) hs).trans (h.2.2.2.2 i hi hs)⟩
theorem ag.ak{S:Nat->Prop}{w w':World}(g:Gr w w'):ag S w w':=⟨g.os,g.tape,g.output,g.size,fun k b _=>g.block k b⟩
theorem ag.fY{S:Nat->Prop}{w w':World}{B:Nat}(g:w.grownBy w' (some B))(b:S B):ag S w w':=⟨g.os,g.tape,g.output,g.size,fun k q hs=>g.block k q (fun e=>hs (by have:=ad5 e;rw[this];exact b))⟩
theorem ag.setCell{S:Nat->Prop}(w:World){p:Addr}(u:Value)(h:S p.block):ag S w (w.setCell p u):=⟨rfl,rfl,rfl,by simp,fun k _ hs=>adq _ _ _ _ (fun e=>hs (by rw[e];exact h))⟩
theorem ag.drew{S:Nat->Prop}(w:World):ag S w w.drew:=ag.ak (Gr.refl w).drew
theorem ag.gr{S:Nat->Prop}{w w' b:World}(g:ag S w w')(q:Gr b w)(h:∀k,S k->b.heap.size<=k):Gr b w':=
 Below.trans q ⟨g.1,g.2.1,g.2.2.1,g.2.2.2.1,fun k s=>g.2.2.2.2 k (acZ s q.size) (fun hs=>absurd (h k hs) (by omega))⟩
theorem ag.block{S:Nat->Prop}{w w':World}(g:ag S w w'){k:Nat}(b:k<w.heap.size)(hs:¬S k):w'.heap[k]?=w.heap[k]?:=g.2.2.2.2 k b hs
theorem ag.keeps{S:Nat->Prop}{w w':World}(g:ag S w w'){b o:Nat}{v:Value}(hs:¬S b)(hc:w.cell? ⟨b,o,none⟩=some v):w'.cell? ⟨b,o,none⟩=some v:=
 (adl (g.block (ad hc) hs)).trans hc
theorem ag.frozen{S:Nat->Prop}{w w':World}(g:ag S w w'){b:Nat}(o:Nat)(q:b<w.heap.size)(hs:¬S b):w'.frozen? ⟨b,o,none⟩=w.frozen? ⟨b,o,none⟩:=adi (g.block q hs)
def jB{s:Type}(enc:s->Value)(w:World)(v:Value)(xs:List s):Prop:=
 (v=.slice none 0 0/\xs=[])\/∃b q c,v=.slice (some ⟨b,q,none⟩) xs.length c/\b<w.heap.size/\∀i (h:i<xs.length),w.cell? ⟨b,q+i,none⟩=some (enc xs[i])
theorem jB.gr{s:Type}{enc:s->Value}{w w':World}{v:Value}{xs:List s}(h:jB enc w v xs)(g:Gr w w'):jB enc w' v xs:=by
 rcases h with h|⟨b,q,c,y,z,B⟩
 ·exact .inl h
 ·exact .inr ⟨b,q,c,y,acZ z g.size,fun i hi=>g.keeps (B i hi)⟩
theorem jB.aC{s:Type}{enc:s->Value}{S:Nat->Prop}{w w':World}{v:Value}{xs:List s}(h:jB enc w v xs)(g:ag S w w')(hs:∀b q n c,v=.slice (some ⟨b,q,none⟩) n c->¬S b):jB enc w' v xs:=by
 rcases h with h|⟨b,q,c,y,z,B⟩
 ·exact .inl h
 ·exact .inr ⟨b,q,c,y,acZ z g.2.2.2.1,fun i hi=>g.keeps (hs _ _ _ _ y) (B i hi)⟩
theorem jB.form{q:Type}{enc:q->Value}{w:World}{v:Value}{xs:List q}(h:jB enc w v xs):∃s c,v=.slice s xs.length c:=by
 rcases h with⟨rfl,rfl⟩|⟨b,y,c,rfl,_⟩
 ·exact⟨none,0,rfl⟩
 ·exact⟨_,c,rfl⟩
theorem jB.at{s:Type}{enc:s->Value}{w:World}{y:Option Addr}{n c:Nat}{xs:List s}(h:jB enc w (.slice y n c) xs){i:Nat}(hi:i<xs.length):∃b q,y=some ⟨b,q,none⟩/\∀i (h:i<xs.length),w.cell? ⟨b,q+i,none⟩=some (enc xs[i]):=by
 rcases h with⟨_,rfl⟩|⟨b,q,c,z,G,B⟩
 ·exact absurd hi (by simp)
 ·injection z with D H I
  exact⟨b,q,D,B⟩
def fU{b:Type}(enc:b->Value)(e:TypeId)(a0 w:World)(v:Value)(xs:List b):Prop:=w.ownsRow a0.heap.size e 1 v xs.length (xs.map enc)
theorem fU.gr{b:Type}{enc:b->Value}{e:TypeId}{a0 w w':World}{v:Value}{xs:List b}(h:fU enc e a0 w v xs)(g:Gr w w'):fU enc e a0 w' v xs:=aL h g
theorem fU.row{y:Type}{enc:y->Value}{e:TypeId}{a0 w:World}{v:Value}{xs:List y}(h:fU enc e a0 w v xs):jB enc w v xs:=by
 have s:=ba h;rcases h.2 with⟨rfl,B⟩|⟨b,cap,q,rfl,I,D,J,L,M,G⟩
 ·exact .inl ⟨rfl,List.length_eq_zero_iff.1 B⟩
 ·refine .inr ⟨b,0,cap,rfl,s b rfl,fun i hi=>?_⟩;have H:w.cell? ⟨b,0+i,none⟩=q[0+i]?:=by simp[World.cell?,D]
  rw[H,acQ];have z:(List.take (xs.length*1) q.toList)[i]?=(xs.map enc)[i]?:=by rw[G]
  rw[List.getElem?_take_of_lt (by omega)]at z;simpa[hi]using z
theorem fU.snoc{b:Type}{enc:b->Value}{e:TypeId}{a0 w:World}{v:Value}{xs:List b}{x:b}(h:w.ownsRow a0.heap.size e 1 v (xs.length+1) (xs.map enc++[enc x])):fU enc e a0 w v (xs++[x]):=by
 show w.ownsRow _ _ 1 v (xs++[x]).length ((xs++[x]).map enc);rw[acK,adF];exact h
theorem Bh{b:Type}(enc:b->Value)(e:TypeId)(a0 w:World):fU enc e a0 w (.slice none 0 0) []:=adx _ _ _ _
theorem OD{b:Type}(enc:b->Value)(w:World)(x:b)(e:TypeId):fU enc e w (w.alloc (.cells #[enc x] e)) (.slice (some ⟨w.heap.size,0,none⟩) 1 1) [x]:=
 ady w #[enc x] 1 (ac2 _) (by decide) rfl
theorem IN{O:Type}{enc:O->Value}{a0 w:World}{I:Array Oper}{rest:List Oper}{o:Oper}{a:Act}{Q:Exit->Act->World->Prop}(J:o.guard=none)(s x:Operand)(t e:TypeId)(z:Value)(L:Nat)
  (ht:acH.underlying t=some (.slice e)) (q:(acH.info? e).map (fun i=>(i.zero,i.size,i.bytes))=some (some z,1,L)) (Y:z.cells.size=1) (S:∀x,(enc x).oneCell'=true) (Z:L<=16)
  (ho:o.op=.call {callee:=.builtin .append,args:=#[s,x],argTypes:=#[t,t]}) (v:Value) (us:List O) (hs:a.eval s=v) (B:fU enc e a0 w v us)
  (vs:Value) (xs:List O) (hx:a.eval x=vs) (hi:jB enc w vs xs) (hl:us.length+xs.length<=1000000) (U:Gr a0 w)
  (h:∀H w',fU enc e a0 w' H (us++xs)->Gr a0 w'->xw v w w'->wpList acH I Q rest (a.put o.dst H) w'):wpList acH I Q (o::rest) a w:=by
 obtain⟨i0,q,a1,a2,a3⟩:=adr q;rcases hi with⟨rfl,rfl⟩|⟨b,G,c,rfl,V,hp⟩
 ·rw[List.append_nil]at h;exact Lib.wpList_append_run w J s x t t ho v (.slice none 0 0) hs hx v w (run_append_owned_none w a0.heap.size t o.type e i0 1 ht q v us.length (us.map enc) B) (h v w B U (fun k o _ _=>⟨rfl,rfl⟩))
 ·have D:(us.length+xs.length)*L<=140737488355328:=by
   have:=adM hl Z;omega
  refine wpList_append_own w J s x t ho a0.heap.size e i0 z 1 L ht q a1 a2 a3 Y (by decide) v us.length (us.map enc) hs B ⟨b,G,none⟩ xs.length c (xs.map enc) hx (by simp) ?_ (by intro u hu;obtain⟨y,_,rfl⟩:=adS.1 hu;exact S y) (by unfold maxLen;omega) D U.size
   (fun H w' S h2 _=>h H w' ?_ (iM U h2 (aP B)) (fun k o hk a4=>?_))
  ·intro j u hj;have M:j<xs.length:=by
    have:=(ac9.1 hj).1;simpa using this
   have he:(⟨b,G,none⟩:Addr).add j=⟨b,G+j,none⟩:=by
    unfold Addr.add
    split<;>simp_all
   rw[he,hp j M];simpa[M]using hj
  ·show w'.ownsRow _ _ 1 H (us++xs).length ((us++xs).map enc);rw[acK,adF];exact S
  ·have V:w'.heap[k]?=w.heap[k]?:=h2.block k hk (fun e=>a4 e.symm);exact⟨adl V,adi V⟩
theorem D4:(acH.info? 9).map (fun i=>(i.zero,i.size,i.bytes))=some (some (.string ⟨#[]⟩),1,16):=by kernel_rfl
theorem Le:(acH.info? 3).map (fun i=>(i.zero,i.size,i.bytes))=some (some (.int .i64 0),1,8):=by kernel_rfl
def yV(n:Nat):Value:=.int .i64 (n:Int)
structure Head where
 used:Nat->Bool
 roots:Nat->Int
 notes:Nat->Int
def Head.same(h g:Head):Prop:=(∀i,i<2000->h.used i=g.used i)/\∀i,i<8->h.roots i=g.roots i/\h.notes i=g.notes i
theorem Head.same.refl(h:Head):h.same h:=⟨fun _ _=>rfl,fun _ _=>⟨rfl,rfl⟩⟩
def Head.cells(h:Head):List Value:=(adj 2000).map (fun i=>ad0 (h.used i))++((adj 8).map (fun i=>ado .i64 (h.roots i))++(adj 8).map (fun i=>ado .i64 (h.notes i)))
theorem Head.fJ(h:Head):h.cells.length=2016:=by simp[Head.cells]
theorem Head.yW(h:Head){i:Nat}(hi:i<2000):h.cells[i]?=some (.bool (h.used i)):=by
 unfold Head.cells;rw[ac_ (by simpa using hi)];simp[hi]
theorem Head.yX(h:Head){i:Nat}(hi:i<8):h.cells[2000+i]?=some (.int .i64 (h.roots i)):=by
 unfold Head.cells;rw[acV (by simp),ac_ (by simp;omega)];simp[hi]
theorem Head.yY(h:Head){i:Nat}(hi:i<8):h.cells[2008+i]?=some (.int .i64 (h.notes i)):=by
 unfold Head.cells;rw[acV (by simp;omega),acV (by simp;omega)];simp;rw[show 2008+i-2000-8=i by omega];simp[hi]
theorem Head.cells_one(h:Head):∀v∈h.cells,v.oneCell'=true:=by
 intro v hv;unfold Head.cells at hv;simp only[List.mem_append,adS]at hv;rcases hv with⟨_,_,rfl⟩|⟨_,_,rfl⟩|⟨_,_,rfl⟩<;>rfl
def Head.put(h:Head)(k:Nat)(b:Bool):Head:={h with used:=fun i=>if i=k then b else h.used i}
def Head.dE(h:Head)(i:Nat)(p n:Int):Head:={h with roots:=fun j=>if j=i then p else h.roots j,notes:=fun j=>if j=i then n else h.notes j}
structure Head.aA(h:Head):Prop where
 zero:h.used 0=true
 root:∀i,i<8->0<=h.roots i/\h.roots i<2000
 note:∀i,i<8->0<=h.notes i/\h.notes i<65536
def fC(n:Int):List UInt8:=[((n/256) % 256).toNat.toUInt8,(n % 256).toNat.toUInt8]
def lq(u:Nat->Bool)(i:Nat):Nat->Nat
 |0=>0
 |k+1=>lq u i k+if u (i+k)then 2^k else 0
theorem xL(u:Nat->Bool)(i:Nat):∀k,lq u i k<2^k
 |0=>by simp[lq]
 |k+1=>by
  have:=xL u i k;unfold lq;rw[adT]
  split<;>omega
def kh(u:Nat->Bool):List UInt8:=(adj 250).map fun i=>(lq u (8*i) 8).toUInt8
theorem iO(u:Nat->Bool):(kh u).length=250:=by simp[kh]
def jr(h:Head)(n:Nat):List UInt8:=(adj n).flatMap fun i=>fC (h.roots i)++fC (h.notes i)
theorem sF(h:Head)(n:Nat):(jr h n).length=4*n:=by
 unfold jr
 induction n with
 |zero=>rfl
 |succ n b=>
  rw[List.range_succ,List.flatMap_append,acK,b];simp[fC];omega
def lr(l:List UInt8):List UInt8:=l++acR (1024-l.length) 0
theorem Lf{l:List UInt8}(h:l.length<=1024):(lr l).length=1024:=by
 unfold lr;rw[acK,adk];omega
def sG(h:Head):List UInt8:=lr (kh h.used++jr h 8)
theorem Lg(h:Head):(sG h).length=1024:=Lf (by rw[acK,iO,sF];omega)
def eA(l:List UInt8)(i:Nat):Int:=256*((l.getD i 0).toNat:Int)+((l.getD (i+1) 0).toNat:Int)
def mV(l:List UInt8):Head where
 used i:=i==0||(l.getD (i/8) 0).toNat/2^(i % 8) % 2==1
 roots i:=eA l (250+4*i)
 notes i:=eA l (252+4*i)
def iI(n:Nat)(c:UInt8):Nat:=((n^^^c.toNat)*1099511628211) % 18446744073709551616
def TO(l:List (List UInt8)):Nat:=l.foldl (fun n s=>s.foldl iI n) 14695981039346656037
def Bi(n:Nat):Nat->List UInt8
 |0=>[]
 |k+1=>Bi n k++[(n/256^k).toUInt8]
theorem tN(n:Nat):∀k,(Bi n k).length=k
 |0=>rfl
 |k+1=>by rw[Bi,acK,tN n k];rfl
def Bj(l:List (List UInt8)):List UInt8:=Bi (TO l) 8
def qi(b:List Nat):List UInt8:=fC (b.length:Int)++kh fun i=>b.contains i
theorem Dc(b:List Nat):(qi b).length=252:=by
 unfold qi;rw[acK,iO]
 rfl
def Ga(b:List Nat)(l:List (List UInt8)):List UInt8:=lr (qi b++Bj (qi b::l))
def eC:ByteArray:=⟨(adm [0] 1024).toArray⟩
def bO(pg:Nat->ByteArray)(k:Nat):ByteArray:=if(pg k).toList.isEmpty then eC else pg k
def mH(pg:Nat->ByteArray)(k:Nat)(s:ByteArray):Nat->ByteArray:=fun i=>if i=k then s else pg i
def dH(w:World)(B:Nat)(pg:Nat->ByteArray)(cut:Bool)(left torn:Int):Prop:=
 (∀k,k<4001->w.cell? ⟨B,k,none⟩=some (.string (pg k)))/\w.cell? ⟨B,4001,none⟩=some (.bool cut)/\w.cell? ⟨B,4002,none⟩=some (.int .i64 left)/\w.cell? ⟨B,4003,none⟩=some (.int .i64 torn)/\∀o,w.frozen? ⟨B,o,none⟩=false
theorem dH.gr{w w':World}{B:Nat}{pg:Nat->ByteArray}{cut:Bool}{left torn:Int}(h:dH w B pg cut left torn)(g:Gr w w'):dH w' B pg cut left torn:=
 ⟨fun k b=>g.keeps (h.1 k b),g.keeps h.2.1,g.keeps h.2.2.1,g.keeps h.2.2.2.1,fun o=>(g.frozen o (ad h.2.1)).trans (h.2.2.2.2 o)⟩
theorem aX{w:World}{B o p:Nat}{u v:Value}(h:o≠p)(hc:w.cell? ⟨B,o,none⟩=some v):(w.setCell ⟨B,p,none⟩ u).cell? ⟨B,o,none⟩=some v:=
 (World.cell?_setCell_other _ _ _ _ (fun e=>h (congrArg Addr.off e).symm)).trans hc
theorem js(w:World)(B o:Nat)(u:Value):w.grownBy (w.setCell ⟨B,o,none⟩ u) (some B):=
 ⟨rfl,rfl,rfl,by simp,fun k _ b=>adq _ _ _ _ (fun e=>b (by rw[e]))⟩
theorem mW{w w':World}(g:Gr w w')(row:Option Nat):w.grownBy w' row:=⟨g.os,g.tape,g.output,g.size,fun k b _=>g.block k b⟩
theorem dH.QW{w:World}{B:Nat}{pg:Nat->ByteArray}{cut:Bool}{left torn:Int}(h:dH w B pg cut left torn)(n:Int):dH (w.setCell ⟨B,4002,none⟩ (.int .i64 n)) B pg cut n torn:=
 ⟨fun k b=>aX (by omega) (h.1 k b),aX (by omega) h.2.1,acL _ _ _ h.2.2.1,aX (by omega) h.2.2.2.1,fun o=>by simpa using h.2.2.2.2 o⟩
theorem dH.QX{w:World}{B:Nat}{pg:Nat->ByteArray}{cut:Bool}{left torn:Int}(h:dH w B pg cut left torn)(n:Int):dH (w.setCell ⟨B,4003,none⟩ (.int .i64 n)) B pg cut left n:=
 ⟨fun k b=>aX (by omega) (h.1 k b),aX (by omega) h.2.1,aX (by omega) h.2.2.1,acL _ _ _ h.2.2.2.1,fun o=>by simpa using h.2.2.2.2 o⟩
theorem dH.IP{w:World}{B:Nat}{pg:Nat->ByteArray}{cut:Bool}{left torn:Int}(h:dH w B pg cut left torn){k:Nat}(b:k<4001)(s:ByteArray):dH (w.setCell ⟨B,k,none⟩ (.string s)) B (mH pg k s) cut left torn:=by
 refine⟨fun i hi=>?_,aX (by omega) h.2.1,aX (by omega) h.2.2.1,aX (by omega) h.2.2.2.1,fun o=>by simpa using h.2.2.2.2 o⟩;unfold mH;by_cases e:i=k
 ·subst e;rw[if_pos rfl];exact acL _ _ _ (h.1 i hi)
 ·rw[if_neg e];exact aX e (h.1 i hi)
def QY(cut:Bool)(left:Int):Bool:=!cut||decide (0<left)
theorem qj{a b:ByteArray}(h:a.data.toList=b.data.toList):a=b:=by
 cases a;cases b;simp only[ad1];exact Array.ext' h
theorem TQ(B:Nat)(pg:Nat->ByteArray)(cut:Bool)(left torn:Int)(w:World)(h:dH w B pg cut left torn):Calls acH 192 #[.pointer (some ⟨B,0,none⟩)] w (ar w (.bool (QY cut left))):=by
 have b:=h.2.1;have q:=h.2.2.1;clear h;go_enter Tryz.func192,Tryz.ntmps192;go_wp2
 all_goals
  go_ret;refine ar.mk ?_ (Gr.refl _);simp_all [QY]
theorem tO(s:ByteArray)(c:Nat)(w:World)(hc:c<=100000)(hs:s.size<=100000):Calls acH 139 #[.string s,.int .i64 c] w (ar w (.string ⟨(adm s.data.toList c).toArray⟩)):=by
 refine(Tryz.strings_Repeat s c w (by omega) (by have:=adM hs hc;omega)).mono ?_;rintro e q ⟨rfl,b⟩;exact⟨rfl,b⟩
theorem Gb(w:World):Calls acH 139 #[.string ⟨#[0]⟩,.int .i64 1024] w (ar w (.string eC)):=tO ⟨#[0]⟩ 1024 w (by omega) (by decide)
theorem qZ(B:Nat)(pg:Nat->ByteArray)(cut:Bool)(left torn:Int)(k:Nat)(s:k<4001)(w:World)(h:dH w B pg cut left torn):
  Calls acH 81 #[.pointer (some ⟨B,0,none⟩),.int .i64 k] w (ar w (.tuple #[.string (bO pg k),.nilIface])):=by
 have y:=h.1 k s;clear h;go_enter Tryz.func81,Tryz.ntmps81;cases q:(pg k).toList.isEmpty
 ·go_wp2_with fail
  all_goals first|omega|skip
  go_ret2;refine ar.mk ?_ (Gr.refl _);unfold bO;rw[if_neg (by rw[q];decide)]
  rfl
 ·go_wp2_with fail
  all_goals first|omega|skip
  refine(Gb w).mono ?_;rintro e z ⟨rfl,b⟩;go_wp2_with fail
  go_ret2;refine ar.mk ?_ b;unfold bO;rw[if_pos q]
  rfl
def mX(t:Int):Nat:=(min (max t 0) 1024).toNat
def Bk(s old:ByteArray)(n:Nat):List UInt8:=s.data.toList.take n++old.data.toList.drop n
def Gd(s old:ByteArray)(n:Nat):ByteArray:=⟨(Bk s old n).toArray⟩
theorem OE(B:Nat)(pg:Nat->ByteArray)(cut:Bool)(left torn:Int)(k:Nat)(z:k<4001)(s:ByteArray)(hs:s.size=1024)(D:QY cut left=true)(L:-1000000<=left/\left<=9223372036854775807)(w:World)(h:dH w B pg cut left torn):
  Calls acH 137 #[.pointer (some ⟨B,0,none⟩),.int .i64 k,.string s] w fun e w'=>e=.returned .nilIface/\dH w' B (mH pg k s) cut (left-1) torn/\w.grownBy w' (some B):=by
 have H:=acJ h;clear h;have J:((s.size:Int) !=1024)=false:=by simp;omega
 go_enter adU,adN;go_wp2_with fail
 refine(qZ B pg cut left torn k z w H.out).mono ?_;rintro e I ⟨rfl,q⟩;have G:=acJ (H.out.gr q);go_wp2_with fail
 refine(TQ B pg cut left torn I G.out).mono ?_;rintro e M ⟨rfl,y⟩;rw[D];have b:=acJ (G.out.gr y);have O:=b.out.2.2.1;have Q:=b.out.2.2.2.2 4002;have S:=b.out.1 k z;have U:=b.out.2.2.2.2 k;go_wp2_with fail
 go_ret;exact⟨rfl,(b.out.QW _).IP z s,((mW (q.trans y) _).trans (js _ _ _ _)).trans (js _ _ _ _)⟩
theorem Lh(B:Nat)(pg:Nat->ByteArray)(cut:Bool)(left torn:Int)(k:Nat)(J:k<4001)(s:ByteArray)(hs:s.size=1024)(L:QY cut left=false)(O:(bO pg k).size=1024)(w:World)(h:dH w B pg cut left torn):
  Calls acH 137 #[.pointer (some ⟨B,0,none⟩),.int .i64 k,.string s] w fun e w'=>e=.returned (.iface 24 (.int .i64 14))/\dH w' B (mH pg k (Gd s (bO pg k) (mX torn))) cut left 0/\w.grownBy w' (some B):=by
 have H:=acJ h;clear h;have S:((s.size:Int) !=1024)=false:=by simp;omega
 go_enter adU,adN;go_wp2_with fail
 refine(qZ B pg cut left torn k J w H.out).mono ?_;rintro e Q ⟨rfl,z⟩;have M:=acJ (H.out.gr z);go_wp2_with fail
 refine(TQ B pg cut left torn Q M.out).mono ?_;rintro e Y ⟨rfl,D⟩;rw[L];have y:=acJ (M.out.gr D);have Z:=y.out.2.2.2.1;have z3:=y.out.2.2.2.2 4003;have ck:=y.out.1 k J;have zk:=y.out.2.2.2.2 k;generalize b:bO pg k=old at*;have G:=acJ b;clear b;have U:min (max torn 0) 1024=((mX torn:Nat):Int):=by unfold mX;omega
 have V:mX torn<=1024:=by unfold mX;omega
 generalize q:mX torn=n at*;have I:=acJ q;clear q;have ha:∀w,(Op.stringOp .add (s.extract 0 n) (old.extract n 1024)).run acH w=.ok (.string (Gd s old n)) w:=fun w=>by
  rw[ac5 w _ _ (by rw[acS,acS];omega)]
  congr 2
  apply qj;rw[ByteArray.data_append,Array.toList_append,ade,ade,<-O];show _=Bk s old n;unfold Bk;rw[List.drop_zero,Nat.sub_zero,acT (l:=List.drop n _) (by rw[adA,<-size_data];exact ac2 _)]
 go_wp2_with fail
 go_region
 go_wp2
 go_ret;refine⟨rfl,?_,(((mW (z.trans D) _).trans (js _ _ _ _)).trans (js _ _ _ _)).trans (mW (Gr.refl _).drew _)⟩;rw[G.out,I.out];exact((y.out.IP J _).QX 0).gr (Gr.refl _).drew
theorem gg(c:UInt8):∀n,adm [c] n=acR n c
 |0=>rfl
 |n+1=>by
  rw[List.replicate_succ,<-gg c n]
  rfl
theorem wB:eC.data.toList=lr []:=by
 show(adm [0] 1024).toArray.toList=[]++acR (1024-([]:List UInt8).length) 0;rw[List.toList_toArray,gg,List.nil_append,List.length_nil]
theorem Li(n:Int)(w:World):Calls acH 189 #[.int .i64 n] w (ar w (.string ⟨(fC n).toArray⟩)):=by
 have s:ac6.wrap (n/256)=((((n/256) % 256).toNat.toUInt8).toNat:Int):=by
  show(n/256) % 256=_;simp;omega
 have y:ac6.wrap n=(((n % 256).toNat.toUInt8).toNat:Int):=by
  show n % 256=_;simp;omega
 have q:Hid (fC n=[((n/256) % 256).toNat.toUInt8,(n % 256).toNat.toUInt8]):=acJ rfl;generalize((n/256) % 256).toNat.toUInt8=a at*;generalize(n % 256).toNat.toUInt8=b at*;have hc:∀w:World,(convert 188 9 (.slice (some ⟨w.heap.size,0,none⟩) 2 2)).run acH (w.alloc (.cells #[.int .u8 (a.toNat:Int),.int .u8 (b.toNat:Int)] 5))=.ok (.string ⟨#[a,b]⟩) (w.alloc (.cells #[.int .u8 (a.toNat:Int),.int .u8 (b.toNat:Int)] 5)):=fun w=>
  oQ (a0:=w) (l:=[a,b]) (ady w #[.int .u8 (a.toNat:Int),.int .u8 (b.toNat:Int)] 2 (ac2 _) (by decide) rfl)
 go_enter Tryz.func189,Tryz.ntmps189;go_wp2_with fail
 go_ret;exact ar.mk (by rw[q.out];rfl) ((Gr.refl w).alloc _)
theorem lu(l m:List UInt8)(h:l.length+m.length<=100000000000):∀w,(Op.stringOp .add ⟨l.toArray⟩ ⟨m.toArray⟩).run acH w=.ok (.string ⟨(l++m).toArray⟩) w:=fun w=>by
 rw[ac5 w _ _ (by rw[kF,kF];omega),ByteArray.mk_append_mk]
theorem vn(U c:Nat)(q:U<256)(hc:c<256):bits BinOp.or adE ((U:Int)*256) (c:Int)=256*(U:Int)+(c:Int):=by
 have e:((U:Int)*256)=((U*256:Nat):Int):=by omega
 rw[e];show adE.wrap ((acW 64 ((U*256:Nat):Int)|||acW 64 (c:Int)).toNat:Int)=_;rw[BitVec.toNat_or,et _ (by omega),et _ (by omega),adB];have h:=Nat.two_pow_add_eq_or_of_lt (i:=8) (b:=c) hc U;rw[Nat.mul_comm]at h;rw[show(2:Nat)^8=256 from rfl]at h;rw[<-h];omega
theorem Nc(s:ByteArray)(hs:2<=s.size)(w:World):Calls acH 140 #[.string s] w fun e w'=>e=.returned (.int .i64 (eA s.data.toList 0))/\w'=w.drew:=by
 have q:0<s.size:=by omega
 have y:1<s.size:=by omega
 have z:s[0]=s.data.toList.getD 0 0:=by
  rw[eH s 0 q,acP,acX (by rw[<-size_data];exact q)]
  rfl
 have B:s[1]=s.data.toList.getD (0+1) 0:=by
  rw[eH s 1 y,acP,acX (by rw[<-size_data];exact y)]
  rfl
 have D:Hid (eA s.data.toList 0=256*((s[0].toNat:Nat):Int)+((s[1].toNat:Nat):Int)):=acJ (by rw[z,B];rfl);have I:=vn s[0].toNat s[1].toNat (s[0].toNat_lt) (s[1].toNat_lt);have hw:wrap64 ((s[0].toNat:Int)*256)=(s[0].toNat:Int)*256:=by
  have:=s[0].toNat_lt;unfold wrap64;omega
 have G:wrap64 (s[0].toNat:Int)=(s[0].toNat:Int):=by
  have:=s[0].toNat_lt;unfold wrap64;omega
 have H:wrap64 (s[1].toNat:Int)=(s[1].toNat:Int):=by
  have:=s[1].toNat_lt;unfold wrap64;omega
 clear z B;generalize hA:s[0]=a at*;generalize J:s[1]=b at*;go_enter Tryz.func140,Tryz.ntmps140;go_wp2_with fail
 go_region
 go_wp2_with fail
 go_ret;refine⟨?_,rfl⟩;rw[D.out]
 rfl
theorem tP(l:List UInt8):(⟨l.toArray⟩:ByteArray).data.toList=l:=by show l.toArray.toList=l;simp
theorem Ge(s:ByteArray)(hs:s.size<=1024)(w:World):Calls acH 138 #[.string s] w (ar w (.string ⟨(lr s.data.toList).toArray⟩)):=by
 have q:∀w,Calls acH 139 #[.string ⟨#[0]⟩,.int .i64 (1024-(s.size:Int))] w (ar w (.string ⟨(acR (1024-s.size) (0:UInt8)).toArray⟩)):=fun w=>by
  have:=tO ⟨#[0]⟩ (1024-s.size) w (by omega) (show 1<=100000 by omega);rw[show((1024-s.size:Nat):Int)=1024-(s.size:Int)by omega]at this;rw[<-gg];exact this
 have ha:∀w,(Op.stringOp .add s ⟨(acR (1024-s.size) (0:UInt8)).toArray⟩).run acH w=.ok (.string ⟨(lr s.data.toList).toArray⟩) w:=fun w=>by
  rw[ac5 w _ _ (by rw[kF (acR (1024-s.size) 0),adk];omega)]
  congr 2
 have hw:adE.wrap (1024-(s.size:Int))=1024-(s.size:Int):=by rw[adB];omega
 generalize(⟨(lr s.data.toList).toArray⟩:ByteArray)=r at*;generalize(⟨(acR (1024-s.size) (0:UInt8)).toArray⟩:ByteArray)=z at*;go_enter Tryz.func138,Tryz.ntmps138;go_wp2_with fail
 refine(q w).mono ?_;rintro e y ⟨rfl,b⟩;go_wp2_with fail
 go_ret;exact ar.mk rfl b
def gI(l:List ByteArray):List (List UInt8):=l.map fun s=>s.data.toList
theorem Uw(n c:Nat)(hn:n<18446744073709551616)(hc:c<256):bits ad3 ac3 (n:Int) (c:Int)=((n^^^c:Nat):Int):=by
 show ac3.wrap ((acW 64 (n:Int)^^^acW 64 (c:Int)).toNat:Int)=_;rw[BitVec.toNat_xor,et _ (by omega),et _ (by omega),adf];have h:n^^^c<2^64:=Nat.xor_lt_two_pow (by omega) (by omega);omega
theorem IQ(n:Nat)(c:UInt8):iI n c<18446744073709551616:=Nat.mod_lt _ (by omega)
theorem xM:∀(l:List UInt8) (n:Nat),n<18446744073709551616->l.foldl iI n<18446744073709551616
 |[],_,h=>h
 |c::l,n,_=>xM l _ (IQ n c)
theorem IS:∀(l:List (List UInt8)) (n:Nat),n<18446744073709551616->l.foldl (fun n s=>s.foldl iI n) n<18446744073709551616
 |[],_,h=>h
 |s::l,n,h=>IS l _ (xM s n h)
theorem Bl{s q:Type}(f:q->s->q)(b:q)(l:List s)(k:Nat)(y:k<l.length):(l.take (k+1)).foldl f b=f ((l.take k).foldl f b) l[k]:=by
 rw[List.take_succ_eq_append_getElem y,List.foldl_append]
 rfl
theorem Ux(l:List ByteArray)(v:Value)(w:World)(h:jB adV w v l)(hl:l.length<=1000000)(hs:∀i (h:i<l.length),l[i].size<=1000000):
  Calls acH 191 #[v] w (ar w (.string ⟨(Bj (gI l)).toArray⟩)):=by
 obtain⟨i0,hi,Y,Z,a1⟩:=adr wj;have H:=acJ h;have HS:=acJ hs;obtain⟨ao,ca,rfl⟩:=h.form;clear h hs;go_enter Tryz.func191,Tryz.ntmps191;go_wp2_with fail
 go_loopw [10,3] (fun y G w'=>∃i n:Nat,i<=l.length/\y=.int .i64 i/\G=.int .u64 n/\n=((gI l).take i).foldl (fun n s=>s.foldl iI n) 14695981039346656037/\w'=w) (fun y _ _=>l.length-(intOf y).toNat)
 case atStart=>exact⟨0,_,adb _,rfl,rfl,rfl,rfl⟩
 case round=>
  obtain⟨i,n,c6,rfl,rfl,hn,rfl⟩:=hrel;have B:n<18446744073709551616:=by
   rw[hn];exact IS _ _ (by omega)
  have HN:=acJ hn;clear hn;by_cases z:i<l.length
  ·obtain⟨b,c7,rfl,hc⟩:=H.out.at z;have c0:=hc i z;have c8:=HS.out i z;have a2:i<(gI l).length:=by simpa[gI]using z
   have a3:=acJ (Bl (fun n s=>s.foldl iI n) 14695981039346656037 (gI l) i a2);have J:(gI l)[i]=l[i].data.toList:=by simp[gI]
   have a4:=acJ J;clear hc J;generalize l[i]=t at*;go_wp2_with fail
   go_loopw [16,3] (fun y G w'=>∃k m:Nat,k<=t.size/\y=.int .i64 k/\G=.int .u64 m/\m=(t.data.toList.take k).foldl iI n/\w'=wr) (fun y _ _=>t.size-(intOf y).toNat)
   case atStart=>exact⟨0,_,adb _,rfl,rfl,rfl,rfl⟩
   case round=>
    obtain⟨k,m,hk,rfl,rfl,V,rfl⟩:=hrel;have U:m<18446744073709551616:=by
     rw[V];exact xM _ _ B
    have HM:=acJ V;clear V;by_cases D:k<t.size
    ·have a5:k<t.data.toList.length:=by rw[<-size_data];exact D
     have a6:=acJ (Bl iI n t.data.toList k a5);have HG:=acJ (eH t k D);have hx:=Uw m t[k].toNat U t[k].toNat_lt;have L:ac3.wrap (bits ad3 ac3 (m:Int) (ac3.wrap (t[k].toNat:Int))*1099511628211)=((iI m t[k]:Nat):Int):=by
      have hw:ac3.wrap (t[k].toNat:Int)=(t[k].toNat:Int):=by
       have:=t[k].toNat_lt;rw[adf];omega
      rw[hw,hx,adf];unfold iI;generalize m^^^t[k].toNat=x;omega
     have a7:=acJ L;clear hx L;go_wp2_with fail
     refine⟨⟨k+1,iI m t[k],by omega,by go_num,by rw[a7.out],?_,trivial⟩,by simp[intOf];omega⟩;rw[a6.out,<-HM.out,HG.out]
    ·obtain rfl:k=t.size:=by omega
     have M:m=((gI l).take (i+1)).foldl (fun n s=>s.foldl iI n) 14695981039346656037:=by
      rw[a3.out,<-HN.out,a4.out,HM.out,acT (by rw[<-size_data];exact ac2 _)]
     have a8:=acJ M;clear M;go_wp2_with fail
     exact⟨⟨i+1,m,by omega,by go_num,rfl,a8.out,trivial⟩,by simp[intOf];omega⟩
  ·obtain rfl:i=l.length:=by omega
   have O:n=TO (gI l):=by
    rw[HN.out,acT (by simp[gI])]
    rfl
   have a9:=acJ O;clear O
   rename World=>wa
   go_wp2_with fail
   go_loopw [28,3,7] (fun y G bv w'=>∃k:Nat,k<=8/\y=.int .i64 k/\G=.int .u64 ((n/256^k:Nat):Int)/\ey wa w' bv (Bi n k)/\Gr wa w') (fun y _ _ _=>8-(intOf y).toNat)
   case atStart=>exact⟨0,adb _,rfl,by simp,adx _ _ _ _,Gr.refl _⟩
   case round=>
    obtain⟨k,hk,rfl,rfl,ho,hg⟩:=hrel;have HO:=acJ ho;clear ho;have c9:=tN n k;have b9:n/256^k<18446744073709551616:=ads (adG _ _) B;by_cases D:k<8
    ·have hb:ac6.wrap ((n/256^k:Nat):Int)=(((n/256^k).toUInt8.toNat:Nat):Int):=by
      show _ % 256=((n/256^k % 256:Nat):Int);omega
     have Q:((n/256^k:Nat):Int)/256=((n/256^(k+1):Nat):Int):=by
      rw[adT,<-Nat.div_div_eq_div_mul];omega
     have b0:Hid (Bi n (k+1)=Bi n k++[(n/256^k).toUInt8]):=acJ rfl;generalize S:n/256^(k+1)=nx at*;have b1:=acJ S;clear S;generalize(n/256^k).toUInt8=c at*;generalize n/256^k=q at*;have b2:=acJ Q;clear Q;go_wp2_with(at_builtin;(refine dK (a0:=wa) rfl _ _ 188 rfl 5 i0 (.int .u8 0) 1 1 ac7 hi Y Z a1 rfl (by decide) _ _ _ rfl (ey.row HO.out) [_] rfl (by intro u hu;simp at hu;subst hu;rfl) rfl hg (by omega) (by omega) ?_))
     intro v4 w4 I b3;go_wp2_with fail
     refine⟨⟨k+1,by omega,by go_num,by rw[b1.out,b2.out],?_,b3⟩,by simp[intOf];omega⟩;rw[b0.out];exact nm (by rw[lk,tN];exact I)
    ·obtain rfl:k=8:=by omega
     have d0:=oQ HO.out;go_wp2_with fail
     go_ret;refine ar.mk ?_ hg;rw[Bj,<-a9.out]
     rfl
end
section
open Go Go.RowKit Go.Maps
def MapAt(w:World)(M n:Nat)(F:Int->Option ByteArray):Prop:=
 ∃D:DataW Unit,w.ownsMap acH 3 (plainElem acH 9) M n D/\
  ∀k:Int,(adW .i64 k).wf=true->Maps.has D (.int .i64 k)=(F k).isSome/\∀z,D.atKey (.int .i64 k) z=match F k with|none=>z|some s=>.lit (.string s.data.toList)
theorem IT:Keyed acH 3:=int_keyed adg
theorem MapAt.kept{w w':World}{M n:Nat}{F:Int->Option ByteArray}{row:Option Nat}(h:MapAt w M n F)(g:w.grownBy w' row)(b:some M≠row):MapAt w' M n F:=by
 obtain⟨D,q,s⟩:=h;exact⟨D,q.kept g b,s⟩
theorem MapAt.gr{w w':World}{M n:Nat}{F:Int->Option ByteArray}(h:MapAt w M n F)(g:Gr w w'):MapAt w' M n F:=h.kept (mW g none) (by simp)
theorem MapAt.made(w:World):MapAt (w.alloc (.map #[] 0)) w.heap.size 0 (fun _=>none):=
 ⟨.map [],World.ownsMap_made w _ _ _,fun _ _=>⟨rfl,fun _=>rfl⟩⟩
theorem QZ{k:Int}(h:-9223372036854775808<=k/\k<=9223372036854775807):(adW .i64 k).wf=true:=by
 simp[Lit.wf,IntKind.min,IntKind.max,IntKind.bits,IntKind.signed];omega
theorem Uy(w:World):(zeroValue 9).run acH w=.ok (.string ⟨#[]⟩) w:=by kernel_rfl
theorem MapAt.look{w:World}{M n:Nat}{F:Int->Option ByteArray}(h:MapAt w M n F){k:Int}(y:-9223372036854775808<=k/\k<=9223372036854775807):
  (Instr.lookup 152 (.map (some M)) (.int .i64 k) true).run acH w=.ok (.tuple #[.string ((F k).getD ⟨#[]⟩),.bool (F k).isSome]) w:=by
 obtain⟨D,B,G⟩:=h;obtain⟨H,I⟩:=G k (QZ y);obtain⟨v,J,q,hv⟩:=B.look_ok (t:=152) (e:=9) IT adt (Uy w) (adC ac0 (by decide)) (keyOf_int_mk adg (QZ y));rw[q,H];rw[I]at hv;obtain⟨s,rfl,b,_⟩:=plainElem_string_inv ac0 hv;have:s=(F k).getD ⟨#[]⟩:=by
  apply qj;cases z:F k with
  |none=>
   rw[z]at b;simp only[adO,adH,adD]at b;exact b.1.symm
  |some u=>
   rw[z]at b;simp only[adO,adH,adD]at b;exact b.1.symm
 rw[this]
theorem MapAt.store{w:World}{M n:Nat}{F:Int->Option ByteArray}(h:MapAt w M n F)(hn:n<1000000){k:Int}(H:-9223372036854775808<=k/\k<=9223372036854775807)(s:ByteArray)(hs:s.size<=9223372036854775807):
  ∃w',(Instr.mapUpdate 152 (.map (some M)) (.int .i64 k) (.string s)).run acH w=.ok () w'/\MapAt w' M (n+1) (fun i=>if i=k then some s else F i)/\w.grownBy w' (some M):=by
 obtain⟨D,B,G⟩:=h;obtain⟨w',y,I,J⟩:=B.update (t:=152) (e:=9) IT adt (by unfold maxLen;omega) (keyOf_int_mk adg (QZ H)) (adC ac0 (s:=s) (by unfold maxLen;exact hs));refine⟨w',y,⟨_,I,fun i hi=>?_⟩,J⟩;have b:=B.isMap;by_cases e:i=k
 ·subst e;simp only[if_true];exact⟨Maps.has_put_same b (show adI (.int .i64 i)from trivial) _,fun z=>Maps.atKey_put_same b (show adI (.int .i64 i)from trivial) _ z⟩
 ·have q:(adW .i64 i)≠(adW .i64 k):=by
   intro h;injection h with _ h
   exact e h
  simp only[if_neg e];rw[Maps.has_put_other q];exact⟨(G i hi).1,fun z=>by rw[Maps.atKey_put_other q];exact(G i hi).2 z⟩
end
section
open Go Go.RowKit
theorem dH.aC{S:Nat->Prop}{w w':World}{B:Nat}{pg:Nat->ByteArray}{cut:Bool}{left torn:Int}(h:dH w B pg cut left torn)(g:ag S w w')(hs:¬S B):dH w' B pg cut left torn:=
 ⟨fun k b=>g.keeps hs (h.1 k b),g.keeps hs h.2.1,g.keeps hs h.2.2.1,g.keeps hs h.2.2.2.1,fun o=>(g.frozen o (ad h.2.1) hs).trans (h.2.2.2.2 o)⟩
theorem MapAt.block{w w':World}{M n:Nat}{F:Int->Option ByteArray}(h:MapAt w M n F)(q:w'.heap[M]?=w.heap[M]?):MapAt w' M n F:=by
 obtain⟨D,⟨s,b,y,z⟩,B⟩:=h;exact⟨D,⟨s,b,q.trans y,z⟩,B⟩
theorem MapAt.lt{w:World}{M n:Nat}{F:Int->Option ByteArray}(h:MapAt w M n F):M<w.heap.size:=by
 obtain⟨D,⟨s,b,q,y⟩,z⟩:=h;exact(acM.1 q).1
theorem MapAt.aC{S:Nat->Prop}{w w':World}{M n:Nat}{F:Int->Option ByteArray}(h:MapAt w M n F)(g:ag S w w')(hs:¬S M):MapAt w' M n F:=h.block (g.block h.lt hs)
structure aK(w:World)(B o:Nat)(h:Head):Prop where
 used:∀i,i<2000->w.cell? ⟨B,o+i,none⟩=some (.bool (h.used i))
 root:∀i,i<8->w.cell? ⟨B,o+2000+i,none⟩=some (.int .i64 (h.roots i))
 note:∀i,i<8->w.cell? ⟨B,o+2008+i,none⟩=some (.int .i64 (h.notes i))
theorem aK.same{w:World}{B o:Nat}{h g:Head}(a:aK w B o h)(s:h.same g):aK w B o g:=
 ⟨fun i hi=>by rw[a.used i hi,s.1 i hi],fun i hi=>by rw[a.root i hi,(s.2 i hi).1],fun i hi=>by rw[a.note i hi,(s.2 i hi).2]⟩
theorem aK.gr{w w':World}{B o:Nat}{h:Head}(a:aK w B o h)(g:Gr w w'):aK w' B o h:=
 ⟨fun i hi=>g.keeps (a.used i hi),fun i hi=>g.keeps (a.root i hi),fun i hi=>g.keeps (a.note i hi)⟩
theorem aK.aC{S:Nat->Prop}{w w':World}{B o:Nat}{h:Head}(a:aK w B o h)(g:ag S w w')(hs:¬S B):aK w' B o h:=
 ⟨fun i hi=>g.keeps hs (a.used i hi),fun i hi=>g.keeps hs (a.root i hi),fun i hi=>g.keeps hs (a.note i hi)⟩
theorem aK.range{w:World}{B o:Nat}{h:Head}(a:aK w B o h):w.rangeAt B o h.cells:=fun j v hv=>by
 have s:j<2016:=by
  have:=(ac9.1 hv).1;rw[h.fJ]at this;exact this
 rcases adX j 2000 with b|b
 ·rw[h.yW b]at hv;rw[a.used j b,hv]
 ·rcases adX j 2008 with q|q
  ·obtain⟨i,rfl⟩:∃i,j=2000+i:=⟨j-2000,by omega⟩;rw[h.yX (show i<8 by omega)]at hv;rw[<-ac1,a.root i (by omega),hv]
  ·obtain⟨i,rfl⟩:∃i,j=2008+i:=⟨j-2008,by omega⟩;rw[h.yY (show i<8 by omega)]at hv;rw[<-ac1,a.note i (by omega),hv]
theorem aK.xN{w:World}{B o:Nat}{h:Head}(r:w.rangeAt B o h.cells):aK w B o h:=
 ⟨fun i hi=>r i _ (h.yW hi),fun i hi=>by rw[ac1];exact r (2000+i) _ (h.yX hi),fun i hi=>by rw[ac1];exact r (2008+i) _ (h.yY hi)⟩
theorem aK.box(w:World)(h:Head)(t:TypeId):aK (w.alloc (.cells h.cells.toArray t)) w.heap.size 0 h:=
 .xN fun j v hv=>by
  rw[acU,acQ];simpa using hv
theorem aK.there{w:World}{B o:Nat}{h:Head}(a:aK w B o h)(hf:∀j,w.frozen? ⟨B,j,none⟩=false):w.there B o 2016:=fun j b=>
 ⟨a.range.isSome j (by rw[h.fJ];exact b),hf _⟩
theorem aK.dT{w:World}{B o:Nat}{h:Head}(a:aK w B o h)(p:Nat)(u:Value)(b:p<o\/o+2016<=p):aK (w.setCell ⟨B,p,none⟩ u) B o h:=
 ⟨fun i hi=>aX (by omega) (a.used i hi),fun i hi=>aX (by omega) (a.root i hi),fun i hi=>aX (by omega) (a.note i hi)⟩
theorem aK.put{w:World}{B o:Nat}{h:Head}(a:aK w B o h){k:Nat}(q:k<2000)(b:Bool):aK (w.setCell ⟨B,o+k,none⟩ (.bool b)) B o (h.put k b):=
 ⟨fun i hi=>by
  show _=some (ad0 (if i=k then b else h.used i));by_cases e:i=k
  ·subst e;rw[if_pos rfl];exact acL _ _ _ (a.used i hi)
  ·rw[if_neg e];exact aX (by omega) (a.used i hi),fun i hi=>aX (by omega) (a.root i hi),fun i hi=>aX (by omega) (a.note i hi)⟩
def Head.lY(h:Head)(i:Nat)(p:Int):Head:={h with roots:=fun j=>if j=i then p else h.roots j}
def Head.lZ(h:Head)(i:Nat)(n:Int):Head:={h with notes:=fun j=>if j=i then n else h.notes j}
theorem Head.OG(h:Head)(i:Nat)(p n:Int):(h.lY i p).lZ i n=h.dE i p n:=rfl
theorem aK.lY{w:World}{B o:Nat}{h:Head}(a:aK w B o h){k:Nat}(b:k<8)(p:Int):aK (w.setCell ⟨B,o+2000+k,none⟩ (.int .i64 p)) B o (h.lY k p):=
 ⟨fun i hi=>aX (by omega) (a.used i hi),fun i hi=>by
  show _=some (ado .i64 (if i=k then p else h.roots i));by_cases e:i=k
  ·subst e;rw[if_pos rfl];exact acL _ _ _ (a.root i hi)
  ·rw[if_neg e];exact aX (by omega) (a.root i hi),fun i hi=>aX (by omega) (a.note i hi)⟩
theorem aK.lZ{w:World}{B o:Nat}{h:Head}(a:aK w B o h){k:Nat}(b:k<8)(p:Int):aK (w.setCell ⟨B,o+2008+k,none⟩ (.int .i64 p)) B o (h.lZ k p):=
 ⟨fun i hi=>aX (by omega) (a.used i hi),fun i hi=>aX (by omega) (a.root i hi),fun i hi=>by
  show _=some (ado .i64 (if i=k then p else h.notes i));by_cases e:i=k
  ·subst e;rw[if_pos rfl];exact acL _ _ _ (a.note i hi)
  ·rw[if_neg e];exact aX (by omega) (a.note i hi)⟩
theorem aK.over{w:World}{B o:Nat}{h:Head}(a:aK w B o h)(hf:∀j,w.frozen? ⟨B,j,none⟩=false)(g:Head):aK (w.setCells B o g.cells) B o g:=
 .xN (World.rangeAt_setCells_same w B o g.cells (by rw[g.fJ];exact a.there hf))
theorem aK.IU{w:World}{B o:Nat}{h:Head}(a:aK w B o h)(b:Nat)(g:Head)(q:o+2016<=b\/b+2016<=o):aK (w.setCells B b g.cells) B o h:=
 .xN (World.rangeAt_setCells_apart a.range B b g.cells (by rw[h.fJ,g.fJ];omega))
theorem dg{w:World}{B p o:Nat}{v:Value}(hc:w.cell? ⟨B,p,none⟩=some v)(g:Head)(b:p<o\/o+2016<=p):(w.setCells B o g.cells).cell? ⟨B,p,none⟩=some v:=by
 rw[World.cell?_setCells_out B g.cells o w ⟨B,p,none⟩ (fun _ _=>by rw[g.fJ];exact b)];exact hc
theorem f_(B:Nat):∀(vs:List Value) (o:Nat) (w:World),ag (fun k=>k=B) w (w.setCells B o vs)
 |[],_,w=>ag.refl _ w
 |v::vs,o,w=>(ag.setCell (S:=fun k=>k=B) (p:=⟨B,o,none⟩) w v rfl).trans (f_ B vs (o+1) _)
def lx:Head:=⟨fun _=>false,fun _=>0,fun _=>0⟩
theorem OH:acI=adJ 2000 (.bool false)++adJ 16 (.int .i64 0):=by kernel_rfl
theorem xO(w:World):aK (w.alloc (.cells acI 156)) w.heap.size 0 lx:=by
 rw[OH];refine⟨fun i hi=>?_,fun i hi=>?_,fun i hi=>?_⟩
 ·rw[acU,Array.getElem?_append_left (by simpa using hi)];simp[hi,lx]
 ·rw[acU,ac4 (by simp),ada (by simp;omega),adh]
  rfl
 ·rw[acU,ac4 (by simp;omega),ada (by simp;omega),adh]
  rfl
theorem zZ{P:Program}{C:World->Prop}{K:Act->Prop}{a:Act}{o:Oper}(ty:TypeId)(x:Operand)(y:o.op=.load ty x)(b q:Nat)(z:a.eval x=.pointer (some ⟨b,q,none⟩))(s:List Value)(d:TypeDesc)(hc:∀w,C w->w.rangeAt b q s)
  (hu:P.underlying ty=some d) (hd:d.isRow=true) (hi:(P.info? ty).map (·.size)=some s.length) (B:K (a.put o.dst (.agg s.toArray))):o.quiet P a C K:=
 ⟨_,fun w hw=>by
  unfold Oper.quietAt execOp;simp only[y,z,Instr.loadAt,Instr.sureAddr,Sem.run_bind,Sem.run_pure,Result.andThen_ok,adK w b q ty s d (hc w hw) hu hd hi];exact⟨rfl,rfl⟩,B⟩
theorem Dd{P:Program}{q:Func}{a:Nat}{t:TypeId}{tmps:Array Value}{w:World}{p:Addr}{v:Value}(s:q.results=#[ResultVar.cell a t])(y:tmps.getD a undef=.pointer (some p))(z:(loadVar t p).run P w=.ok v w):
  (adY q tmps).run P w=.ok v w:=by
 have b:tmps[a]?.getD undef=.pointer (some p):=by simpa using y
 simp[adY,s,b,asAddr,z]
theorem Head.wC(h:Head):h.cells.toArray.size=2016:=by rw[List.size_toArray,Head.fJ]
theorem ly:(acH.info? 156).map (·.size)=some 2016:=by kernel_rfl
theorem D_(n:Nat)(h:n<256):bits ad4 ac6 (n:Int) 1=((n % 2:Nat):Int):=by
 show ac6.wrap ((acW 8 (n:Int)&&&acW 8 ((1:Nat):Int)).toNat:Int)=_;have e:∀m:Nat,m<256->(acW 8 (m:Int)).toNat=m:=fun m b=>by
  rw[BitVec.toNat_ofInt];omega
 rw[BitVec.toNat_and,e n h,e 1 (by omega),Nat.and_two_pow_sub_one_eq_mod n 1];show((n % 2^1:Nat):Int) % 256=_;omega
def sH(l:List UInt8)(i:Nat):Bool:=(l.getD (i/8) 0).toNat/2^(i % 8) % 2==1
def qk(l:List UInt8)(i:Nat):Head:=⟨fun j=>decide (j<i)&&sH l j,fun _=>0,fun _=>0⟩
theorem De(l:List UInt8)(i:Nat):((qk l i).put i (sH l i)).same (qk l (i+1)):=
 ⟨fun j b=>by
  show(if j=i then sH l i else decide (j<i)&&sH l j)=(decide (j<i+1)&&sH l j);by_cases e:j=i
  ·subst e;rw[if_pos rfl,decide_eq_true (Nat.lt_succ_self j),Bool.true_and]
  ·rw[if_neg e]
   congr 1
   rw[decide_eq_decide];omega,fun _ _=>⟨rfl,rfl⟩⟩
theorem extract_drop(s:ByteArray)(a b:Nat)(q:s.size<=b):(s.extract a b).data.toList=s.data.toList.drop a:=by
 rw[ade,acT];rw[adA,<-size_data];omega
theorem yZ(l:List UInt8)(k i:Nat):eA (l.drop k) i=eA l (k+i):=by
 unfold eA;simp only[acP,List.getElem?_drop];rw[ac1]
def qm(l:List UInt8)(n:Nat):Head:=⟨fun j=>sH l j,fun j=>if j<n then eA l (250+4*j)else 0,fun j=>if j<n then eA l (252+4*j)else 0⟩
theorem Df(l:List UInt8)(n:Nat):((qm l n).dE n (eA l (250+4*n)) (eA l (252+4*n))).same (qm l (n+1)):=
 ⟨fun _ _=>rfl,fun j q=>by
  constructor
  ·show(if j=n then eA l (250+4*n)else if j<n then eA l (250+4*j)else 0)=if j<n+1 then eA l (250+4*j)else 0
   by_cases e:j=n
   ·subst e;rw[if_pos rfl,if_pos (by omega)]
   ·rw[if_neg e];by_cases b:j<n
    ·rw[if_pos b,if_pos (by omega)]
    ·rw[if_neg b,if_neg (by omega)]
  ·show(if j=n then eA l (252+4*n)else if j<n then eA l (252+4*j)else 0)=if j<n+1 then eA l (252+4*j)else 0
   by_cases e:j=n
   ·subst e;rw[if_pos rfl,if_pos (by omega)]
   ·rw[if_neg e];by_cases b:j<n
    ·rw[if_pos b,if_pos (by omega)]
    ·rw[if_neg b,if_neg (by omega)]⟩
theorem Gf(l:List UInt8):((qm l 8).put 0 true).same (mV l):=
 ⟨fun j b=>by
  show(if j=0 then true else sH l j)=(j==0||sH l j);by_cases e:j=0
  ·subst e
   rfl
  ·rw[if_neg e,show(j==0)=false by simpa using e,Bool.false_or],fun j b=>by
  constructor
  ·show(if j<8 then eA l (250+4*j)else 0)=eA l (250+4*j);rw[if_pos b]
  ·show(if j<8 then eA l (252+4*j)else 0)=eA l (252+4*j);rw[if_pos b]⟩
theorem IV(s:ByteArray)(hs:s.size=1024)(w:World):Calls acH 82 #[.string s] w (ar w (.agg (mV s.data.toList).cells.toArray)):=by
 go_enter Tryz.func82,Tryz.ntmps82;go_wp2_with fail
 have z0:aK ((w.alloc (.cells acI 156)).alloc (.cells acI 156)) w.heap.size 0 lx:=(xO w).gr ((Gr.refl _).alloc _);have z1:aK ((w.alloc (.cells acI 156)).alloc (.cells acI 156)) (w.heap.size+1) 0 lx:=by
  have:=xO (w.alloc (.cells acI 156));simpa using this
 have f0:∀j,((w.alloc (.cells acI 156)).alloc (.cells acI 156)).frozen? ⟨w.heap.size,j,none⟩=false:=fun j=>by simp
 have f1:∀j,((w.alloc (.cells acI 156)).alloc (.cells acI 156)).frozen? ⟨w.heap.size+1,j,none⟩=false:=fun j=>by simp
 have a6:Gr w ((w.alloc (.cells acI 156)).alloc (.cells acI 156)):=((Gr.refl w).alloc _).alloc _;generalize((w.alloc (.cells acI 156)).alloc (.cells acI 156))=w0 at*;have HS:=acJ hs;go_loopw [7] (fun z w'=>∃i:Nat,i<=2000/\z=.int .i64 i/\aK w' (w.heap.size+1) 0 (qk s.data.toList i)/\aK w' w.heap.size 0 lx/\(∀j,w'.frozen? ⟨w.heap.size,j,none⟩=false)/\(∀j,w'.frozen? ⟨w.heap.size+1,j,none⟩=false)/\Gr w w') (fun z _=>2000-(intOf z).toNat)
 case atStart=>exact⟨0,adb _,rfl,z1.same ⟨fun j _=>by simp[qk,lx],fun _ _=>⟨rfl,rfl⟩⟩,z0,f0,f1,a6⟩
 case round=>
  obtain⟨i,hi,rfl,ha,B,y,b,J⟩:=hrel;by_cases q:i<2000
  ·have L:=ha.used i q;have c1:=b i;rw[acQ]at L;have hq:i/8<s.size:=by omega
   have O:(bits ad4 ac6 ((s[i/8].toNat:Int)/2^(i % 8)) 1==1)=sH s.data.toList i:=by
    have e0:s[i/8]=s.data.toList.getD (i/8) 0:=by
     rw[eH s (i/8) hq,acP,acX (by rw[<-size_data];exact hq)]
     rfl
    have Q:((s[i/8].toNat:Int)/2^(i % 8))=((s[i/8].toNat/2^(i % 8):Nat):Int):=by push_cast;rfl
    rw[Q,D_ _ (ads (adG _ _) s[i/8].toNat_lt),e0];unfold sH;generalize(s.data.toList.getD (i/8) 0).toNat/2^(i % 8)=x;rcases Nat.mod_two_eq_zero_or_one x with h|h<;>rw[h]<;>rfl
   have HB:=acJ O;clear O;go_wp2_with fail
   refine⟨⟨i+1,by omega,by go_num,?_,B.aC (ag.setCell (S:=fun k=>k=w.heap.size+1) wr _ rfl) (by omega),fun j=>by simpa using y j,fun j=>by simpa using b j,J.setCell (by simp) _⟩,by simp[intOf];omega⟩;rw[HB.out];have:=ha.put q (sH s.data.toList i);rw[acQ]at this;exact this.same (De _ _)
  ·have a7:i=2000:=by omega
   subst a7;go_wp2_with fail
   go_loopw [23] (fun z w'=>∃i:Nat,i<=8/\z=.int .i64 i/\aK w' (w.heap.size+1) 0 (qm s.data.toList i)/\aK w' w.heap.size 0 lx/\(∀j,w'.frozen? ⟨w.heap.size,j,none⟩=false)/\(∀j,w'.frozen? ⟨w.heap.size+1,j,none⟩=false)/\Gr w w') (fun z _=>8-(intOf z).toNat)
   case atStart=>exact⟨0,adb _,rfl,ha.same ⟨fun j hj=>by simp[qk,qm,hj],fun _ _=>by simp[qk,qm]⟩,B,y,b,J⟩
   case round=>
    obtain⟨i,hi,rfl,ha,B,y,b,J⟩:=hrel;by_cases q:i<8
    ·have L:=ha.root i q;have c1:=ha.note i q;have z0:=b (2000+i);have z1:=b (2008+i);rw[acQ]at L c1;have U:(s.extract (250+4*i) 1024).size=774-4*i:=by rw[acS];omega
     have c7:250+4*(i:Int)<=(s.size:Int):=by omega
     go_wp2_with fail
     obtain⟨t,V⟩:∃t,s.extract (250+4*i) 1024=t:=⟨_,rfl⟩;have Q:eA t.data.toList 0=eA s.data.toList (250+4*i):=by
      rw[<-V,extract_drop s _ _ (by omega),yZ,Nat.add_zero]
     have e2:eA (t.extract 2 t.size).data.toList 0=eA s.data.toList (252+4*i):=by
      rw[extract_drop t _ _ (ac2 _),<-V,extract_drop s _ _ (by omega),List.drop_drop,yZ]
      congr 1
      omega
     rw[V]at U⊢;have c8:(2:Int)<=(t.size:Int):=by omega
     have r1:=fun w=>Nc t (by omega) w;rw[Q]at r1;have r2:=fun w=>Nc (t.extract 2 t.size) (by rw[acS];omega) w;rw[e2]at r2;clear U V Q e2;generalize Y:eA s.data.toList (250+4*i)=q0 at r1;generalize Z:eA s.data.toList (252+4*i)=q1 at r2;have a0:=acJ Y;have a1:=acJ Z;clear Y Z;go_region_with(first
      |( go_at_call_of 140 (adV t);refine(r1 _).mono ?_;rintro e w2 ⟨rfl,rfl⟩)
      |( go_at_call 140;refine(r2 _).mono ?_;rintro e w2 ⟨rfl,rfl⟩))
     all_goals
      go_wp2_with fail
      go_roundw
      case rel=>
        refine⟨_,_,_,_,_,_,_,_,_,_,_,_,_,_,_,_,_,_,_,_,_,_,?_,rfl⟩;have g3:∀W:World,Gr W W.drew.drew.drew:=fun W=>(((Gr.refl W).drew).drew).drew;have D:=(ha.lY q q0).lZ q q1;rw[acQ,acQ,Head.OG]at D;have M:=(ag.setCell (S:=fun k=>k=w.heap.size+1) (p:=⟨w.heap.size+1,2000+i,none⟩) wr (.int .i64 q0) rfl).trans (ag.setCell (p:=⟨w.heap.size+1,2008+i,none⟩) _ (.int .i64 q1) rfl);refine⟨i+1,by omega,by go_num,?_,(B.aC M (by omega)).gr (g3 _),fun j=>by simpa using y j,fun j=>by simpa using b j,(M.gr J (fun k hk=>by omega)).trans (g3 _)⟩;rw[<-a0.out,<-a1.out]at D;rw[<-a0.out,<-a1.out];exact(D.same (Df _ _)).gr (g3 _)
      case measure=>
        simp[intOf];omega
    ·have a8:i=8:=by omega
     subst a8;have L:=ha.used 0 (by omega);have z0:=b 0;rw[acQ]at L;have G:=(ha.put (show 0<2000 by omega) true).same (Gf s.data.toList);rw[acQ]at G;have M:=ag.setCell (S:=fun k=>k=w.heap.size+1) (p:=⟨w.heap.size+1,0,none⟩) wr (.bool true) rfl;have H:=B.aC M (by omega);have I:∀j,(wr.setCell ⟨w.heap.size+1,0,none⟩ (.bool true)).frozen? ⟨w.heap.size,j,none⟩=false:=fun j=>by simpa using y j
     have a9:=M.gr J (fun k hk=>by omega);have a2:(wr.setCell ⟨w.heap.size+1,0,none⟩ (.bool true)).there w.heap.size 0 (mV s.data.toList).cells.toArray.size:=by
      rw[Head.wC];exact H.there I
     have b0:=acJ G.range;have b1:=acJ a2;clear a2;have ho:=H.over I (mV s.data.toList);have a3:=(f_ w.heap.size (mV s.data.toList).cells 0 (wr.setCell ⟨w.heap.size+1,0,none⟩ (.bool true))).gr a9 (fun k hk=>by omega);have HO:=acJ ho;have b2:=acJ a3;clear G H ho a3 ha B y b I;go_wp2_with(first
      |( refine wpList_load_mid rfl 156 _ rfl (w.heap.size+1) 0 rfl _ _ b0.out adu rfl (by rw[ly,Head.fJ]) ?_)
      |( refine wpList_store_mid rfl 156 _ _ rfl w.heap.size 0 _ rfl rfl b1.out (by rw[ly,Head.wC]) (all_oneCell_toArray (Head.cells_one _)) ?_))
     refine bodyPost_ret (v:=.agg (mV s.data.toList).cells.toArray) ?_ rfl ⟨rfl,b2.out⟩;have b3:=adK (P:=acH) ((wr.setCell ⟨w.heap.size+1,0,none⟩ (.bool true)).setCells w.heap.size 0 (mV s.data.toList).cells) w.heap.size 0 156 _ _ HO.out.range adu rfl (by rw[ly,Head.fJ]);exact Dd rfl rfl b3
def l_(B b:Nat)(l:List UInt8)(w:World):Prop:=adP 274 5 B b (acY l) w
theorem l_.gr{B b:Nat}{l:List UInt8}{w w':World}(h:l_ B b l w)(g:Gr w w'):l_ B b l w':=by
 rcases h with⟨s,v,q,y,z⟩|⟨s,v,q,y,z⟩
 ·exact .inl ⟨s,v,(g.block _ (acM.1 q).1).trans q,aL y g,z⟩
 ·exact .inr ⟨s,v,(g.block _ (acM.1 q).1).trans q,aL y g,z⟩
theorem Ea:(acH.info? 274).map (·.size)=some 2:=by kernel_rfl
theorem Eb:liesAt acH acH.depth 274 (2/acH.cellsOf 274) 0 274 1=true:=by kernel_rfl
theorem l_.new(w:World):l_ w.heap.size w.heap.size [] (w.alloc (.cells #[.pointer none,.slice none 0 0] 274)):=Lib.fresh_isBuilder _ _ w
theorem wD(B b:Nat)(y:List Value)(w:World)(h:adP 274 5 B b y w):
  Calls acH 247 #[.pointer (some ⟨b,0,none⟩)] w fun e w'=>e=.returned (.tuple #[])/\adp 274 5 B b (.pointer (some ⟨b,0,none⟩)) y w'/\Below B w w':=by
 obtain⟨j,q,s⟩:=Option.map_eq_some_iff.1 Ea;rcases h with h|h
 ·have z:=h.cell0;have hf:=h.frozen0;have hu:=Lib.run_to_unsafe (P:=acH) (w:=w) ⟨b,0,none⟩ ac8 adv q (by rw[s];decide) h.shape (Nat.zero_lt_succ 1);have hv:=Lib.run_from_unsafe (P:=acH) (w:=w) ⟨b,0,none⟩ adv ac8 q h.shape Eb;have H:=acJ h;clear h;go_enter adZ,adQ;go_wp2_with fail
  rw[run_callFunc_extern Tryz.func286 (by kernel_rfl) (by kernel_rfl) (by kernel_rfl) (e:=adR) (by kernel_rfl),Lib.run_noEscape];simp only[Result.andThen];rw[Oper.upon_value];go_wp2_with fail
  refine bodyPost_end (v:=.tuple #[]) (by simp[adY,adL,go_sem]) rfl ?_;exact⟨rfl,H.out.used _,(ad2 B w).setCell (p:=⟨b,0,none⟩) H.out.1 _⟩
 ·have z:=h.cell0;have hn:=Lib.run_neq_ptr_same (P:=acH) (w:=w) ⟨b,0,none⟩ ac8 q;have H:=acJ h;clear h;go_enter adZ,adQ;go_wp2_with fail
  refine bodyPost_end (v:=.tuple #[]) (by simp[adY,adL,go_sem]) rfl ?_;exact⟨rfl,H.out,ad2 B _⟩
theorem tQ:(acH.info? 5).map (fun i=>(i.zero,i.size,i.bytes))=some (some (.int .u8 0),1,1):=by kernel_rfl
theorem Ao:(274:TypeId)≠5:=by decide
theorem wE{w s:World}{b:Nat}{o:Obj}{row:Option Nat}{v:Value}(y:w.heap[b]?=some o)(z:w.grownBy s row)(B:row=v.ownBlock)(q:v.ownBlock≠some b):s.heap[b]?=some o:=by
 rw[z.block b (acM.1 y).1 (fun e=>q (by rw[<-B,<-e]))];exact y
theorem nZ(B b:Nat)(l:List UInt8)(s:ByteArray)(w:World)(h:l_ B b l w)(hl:l.length+s.size<=1000000)(hB:B<=w.heap.size):
  Calls acH 195 #[.pointer (some ⟨b,0,none⟩),.string s] w fun e w'=>e=.returned (.tuple #[.int .i64 s.size,.nilIface])/\l_ B b (l++s.data.toList) w'/\Below B w w':=by
 obtain⟨i0,hi,S,U,V⟩:=adr tQ;have H:=acJ h;clear h;go_enter Tryz.func195,Tryz.ntmps195;go_wp2_with fail
 refine(wD B b _ w H.out).mono ?_;rintro e Z ⟨rfl,h1,L⟩;have H1:=acJ h1;obtain⟨M,v,G,D,Y⟩:=h1;have a3:(acY l).length=l.length:=acO l;have c0:Z.cell? ⟨b,0,none⟩=some (.pointer (some ⟨b,0,none⟩)):=by rw[acN G];rfl
 have c1:Z.cell? ⟨b,1,none⟩=some v:=by rw[acN G];rfl
 have a8:=L.size;go_wp2_with(at_builtin;refine Lib.wpList_append_own_string _ rfl _ _ 188 9 rfl B 5 i0 ac7 ac0 hi S U V _ _ _ rfl D s rfl (by unfold maxLen;omega) (by omega) (by omega) ?_)
 intro Q O q y _;have z:=wE G y rfl Y;have d0:O.cell? ⟨b,0,none⟩=some (.pointer (some ⟨b,0,none⟩)):=by rw[acN z];rfl
 have d1:O.cell? ⟨b,1,none⟩=some v:=by rw[acN z];rfl
 have f1:O.frozen? ⟨b,1,none⟩=false:=adw z 1;have I:adp 274 5 B b (.pointer (some ⟨b,0,none⟩)) (acY (l++s.data.toList)) (O.setCell ⟨b,1,none⟩ Q):=by
  refine adz M z ?_ Ao;rw[adn,acK,acO s.data.toList,acO l,<-size_data];exact q
 have J:=(L.grown y (by omega) (fun k hk=>(D.lt k hk).1)).setCell (p:=⟨b,1,none⟩) M Q;have HP:=acJ I;have HB:=acJ J;clear I J;obtain⟨ao,n',cap,rfl⟩:∃ao n' cap,Q=.slice ao n' cap:=by
  rcases q.2 with⟨hv,_⟩|⟨g,cap,a9,hv,_⟩
  ·exact⟨_,_,_,hv⟩
  ·exact⟨_,_,_,hv⟩
 clear D q y z G;go_wp2_with fail
 go_ret2;exact⟨rfl,.inr HP.out,HB.out⟩
theorem Gg(B b:Nat)(l:List UInt8)(c:UInt8)(w:World)(h:l_ B b l w)(hl:l.length+1<=1000000)(hB:B<=w.heap.size):
  Calls acH 244 #[.pointer (some ⟨b,0,none⟩),.int .u8 (c.toNat:Int)] w fun e w'=>e=.returned .nilIface/\l_ B b (l++[c]) w'/\Below B w w':=by
 obtain⟨i0,hi,Y,Z,a0⟩:=adr tQ;have H:=acJ h;clear h;generalize hq:((c.toNat:Nat):Int)=q;have HQ:=acJ hq;clear hq;go_enter Tryz.func244,Tryz.ntmps244;go_wp2_with fail
 refine(wD B b _ w H.out).mono ?_;rintro e I ⟨rfl,h1,M⟩;have H1:=acJ h1;obtain⟨O,v,z,G,a1⟩:=h1;have a6:(acY l).length=l.length:=acO l;have c0:I.cell? ⟨b,0,none⟩=some (.pointer (some ⟨b,0,none⟩)):=by rw[acN z];rfl
 have c1:I.cell? ⟨b,1,none⟩=some v:=by rw[acN z];rfl
 have b1:=M.size;have U:∀j u,([ado .u8 q])[j]?=some u->(I.alloc (.cells #[.int .u8 q] 5)).cell? ((⟨I.heap.size,0,none⟩:Addr).add j)=some u:=by
  intro j u Q
  match j,Q with
  |0,Q=>simp at Q;subst Q;simp[Addr.add]
 go_wp2_with(at_builtin;refine wpList_append_own _ rfl _ _ 188 rfl B 5 i0 (.int .u8 0) 1 1 ac7 hi Y Z a0 rfl (by decide) _ _ _ rfl (G.alloc _) ⟨I.heap.size,0,none⟩ 1 1 [.int .u8 q] rfl rfl U (by intro u hu;simp at hu;subst hu;rfl) (by unfold maxLen;omega) (by omega) (by simp;omega) ?_)
 intro V S s y _;have D:=wE (v:=v) ((Below.heap_alloc I (.cells #[.int .u8 q] 5) b (acM.1 z).1).trans z) y rfl a1;have d0:S.cell? ⟨b,0,none⟩=some (.pointer (some ⟨b,0,none⟩)):=by rw[acN D];rfl
 have d1:S.cell? ⟨b,1,none⟩=some v:=by rw[acN D];rfl
 have f1:S.frozen? ⟨b,1,none⟩=false:=adw D 1;have J:adp 274 5 B b (.pointer (some ⟨b,0,none⟩)) (acY (l++[c])) (S.setCell ⟨b,1,none⟩ V):=by
  refine adz O D ?_ Ao;rw[adn,acK,acO [c]];have e:acY [c]=[.int .u8 q]:=by
   rw[<-HQ.out]
   rfl
  rw[e,acO l];exact s
 have L:=((M.alloc (by omega) (.cells #[.int .u8 q] 5)).grown y (by simp;omega) (fun k hk=>(G.lt k hk).1)).setCell (p:=⟨b,1,none⟩) O V;have HP:=acJ J;have HB:=acJ L;clear J L;obtain⟨ao,n',cap,rfl⟩:∃ao n' cap,V=.slice ao n' cap:=by
  rcases s.2 with⟨hv,_⟩|⟨g,cap,b2,hv,_⟩
  ·exact⟨_,_,_,hv⟩
  ·exact⟨_,_,_,hv⟩
 clear G s y D z;go_wp2_with fail
 go_ret;exact⟨rfl,.inr HP.out,HB.out⟩
