/-
  Part 7 of the proof.
-/
import Derived.Test.YtldmhjbdahjhdaaGreatDoorZb6
import Derived.Test.YtldmhjbdahjhdaaGreatDoorZb4
open Go.World renaming cell?_setCell_other->ahO,cell?_alloc_new->ahP,cell?_setCell_same->ahQ,frozen?_of_block->ahU,frozen?_setCell->ahV
open Go.Lib renaming hid->ahR
open List renaming length_append->ahS,take_succ_eq_append_getElem->ahW,length_take->ahX,take_length->ah1,length_singleton->ah5,getElem_mem->ah8,length_cons->ah9,length_nil->ah_,drop_left->aib,replicate->aic
open Go.Proofs.Tryz renaming prog->ahT,results120->aia,ntmps120->aid,func120->aif
open Array renaming getElem?_eq_some_iff->ahY,toList_extract->ah6
open Go.Value renaming ownBlock->ahZ
open Nat renaming add_sub_cancel_left->ah0,zero_add->aie,le_of_eq->aih,zero_le->aii,le_refl->aij
open ByteArray renaming data_extract->ah2
open Go.RowKit renaming intOf->ah3
open Option.some renaming inj->ah4
open Go.RowKit.Below renaming heap_alloc->ah7
open Go.World.ownsRow renaming cells->aik
open Go.Maps renaming size->ail
set_option maxRecDepth 100000
set_option maxHeartbeats 100000000
set_option linter.all false
namespace Go.Proofs.YtldmhjbdahjhdaaGreatDoor
section
open Go Go.RowKit
def GI(v b:Value)(w w':World):Prop:=w.heap.size<=w'.heap.size/\∀k,k<w.heap.size->v.ownBlock≠some k->b.ownBlock≠some k/\w'.heap[k]?=w.heap[k]?
theorem GI.keeps{v b:Value}{w w':World}(h:GI v b w w'){k o:Nat}{u:Value}(hv:v.ownBlock≠some k)(hc:w.cell? ⟨k,o,none⟩=some u):w'.cell? ⟨k,o,none⟩=some u:=
 (World.cell?_of_block (h.2 k (ad hc) hv).2).trans hc
theorem zg{a0 w:World}{D:Array Oper}{rest:List Oper}{o:Oper}{a:Act}{Q:Exit->Act->World->Prop}(J:o.guard=none)(s x:Operand)
  (U:o.op=.call {callee:=.builtin .append,args:=#[s,x],argTypes:=#[198,198]}) (v:Value) (us:List En) (e:En) (hs:a.eval s=v) (b:aT a0 w v us) (B:Nat) (V:w.heap.size=B) (Y:a.eval x=.slice (some ⟨B,0,none⟩) 1 1) (hl:us.length<=100000) (S:Gr a0 w)
  (h:∀q w',aT a0 w' q (us++[e])->Gr a0 w'->GI v q w w'->wpList ahT D Q rest (a.put o.dst q) w'):wpList ahT D Q (o::rest) a (w.alloc (.cells #[.string e.key,.string e.item,.int .i64 (e.b_:Int)] 206)):=by
 obtain⟨Z,H,L,M,O⟩:=gi;subst V;refine wpList_append_own_at _ J s x 198 U a0.heap.size 206 Z (.agg #[.string ⟨#[]⟩,.string ⟨#[]⟩,.int .i64 0]) 3 40 Tryz.underlying198 H L M O rfl (by decide) v us.length (ax us) hs (b.alloc _) ⟨w.heap.size,0,none⟩ 1 1 e.cells Y rfl ?_ e.cells_one (by unfold maxLen;omega) (by omega) (by have:=S.size;simp;omega)
  (fun q w' h1 I _ y=>h q w' (Lv h1) (iM (S.alloc _) I (aP b)) ⟨by have:=I.size;simp at this;omega,fun k hk G=>⟨fun z=>by
   rcases y with y|y
   ·exact G (y.symm.trans z)
   ·rw[y]at z;have:=ah4 z;simp at this;omega,(I.block k (by simp;omega) (fun z=>G z.symm)).trans (ah7 _ _ _ hk)⟩⟩)
 intro j u hj;rw[lB,ahP,aie];simpa[En.cells]using hj
theorem ya(s:ByteArray)(a b c:List UInt8)(h:s.data.toList=a++(b++c)):s.extract a.length (a.length+b.length)=⟨b.toArray⟩:=by
 apply bz;rw[ah2,ah6,h];show((a++(b++c)).drop a.length).take (a.length+b.length-a.length)=b;rw[aib,ah0,List.take_left]
theorem yb(s:ByteArray)(a c:List UInt8)(h:s.data.toList=a++c):s.extract a.length s.size=⟨c.toArray⟩:=by
 apply bz;rw[ah2,ah6,h];have hs:s.size=a.length+c.length:=by rw[size_data,h,ahS]
 show((a++c).drop a.length).take (s.size-a.length)=c;rw[aib,hs,ah0,ah1]
theorem get_at(s:ByteArray)(j:Nat)(b:j<s.size)(l:List UInt8)(h:s.data.toList=l)(q:j<l.length):s[j]=l[j]:=by
 rw[eH s j b];subst h
 rfl
def jH(leaf:Bool)(l:List En)(i:Nat):ByteArray:=⟨(ed leaf (l.drop i)++aic (1024-ah leaf l) 0).toArray⟩
theorem pq(leaf:Bool)(l:List En)(i:Nat):(jH leaf l i).data.toList=ed leaf (l.drop i)++aic (1024-ah leaf l) 0:=by
 unfold jH;simp
theorem zh(leaf:Bool)(l:List En)(i:Nat)(h:i<l.length):(jH leaf l i).data.toList=(l[i]).xS leaf++(jH leaf l (i+1)).data.toList:=by
 rw[pq,pq,<-List.append_assoc]
 congr 1
 unfold ed;rw[List.drop_eq_getElem_cons h,List.flatMap_cons]
theorem zi(leaf:Bool)(l:List En)(i:Nat)(b:∀e∈l,e.ok leaf)(s:ah leaf l<=1024):(jH leaf l i).size<=1021:=by
 rw[size_data,pq,ahS,j_ (fun e q=>b e (List.mem_of_mem_drop q)),List.length_replicate];have:=Eu (leaf:=leaf) (List.drop_sublist i l);unfold ah at*;omega
theorem tT(s:ByteArray):(⟨s.data.toList.toArray⟩:ByteArray)=s:=bz (by simp)
structure bc(w:World)(TP PB root:Nat):Prop where
 p:w.cell? ⟨TP,0,none⟩=some (.pointer (some ⟨PB,0,none⟩))
 r:w.cell? ⟨TP,1,none⟩=some (.int .i64 (root:Int))
theorem bc.gr{w w':World}{TP PB root:Nat}(h:bc w TP PB root)(g:Gr w w'):bc w' TP PB root:=⟨g.keeps h.p,g.keeps h.r⟩
theorem bc.pg{w w':World}{TP PB DB M y root:Nat}(h:bc w TP PB root)(g:aM PB DB M y w w')(b:TP≠PB)(q:TP≠DB)(s:TP≠M):bc w' TP PB root:=⟨g.keeps b q s h.p,g.keeps b q s h.r⟩
end
section
open Go Go.RowKit Go.Lib
abbrev cM:Type:=ByteArray×ByteArray
def pr(x:cM):List Value:=[.string x.1,.string x.2]
def jw(l:List cM):List Value:=l.flatMap pr
def fS(n:Nat)(w:World)(v:Value)(l:List cM):Prop:=w.ownsRow n 140 2 v l.length (jw l)
theorem fS.row{n:Nat}{w:World}{v:Value}{l:List cM}(h:fS n w v l):w.ownsRow n 140 2 v l.length (jw l):=h
theorem LF:(ahT.info? 140).map (fun i=>(i.zero,i.size,i.bytes))=some (some (.agg #[.string ⟨#[]⟩,.string ⟨#[]⟩]),2,32):=by kernel_rfl
theorem yc:∃b,ahT.info? 140=some b/\b.zero=some (.agg #[.string ⟨#[]⟩,.string ⟨#[]⟩])/\b.size=2/\b.bytes=32:=by
 have h:=LF;cases q:ahT.info? 140 with
 |none=>rw[q]at h;cases h
 |some b=>
  rw[q]at h;have h:=ah4 h;simp only[Prod.mk.injEq]at h;exact⟨b,rfl,h.1,h.2.1,h.2.2⟩
theorem Bx(a b:List cM):jw (a++b)=jw a++jw b:=by
 unfold jw;rw[List.flatMap_append]
theorem zj:∀(l:List cM) (i:Nat) (h:i<l.length),(jw l)[i*2]?=some (.string l[i].1)/\(jw l)[i*2+1]?=some (.string l[i].2)
 |e::l,0,_=>⟨rfl,rfl⟩
 |e::l,i+1,h=>by
  obtain⟨b,q⟩:=zj l i (by simpa using h);have s:jw (e::l)=.string e.1::.string e.2::jw l:=rfl;rw[s,show(i+1)*2=i*2+1+1 by omega];simp only[List.getElem?_cons_succ,List.getElem_cons_succ,b,q,and_self]
theorem fS.at'{n:Nat}{w:World}{v:Value}{l:List cM}(h:fS n w v l):(v=.slice none 0 0/\l=[])\/∃B cap,v=.slice (some ⟨B,0,none⟩) l.length cap/\l.length<=cap/\n<=B/\B<w.heap.size/\(∀i (h:i<l.length),w.cell? ⟨B,i*2,none⟩=some (.string l[i].1)/\w.cell? ⟨B,i*2+1,none⟩=some (.string l[i].2))/\∀o,w.frozen? ⟨B,o,none⟩=false:=by
 have hc:=fun g b=>aik (g:=g) h.row b;rcases h.row.2 with⟨rfl,D⟩|⟨g,cap,H,rfl,G,s,q,_⟩
 ·exact .inl ⟨rfl,List.eq_nil_of_length_eq_zero D⟩
 ·refine .inr ⟨g,cap,rfl,q,G,(ahY.1 s).1,fun i hi=>?_,fun o=>Lib.frozen_of_heap s _⟩;have b:=zj l i hi;have y:=hc g rfl _ _ b.1;have z:=hc g rfl _ _ b.2;have e:∀j,(⟨g,0,none⟩:Addr).add j=⟨g,j,none⟩:=by
   intro j;unfold Addr.add;split<;>simp_all
  rw[e]at y z;exact⟨y,z⟩
theorem fS.form{n:Nat}{w:World}{v:Value}{l:List cM}(h:fS n w v l):∃b c,v=.slice b l.length c:=by
 rcases h.at' with⟨rfl,rfl⟩|⟨B,cap,rfl,_⟩
 ·exact⟨none,0,rfl⟩
 ·exact⟨_,cap,rfl⟩
theorem fS.gr{n:Nat}{w w':World}{v:Value}{l:List cM}(h:fS n w v l)(g:Gr w w'):fS n w' v l:=aL h g
theorem fS.nil(n:Nat)(w:World):fS n w (.slice none 0 0) []:=World.ownsRow_nil _ _ _ _
theorem fS.aC{S:Nat->Prop}{n:Nat}{w w':World}{v:Value}{l:List cM}(h:fS n w v l)(g:ag S w w')(hs:∀b,v.ownBlock=some b->¬S b):fS n w' v l:=by
 refine⟨h.row.1,?_⟩;rcases h.row.2 with q|⟨g',cap,s,q,z,y,B⟩
 ·exact .inl q
 ·exact .inr ⟨g',cap,s,q,z,(g.block (ahY.1 y).1 (hs g' (by rw[q];rfl))).trans y,B⟩
theorem wO{n:Nat}{w:World}{v:Value}{l:List cM}(h:fS n w v l):∀b,v.ownBlock=some b->n<=b:=aP h
theorem Jb{n:Nat}{w:World}{v:Value}{l:List cM}(h:fS n w v l):∀b,v.ownBlock=some b->b<w.heap.size:=ba h
theorem Jc(x:cM):∀u∈pr x,u.oneCell'=true:=by
 intro u hu;unfold pr at hu;simp only[List.mem_cons,List.not_mem_nil,or_false]at hu;rcases hu with h|h<;>(rw[h];rfl)
theorem GJ{n:Nat}{w:World}{D:Array Oper}{rest:List Oper}{o:Oper}{a:Act}{Q:Exit->Act->World->Prop}(I:o.guard=none)(s x:Operand)
  (O:o.op=.call {callee:=.builtin .append,args:=#[s,x],argTypes:=#[134,134]}) (v:Value) (us:List cM) (e:cM) (hs:a.eval s=v) (G:fS n w v us) (B:Nat) (S:w.heap.size=B) (U:a.eval x=.slice (some ⟨B,0,none⟩) 1 1) (hl:us.length<=100000000) (hn:n<=w.heap.size)
  (h:∀q w',fS n w' q (us++[e])->ag (fun b=>v.ownBlock=some b) w w'->(q.ownBlock=v.ownBlock\/∃b,q.ownBlock=some b/\w.heap.size<=b)->wpList ahT D Q rest (a.put o.dst q) w'):wpList ahT D Q (o::rest) a (w.alloc (.cells #[.string e.1,.string e.2] 140)):=by
 obtain⟨V,H,J,L,M⟩:=yc;subst S;refine wpList_append_own_at _ I s x 134 O n 140 V (.agg #[.string ⟨#[]⟩,.string ⟨#[]⟩]) 2 32 Tryz.underlying134 H J L M rfl (by decide) v us.length (jw us) hs (G.gr ((Gr.refl w).alloc _)) ⟨w.heap.size,0,none⟩ 1 1 (pr e) U rfl ?_ (Jc e) (by unfold maxLen;omega) (by omega) (by simp;omega)
  (fun q w' Y y _ z=>h q w' ?_ ⟨y.os,y.tape,y.output,by have:=y.size;simp at this;omega,fun k Z hs=>(y.block k (by simp;omega) (fun e=>hs e.symm)).trans (ah7 _ _ _ Z)⟩ ?_)
 ·intro j u hj;rw[lB,ahP,aie];simpa[pr]using hj
 ·unfold fS;rw[ahS,Bx];have:jw [e]=pr e:=by unfold jw;simp
  rw[this];exact Y
 ·rcases z with z|z
  ·exact .inl z
  ·refine .inr ⟨_,z,?_⟩;simp
end
section
open Go Go.RowKit
section
variable{w:World}{PB DB M n:Nat}{c:Ch}{sv:Head}{t:Int}{d:Dk}
theorem LG(h:mK w PB DB M n c sv t d){leaf:Bool}{p:Nat}{l:List En}(b:gO c d.pg leaf p l):
  Calls ahT 170 #[.pointer (some ⟨PB,0,none⟩),.int .i64 (p:Int)] w (ar w (.tuple #[.string (au leaf l),.nilIface])):=by
 have q:=Tk h (p:Int);have hu:d_ c.h (p:Int)=true:=gJ.2 ⟨p,rfl,b.1.1,b.1.2.1,b.1.2.2⟩;rw[hu,if_pos rfl,Int.toNat_natCast,b.2]at q;exact q
theorem lQ(h:mK w PB DB M n c sv t d){TP root:Nat}(ht:bc w TP PB root){leaf:Bool}{p:Nat}{l:List En}(hp:gO c d.pg leaf p l)(d6:∀e∈l,e.ok leaf)(hb:ah leaf l<=1024):
  Calls ahT 120 #[.pointer (some ⟨TP,0,none⟩),.int .i64 (p:Int)] w fun e w'=>∃s',e=.returned (.tuple #[aU p leaf s',.nilIface])/\aT w w' s' l/\Gr w w':=by
 have h6:Gr w (w.alloc (.cells #[.int .i64 0,.bool false,.slice none 0 0] 200)):=(Gr.refl w).alloc _;have l8:=LG (h.gr h6) hp;have tp:=(ht.gr h6).p;have r9:=dA d6 hb;have s3:=dC leaf l;have hl:l.length<=600:=by unfold ah at hb;omega
 have hd:(au leaf l).data.toList=mJ leaf::(fC (l.length:Int)++(jH leaf l 0).data.toList):=by
  rw[pq];unfold au Ee mJ;simp
 rw[tR _ (by omega)]at hd;have z0:0<(au leaf l).size:=by omega
 have z1:1<(au leaf l).size:=by omega
 have z2:2<(au leaf l).size:=by omega
 have g0:(au leaf l)[0]=mJ leaf:=get_at _ 0 z0 _ hd (by simp);have g1:(au leaf l)[1]=(l.length/256).toUInt8:=get_at _ 1 z1 _ hd (by simp);have g2:(au leaf l)[2]=l.length.toUInt8:=get_at _ 2 z2 _ hd (by simp);have gx:(au leaf l).extract 3 (au leaf l).size=jH leaf l 0:=by
  have:=yb (au leaf l) [mJ leaf,(l.length/256).toUInt8,l.length.toUInt8] (jH leaf l 0).data.toList hd;rw[tT]at this;exact this
 rw[r9]at gx;have ho:=vn (l.length/256).toUInt8.toNat l.length.toUInt8.toNat (l.length/256).toUInt8.toNat_lt l.length.toUInt8.toNat_lt;have hm:256*(((l.length/256).toUInt8.toNat:Nat):Int)+((l.length.toUInt8.toNat:Nat):Int)=(l.length:Int):=by
  rw[om,om];omega
 rw[hm]at ho;have HM:=ahR hm;clear hm hd s3;generalize(l.length/256).toUInt8=q1 at*;generalize l.length.toUInt8=q2 at*;generalize au leaf l=S at*;have i2:wrap64 ((q1.toNat:Int)*256)=(q1.toNat:Int)*256:=by
  have:=q1.toNat_lt;unfold wrap64;omega
 have i3:wrap64 (q1.toNat:Int)=(q1.toNat:Int):=by
  have:=q1.toNat_lt;unfold wrap64;omega
 have i4:wrap64 (q2.toNat:Int)=(q2.toNat:Int):=by
  have:=q2.toNat_lt;unfold wrap64;omega
 have l9:=ahR l8;have m0:=ahR h6;clear l8 h ht hp h6;cases leaf with
 |true=>
  have gk:(mJ true).toNat=1:=rfl;generalize mJ true=q0 at*;go_enter aif,aid;go_wp2_with fail
  refine l9.out.mono ?_;rintro e H ⟨rfl,b2⟩;have hR:∀w',Gr (w.alloc (.cells #[.int .i64 0,.bool false,.slice none 0 0] 200)) w'->(w'.cell? ⟨w.heap.size,0,none⟩=some (.int .i64 0)/\w'.cell? ⟨w.heap.size,1,none⟩=some (.bool false)/\w'.cell? ⟨w.heap.size,2,none⟩=some (.slice none 0 0))/\∀o,w'.frozen? ⟨w.heap.size,o,none⟩=false:=fun w' g=>
   ⟨⟨g.keeps (by rw[ahP];rfl),g.keeps (by rw[ahP];rfl),g.keeps (by rw[ahP];rfl)⟩,fun o=>(g.frozen o (by simp)).trans (by simp)⟩
  have c5:Gr H (H.alloc (.cells #[.int .i64 (p:Int),.bool true,.slice none 0 0] 200)):=(Gr.refl H).alloc _;have c6:=hR _ (b2.trans c5);have k0:(H.alloc (.cells #[.int .i64 (p:Int),.bool true,.slice none 0 0] 200)).cell? ⟨H.heap.size,0,none⟩=some (.int .i64 (p:Int)):=by rw[ahP];rfl
  have k1:(H.alloc (.cells #[.int .i64 (p:Int),.bool true,.slice none 0 0] 200)).cell? ⟨H.heap.size,1,none⟩=some (.bool true):=by rw[ahP];rfl
  have k2:(H.alloc (.cells #[.int .i64 (p:Int),.bool true,.slice none 0 0] 200)).cell? ⟨H.heap.size,2,none⟩=some (.slice none 0 0):=by rw[ahP];rfl
  have kf:∀o,(H.alloc (.cells #[.int .i64 (p:Int),.bool true,.slice none 0 0] 200)).frozen? ⟨H.heap.size,o,none⟩=false:=fun o=>by simp
  have a9:H.heap.size<(H.alloc (.cells #[.int .i64 (p:Int),.bool true,.slice none 0 0] 200)).heap.size:=by simp
  have d8:=(m0.out.trans b2).trans c5;have c7:w.heap.size<H.heap.size:=by have:=b2.size;simp at this;omega
  clear hR b2 c5;go_wp2_with fail
  go_region
  go_wp2_with fail
  obtain⟨s,d9⟩:∃s,H.heap.size=s:=⟨_,rfl⟩;obtain⟨q,c8⟩:∃q,w.heap.size=q:=⟨_,rfl⟩;have HS:Hid (w.heap.size=q):=ahR c8;rw[d9]at k0 k1 k2 kf a9 c7⊢;rw[c8]at c6 c7⊢;generalize H.alloc (.cells #[.int .i64 (p:Int),.bool true,.slice none 0 0] 200)=W0 at*;have HI:Hid ((W0.cell? ⟨s,0,none⟩=some (.int .i64 (p:Int))/\W0.cell? ⟨s,1,none⟩=some (.bool true)/\W0.cell? ⟨s,2,none⟩=some (.slice none 0 0)/\∀o,W0.frozen? ⟨s,o,none⟩=false)/\((W0.cell? ⟨q,0,none⟩=some (.int .i64 0)/\W0.cell? ⟨q,1,none⟩=some (.bool false)/\W0.cell? ⟨q,2,none⟩=some (.slice none 0 0))/\∀o,W0.frozen? ⟨q,o,none⟩=false)/\s<W0.heap.size/\Gr w W0):=ahR ⟨⟨k0,k1,k2,kf⟩,c6,a9,d8⟩;clear k0 k1 k2 kf c6 a9 d8 d9 c8 g0 g1 g2 ho i2 i3 i4 gk z0 z1 z2;go_loopw [6,42] (fun sv iv w'=>∃(i:Nat) (v:Value),i<=l.length/\iv=.int .i64 i/\sv=.string (jH true l i)/\(w'.cell? ⟨s,0,none⟩=some (.int .i64 (p:Int))/\w'.cell? ⟨s,1,none⟩=some (.bool true)/\w'.cell? ⟨s,2,none⟩=some v/\∀o,w'.frozen? ⟨s,o,none⟩=false)/\((w'.cell? ⟨q,0,none⟩=some (.int .i64 0)/\w'.cell? ⟨q,1,none⟩=some (.bool false)/\w'.cell? ⟨q,2,none⟩=some (.slice none 0 0))/\∀o,w'.frozen? ⟨q,o,none⟩=false)/\s<w'.heap.size/\Gr w w'/\aT w w' v (l.take i)/\v.ownBlock≠some s/\v.ownBlock≠some q) (fun _ iv _=>l.length-(ah3 iv).toNat)
  case atStart=>
   obtain⟨h1,h2,h3,h4⟩:=HI.out;exact⟨0,.slice none 0 0,aii _,rfl,by first|rfl|rw[gx],h1,h2,h3,h4.drew,aT.nil _ _,by simp[ahZ],by simp[ahZ]⟩
  case round=>
   obtain⟨i,v,hi,rfl,rfl,⟨k0,k1,k2,kf⟩,⟨⟨r0,r1,r2⟩,rf⟩,i5,hg,ho,e3,e4⟩:=hrel;have HO:=ahR ho;have HG:=ahR hg;have V:=ahR e3;have Y:=ahR e4;have s4:q<s:=c7;clear ho hg e3 e4;by_cases c9:i<l.length
   ·have s5:(i:Int)<(l.length:Int):=by omega
    have L:=zh true l i c9;have e6:=zi true l i d6 hb;have i6:Hid (l.take (i+1)=l.take i++[l[i]]):=ahR (ahW c9);have Z:=d6 _ (ah8 c9);have i7:(l.take i).length<=100000:=by rw[ahX];omega
    generalize l[i]=en at*;obtain⟨G,it,z⟩:=en;generalize jH true l i=T0 at*;generalize e7:jH true l (i+1)=T1 at*;have i9:=ahR e7;clear e7;obtain⟨I,b3⟩:∃I,G.size=I:=⟨_,rfl⟩;obtain⟨iz,h7⟩:∃iz,it.size=iz:=⟨_,rfl⟩;have m4:I<=60:=by rw[<-b3];exact Z.key
    have t6:iz<=100:=by rw[<-h7];exact Z.item
    have s6:z=0:=Z.Uz rfl;have e1:En.xS ⟨G,it,z⟩ true=[I.toUInt8,iz.toUInt8]++(G.data.toList++it.data.toList):=by rw[<-b3,<-h7];rfl
    have b1:G.data.toList.length=I:=by rw[<-size_data,b3]
    have d5:it.data.toList.length=iz:=by rw[<-size_data,h7]
    rw[e1]at L;have e8:T0.size=2+I+iz+T1.size:=by
     rw[size_data,L];simp only[ahS,ah9,ah_,b1,d5,<-size_data];omega
    have y0:0<T0.size:=by omega
    have y1:1<T0.size:=by omega
    have t0:T0[0]=I.toUInt8:=get_at _ 0 y0 _ L (by simp);have t1:T0[1]=iz.toUInt8:=get_at _ 1 y1 _ L (by simp);have f1:T0.extract 2 (2+I)=G:=by
     have:=ya T0 [I.toUInt8,iz.toUInt8] G.data.toList (it.data.toList++T1.data.toList) (by rw[L];simp);rw[b1,tT]at this;exact this
    have f2:T0.extract (2+I) (2+I+iz)=it:=by
     have:=ya T0 ([I.toUInt8,iz.toUInt8]++G.data.toList) it.data.toList T1.data.toList (by rw[L];simp);rw[ahS,b1,d5,tT]at this;exact this
    have f3:T0.extract (2+I+iz) T0.size=T1:=by
     have:=yb T0 ([I.toUInt8,iz.toUInt8]++(G.data.toList++it.data.toList)) T1.data.toList L;rw[ahS,ahS,b1,d5,tT]at this;rw[show 2+I+iz=[I.toUInt8,iz.toUInt8].length+(I+iz)by simp;omega];exact this
    have s7:(I.toUInt8).toNat=I:=by simp;omega
    have v4:(iz.toUInt8).toNat=iz:=by simp;omega
    generalize I.toUInt8=q1 at*;generalize iz.toUInt8=q2 at*;rw[e8]at f3 e6;obtain⟨d0,c4⟩:∃d0,T1.size=d0:=⟨_,rfl⟩;rw[c4]at f3 e6 e8;clear c4;clear L e1 b1 d5 b3 h7 Z;have e9:Gr wr (wr.alloc (.cells #[.string ⟨#[]⟩,.string ⟨#[]⟩,.int .i64 0] 206)):=(Gr.refl wr).alloc _;have e0:(wr.alloc (.cells #[.string ⟨#[]⟩,.string ⟨#[]⟩,.int .i64 0] 206)).cell? ⟨wr.heap.size,0,none⟩=some (.string ⟨#[]⟩):=by rw[ahP];rfl
    have e1:(wr.alloc (.cells #[.string ⟨#[]⟩,.string ⟨#[]⟩,.int .i64 0] 206)).cell? ⟨wr.heap.size,1,none⟩=some (.string ⟨#[]⟩):=by rw[ahP];rfl
    have e2:(wr.alloc (.cells #[.string ⟨#[]⟩,.string ⟨#[]⟩,.int .i64 0] 206)).cell? ⟨wr.heap.size,2,none⟩=some (.int .i64 0):=by rw[ahP];rfl
    have ef:∀o,(wr.alloc (.cells #[.string ⟨#[]⟩,.string ⟨#[]⟩,.int .i64 0] 206)).frozen? ⟨wr.heap.size,o,none⟩=false:=fun o=>by simp
    have m1:=e9.keeps k1;clear e9;go_wp2_with fail
    generalize g3:wr.alloc (.cells #[.string ⟨#[]⟩,.string ⟨#[]⟩,.int .i64 0] 206)=U at*;have a5:=ahR g3;clear g3;go_region
    have j0:=ahR f3;have g4:(l.take i++[(⟨G,it,0⟩:En)]).length=i+1:=by rw[ahS,ahX,ah5];omega
    have j1:=ahR g4;clear g4;obtain⟨y,g5⟩:∃y,wr.heap.size=y:=⟨_,rfl⟩;have b4:y≠s:=by omega
    have b5:y≠q:=by omega
    have J:ag (fun b=>b=y) wr (((U.setCell ⟨y,0,none⟩ (.string G)).setCell ⟨y,1,none⟩ (.string it)).drew):=by
     have a1:ag (fun b=>b=y) wr U:=by rw[<-a5.out];exact ag.ak ((Gr.refl wr).alloc _)
     exact((a1.trans (ag.setCell (S:=fun b=>b=y) (p:=⟨y,0,none⟩) U _ rfl)).trans (ag.setCell (S:=fun b=>b=y) (p:=⟨y,1,none⟩) _ _ rfl)).trans (ag.drew _)
    have m5:wr.heap.size<(((U.setCell ⟨y,0,none⟩ (.string G)).setCell ⟨y,1,none⟩ (.string it)).drew).heap.size:=by
     rw[<-a5.out];show wr.heap.size<((((wr.alloc _).setCell _ _).setCell _ _)).heap.size;simp
    rw[g5]at e0 e1 e2 ef⊢;have y0:(((U.setCell ⟨y,0,none⟩ (.string G)).setCell ⟨y,1,none⟩ (.string it)).drew).cell? ⟨y,0,none⟩=some (.string G):=by
     show((U.setCell ⟨y,0,none⟩ (.string G)).setCell ⟨y,1,none⟩ (.string it)).cell? ⟨y,0,none⟩=_;rw[ahO _ _ _ _ (by simp),ahQ _ _ _ e0]
    have y1:(((U.setCell ⟨y,0,none⟩ (.string G)).setCell ⟨y,1,none⟩ (.string it)).drew).cell? ⟨y,1,none⟩=some (.string it):=by
     show((U.setCell ⟨y,0,none⟩ (.string G)).setCell ⟨y,1,none⟩ (.string it)).cell? ⟨y,1,none⟩=_;rw[ahQ _ _ _ ((ahO _ _ _ _ (by simp)).trans e1)]
    have y2:(((U.setCell ⟨y,0,none⟩ (.string G)).setCell ⟨y,1,none⟩ (.string it)).drew).cell? ⟨y,2,none⟩=some (.int .i64 0):=by
     show((U.setCell ⟨y,0,none⟩ (.string G)).setCell ⟨y,1,none⟩ (.string it)).cell? ⟨y,2,none⟩=_;rw[ahO _ _ _ _ (by simp),ahO _ _ _ _ (by simp)];exact e2
    generalize((U.setCell ⟨y,0,none⟩ (.string G)).setCell ⟨y,1,none⟩ (.string it)).drew=W2 at*;have j2:∀b,v.ownBlock=some b->¬b=y:=fun b hb e=>by
     have:=ba HO.out b hb;omega
    have j3:=ahR (HO.out.aC J j2);have j4:Hid (Gr w W2):=ahR (J.gr HG.out fun b hb=>by rw[hb,<-g5];exact HG.out.size);have n0:=J.keeps b4.symm k0;have n1:=J.keeps b4.symm k1;have n2:=J.keeps b4.symm k2;have nf:∀o,W2.frozen? ⟨s,o,none⟩=false:=fun o=>(J.frozen o i5 b4.symm).trans (kf o);have j5:q<wr.heap.size:=by omega
    have x0:=J.keeps b5.symm r0;have x1:=J.keeps b5.symm r1;have x2:=J.keeps b5.symm r2;have xf:∀o,W2.frozen? ⟨q,o,none⟩=false:=fun o=>(J.frozen o j5 b5.symm).trans (rf o);have d1:s<W2.heap.size:=by omega
    have g6:q<W2.heap.size:=by omega
    clear e0 e1 e2 ef m1 k0 k1 k2 kf r0 r1 r2 rf J HO HG a5 t0 t1 f1 f2 f3;have m2:=((Gr.refl W2).alloc (.cells #[.string G,.string it,.int .i64 0] 206)).keeps n2;go_wp2_with(at_builtin;(refine zg (a0:=w) (w:=W2) rfl _ _ rfl v (l.take i) ⟨G,it,0⟩ rfl j3.out _ rfl rfl i7 j4.out ?_);intro v3 O b6 j6 D;(have p2:=D.keeps V.out n2);(have pf:∀o,O.frozen? ⟨s,o,none⟩=false:=fun o=>(ahU (D.2 s d1 V.out).2).trans (nf o));(obtain⟨B,Q,rfl⟩:=b6.form);rw[j1.out]at b6 D⊢;(have d2:=ahR b6);clear b6)
    have p0:=D.keeps V.out n0;have p1:=D.keeps V.out n1;have s0:=D.keeps Y.out x0;have s1:=D.keeps Y.out x1;have s2:=D.keeps Y.out x2;have sf:∀o,O.frozen? ⟨q,o,none⟩=false:=fun o=>(ahU (D.2 q g6 Y.out).2).trans (xf o);have m6:(⟨s,0,none⟩:Addr)≠⟨s,2,none⟩:=by simp
    have m7:(⟨s,1,none⟩:Addr)≠⟨s,2,none⟩:=by simp
    have m8:∀o,(⟨q,o,none⟩:Addr)≠⟨s,2,none⟩:=fun o e=>by
     have:=congrArg Addr.block e;simp at this;omega
    have a6:ag (fun b=>b=s) O (O.setCell ⟨s,2,none⟩ (.slice B (i+1) Q)):=ag.setCell (S:=fun b=>b=s) (p:=⟨s,2,none⟩) O _ rfl;have j7:aT w (O.setCell ⟨s,2,none⟩ (.slice B (i+1) Q)) (.slice B (i+1) Q) (l.take i++[(⟨G,it,0⟩:En)]):=d2.out.aC a6 fun b hb e=>(D.2 s d1 V.out).1 (by rw[hb,e]);have b0:q≠s:=by omega
    subst s6;have j8:w.heap.size<=s:=by have:=HS.out;omega
    have u0:(O.setCell ⟨s,2,none⟩ (.slice B (i+1) Q)).cell? ⟨s,0,none⟩=some (.int .i64 (p:Int)):=by rw[ahO _ _ _ _ (by simp)];exact p0
    have u1:(O.setCell ⟨s,2,none⟩ (.slice B (i+1) Q)).cell? ⟨s,1,none⟩=some (.bool true):=by rw[ahO _ _ _ _ (by simp)];exact p1
    have u2:(O.setCell ⟨s,2,none⟩ (.slice B (i+1) Q)).cell? ⟨s,2,none⟩=some (.slice B (i+1) Q):=ahQ _ _ _ p2;have uf:∀o,(O.setCell ⟨s,2,none⟩ (.slice B (i+1) Q)).frozen? ⟨s,o,none⟩=false:=fun o=>by rw[ahV];exact pf o
    have uz:∀o,(O.setCell ⟨s,2,none⟩ (.slice B (i+1) Q)).frozen? ⟨q,o,none⟩=false:=fun o=>by rw[ahV];exact sf o
    have v0:=a6.keeps b0 s0;have v1:=a6.keeps b0 s1;have v2:=a6.keeps b0 s2;have ug:Gr w (O.setCell ⟨s,2,none⟩ (.slice B (i+1) Q)):=j6.setCell j8 _;have us:s<(O.setCell ⟨s,2,none⟩ (.slice B (i+1) Q)).heap.size:=by
     have:=D.1;have:=a6.2.2.2.1;omega
    have j9:i+1<=l.length:=by omega
    have ut:(.string (T0.extract (2+I+iz) (2+I+iz+d0)):Value)=.string (jH true l (i+1)):=by rw[j0.out,i9.out]
    have k3:=(D.2 s d1 V.out).1;have k4:=(D.2 q g6 Y.out).1;have k5:aT w (O.setCell ⟨s,2,none⟩ (.slice B (i+1) Q)) (.slice B (i+1) Q) (l.take (i+1)):=by
     rw[i6.out];exact j7
    exact⟨⟨i+1,.slice B (i+1) Q,j9,by go_num,ut,⟨u0,u1,u2,uf⟩,⟨⟨v0,v1,v2⟩,uz⟩,us,ug,k5,k3,k4⟩,by simp[ah3];omega⟩
   ·have k6:i=l.length:=by omega
    subst k6;rw[ah1]at HO;obtain⟨ao,ca,rfl⟩:=HO.out.form;have g7:aT w (((wr.setCell ⟨q,0,none⟩ (.int .i64 (p:Int))).setCell ⟨q,1,none⟩ (.bool true)).setCell ⟨q,2,none⟩ (.slice ao l.length ca)) (.slice ao l.length ca) l:=HO.out.aC (((ag.setCell (S:=fun b=>b=q) (p:=⟨q,0,none⟩) wr _ rfl).trans (ag.setCell (S:=fun b=>b=q) (p:=⟨q,1,none⟩) _ _ rfl)).trans (ag.setCell (S:=fun b=>b=q) (p:=⟨q,2,none⟩) _ _ rfl)) fun b hb e=>Y.out (by rw[hb,e]);have d3:w.heap.size<=q:=aih HS.out;have g8:Gr w (((wr.setCell ⟨q,0,none⟩ (.int .i64 (p:Int))).setCell ⟨q,1,none⟩ (.bool true)).setCell ⟨q,2,none⟩ (.slice ao l.length ca)):=((HG.out.setCell d3 _).setCell d3 _).setCell d3 _;have w0:(((wr.setCell ⟨q,0,none⟩ (.int .i64 (p:Int))).setCell ⟨q,1,none⟩ (.bool true)).setCell ⟨q,2,none⟩ (.slice ao l.length ca)).cell? ⟨q,0,none⟩=some (.int .i64 (p:Int)):=by
     rw[ahO _ _ _ _ (by simp),ahO _ _ _ _ (by simp),ahQ _ _ _ r0]
    have H:(((wr.setCell ⟨q,0,none⟩ (.int .i64 (p:Int))).setCell ⟨q,1,none⟩ (.bool true)).setCell ⟨q,2,none⟩ (.slice ao l.length ca)).cell? ⟨q,1,none⟩=some (.bool true):=by
     rw[ahO _ _ _ _ (by simp),ahQ _ _ _ ((ahO _ _ _ _ (by simp)).trans r1)]
    have w2:(((wr.setCell ⟨q,0,none⟩ (.int .i64 (p:Int))).setCell ⟨q,1,none⟩ (.bool true)).setCell ⟨q,2,none⟩ (.slice ao l.length ca)).cell? ⟨q,2,none⟩=some (.slice ao l.length ca):=by
     rw[ahQ _ _ _ ((ahO _ _ _ _ (by simp)).trans ((ahO _ _ _ _ (by simp)).trans r2))]
    have d2:=ahR g7;have k7:=ahR g8;have k8:=ahR w0;have a5:=ahR H;have k9:=ahR w2;clear g7 g8 w0 H w2;go_wp2_with fail
    have w0:=k8.out;have H:=a5.out;have w2:=k9.out;generalize(((wr.setCell ⟨q,0,none⟩ (.int .i64 (p:Int))).setCell ⟨q,1,none⟩ (.bool true)).setCell ⟨q,2,none⟩ (.slice ao l.length ca))=W9 at*;refine bodyPost_ret (v:=.tuple #[aU p true (.slice ao l.length ca),.nilIface]) (by simp[results,aia,go_sem,aU,w0,H,w2]) rfl ⟨_,rfl,d2.out,k7.out⟩
 |false=>
  have gk:(mJ false).toNat=2:=rfl;generalize mJ false=q0 at*;go_enter aif,aid;go_wp2_with fail
  refine l9.out.mono ?_;rintro e H ⟨rfl,b2⟩;have hR:∀w',Gr (w.alloc (.cells #[.int .i64 0,.bool false,.slice none 0 0] 200)) w'->(w'.cell? ⟨w.heap.size,0,none⟩=some (.int .i64 0)/\w'.cell? ⟨w.heap.size,1,none⟩=some (.bool false)/\w'.cell? ⟨w.heap.size,2,none⟩=some (.slice none 0 0))/\∀o,w'.frozen? ⟨w.heap.size,o,none⟩=false:=fun w' g=>
   ⟨⟨g.keeps (by rw[ahP];rfl),g.keeps (by rw[ahP];rfl),g.keeps (by rw[ahP];rfl)⟩,fun o=>(g.frozen o (by simp)).trans (by simp)⟩
  have c5:Gr H (H.alloc (.cells #[.int .i64 (p:Int),.bool false,.slice none 0 0] 200)):=(Gr.refl H).alloc _;have c6:=hR _ (b2.trans c5);have k0:(H.alloc (.cells #[.int .i64 (p:Int),.bool false,.slice none 0 0] 200)).cell? ⟨H.heap.size,0,none⟩=some (.int .i64 (p:Int)):=by rw[ahP];rfl
  have k1:(H.alloc (.cells #[.int .i64 (p:Int),.bool false,.slice none 0 0] 200)).cell? ⟨H.heap.size,1,none⟩=some (.bool false):=by rw[ahP];rfl
  have k2:(H.alloc (.cells #[.int .i64 (p:Int),.bool false,.slice none 0 0] 200)).cell? ⟨H.heap.size,2,none⟩=some (.slice none 0 0):=by rw[ahP];rfl
  have kf:∀o,(H.alloc (.cells #[.int .i64 (p:Int),.bool false,.slice none 0 0] 200)).frozen? ⟨H.heap.size,o,none⟩=false:=fun o=>by simp
  have a9:H.heap.size<(H.alloc (.cells #[.int .i64 (p:Int),.bool false,.slice none 0 0] 200)).heap.size:=by simp
  have d8:=(m0.out.trans b2).trans c5;have c7:w.heap.size<H.heap.size:=by have:=b2.size;simp at this;omega
  clear hR b2 c5;go_wp2_with fail
  go_region
  go_wp2_with fail
  obtain⟨s,d9⟩:∃s,H.heap.size=s:=⟨_,rfl⟩;obtain⟨q,c8⟩:∃q,w.heap.size=q:=⟨_,rfl⟩;have HS:Hid (w.heap.size=q):=ahR c8;rw[d9]at k0 k1 k2 kf a9 c7⊢;rw[c8]at c6 c7⊢;generalize H.alloc (.cells #[.int .i64 (p:Int),.bool false,.slice none 0 0] 200)=W0 at*;have HI:Hid ((W0.cell? ⟨s,0,none⟩=some (.int .i64 (p:Int))/\W0.cell? ⟨s,1,none⟩=some (.bool false)/\W0.cell? ⟨s,2,none⟩=some (.slice none 0 0)/\∀o,W0.frozen? ⟨s,o,none⟩=false)/\((W0.cell? ⟨q,0,none⟩=some (.int .i64 0)/\W0.cell? ⟨q,1,none⟩=some (.bool false)/\W0.cell? ⟨q,2,none⟩=some (.slice none 0 0))/\∀o,W0.frozen? ⟨q,o,none⟩=false)/\s<W0.heap.size/\Gr w W0):=ahR ⟨⟨k0,k1,k2,kf⟩,c6,a9,d8⟩;clear k0 k1 k2 kf c6 a9 d8 d9 c8 g0 g1 g2 ho i2 i3 i4 gk z0 z1 z2;go_loopw [6,42] (fun sv iv w'=>∃(i:Nat) (v:Value),i<=l.length/\iv=.int .i64 i/\sv=.string (jH false l i)/\(w'.cell? ⟨s,0,none⟩=some (.int .i64 (p:Int))/\w'.cell? ⟨s,1,none⟩=some (.bool false)/\w'.cell? ⟨s,2,none⟩=some v/\∀o,w'.frozen? ⟨s,o,none⟩=false)/\((w'.cell? ⟨q,0,none⟩=some (.int .i64 0)/\w'.cell? ⟨q,1,none⟩=some (.bool false)/\w'.cell? ⟨q,2,none⟩=some (.slice none 0 0))/\∀o,w'.frozen? ⟨q,o,none⟩=false)/\s<w'.heap.size/\Gr w w'/\aT w w' v (l.take i)/\v.ownBlock≠some s/\v.ownBlock≠some q) (fun _ iv _=>l.length-(ah3 iv).toNat)
  case atStart=>
   obtain⟨h1,h2,h3,h4⟩:=HI.out;exact⟨0,.slice none 0 0,aii _,rfl,by first|rfl|rw[gx],h1,h2,h3,h4.drew,aT.nil _ _,by simp[ahZ],by simp[ahZ]⟩
  case round=>
   obtain⟨i,v,hi,rfl,rfl,⟨k0,k1,k2,kf⟩,⟨⟨r0,r1,r2⟩,rf⟩,i5,hg,ho,e3,e4⟩:=hrel;have HO:=ahR ho;have HG:=ahR hg;have V:=ahR e3;have Y:=ahR e4;have s4:q<s:=c7;clear ho hg e3 e4;by_cases c9:i<l.length
   ·have s5:(i:Int)<(l.length:Int):=by omega
    have L:=zh false l i c9;have e6:=zi false l i d6 hb;have i6:Hid (l.take (i+1)=l.take i++[l[i]]):=ahR (ahW c9);have Z:=d6 _ (ah8 c9);have i7:(l.take i).length<=100000:=by rw[ahX];omega
    generalize l[i]=en at*;obtain⟨G,it,z⟩:=en;generalize jH false l i=T0 at*;generalize e7:jH false l (i+1)=T1 at*;have i9:=ahR e7;clear e7;obtain⟨I,b3⟩:∃I,G.size=I:=⟨_,rfl⟩;have m4:I<=60:=by rw[<-b3];exact Z.key
    have r8:z<2000:=Z.b_;have hit:it=eZ:=Z.node rfl;subst hit;have e1:En.xS ⟨G,eZ,z⟩ false=[I.toUInt8,(z/256).toUInt8,z.toUInt8]++G.data.toList:=by
     rw[<-b3];unfold En.xS En.head;simp only[Bool.false_eq_true,if_false];rw[tR _ (by omega)];simp[eZ]
    have b1:G.data.toList.length=I:=by rw[<-size_data,b3]
    rw[e1]at L;have e8:T0.size=3+I+T1.size:=by
     rw[size_data,L];simp only[ahS,ah9,ah_,b1,<-size_data]
    have y0:0<T0.size:=by omega
    have y1:1<T0.size:=by omega
    have y2:2<T0.size:=by omega
    have t0:T0[0]=I.toUInt8:=get_at _ 0 y0 _ L (by simp);have t1:T0[1]=(z/256).toUInt8:=get_at _ 1 y1 _ L (by simp);have t2:T0[2]=z.toUInt8:=get_at _ 2 y2 _ L (by simp);have f1:T0.extract 3 (3+I)=G:=by
     have:=ya T0 [I.toUInt8,(z/256).toUInt8,z.toUInt8] G.data.toList T1.data.toList (by rw[L];simp);rw[b1,tT]at this;exact this
    have f3:T0.extract (3+I) T0.size=T1:=by
     have:=yb T0 ([I.toUInt8,(z/256).toUInt8,z.toUInt8]++G.data.toList) T1.data.toList L;rw[ahS,b1,tT]at this;exact this
    have s7:(I.toUInt8).toNat=I:=by simp;omega
    have s8:=vn (z/256).toUInt8.toNat z.toUInt8.toNat (z/256).toUInt8.toNat_lt z.toUInt8.toNat_lt;have m3:256*(((z/256).toUInt8.toNat:Nat):Int)+((z.toUInt8.toNat:Nat):Int)=(z:Int):=by
     rw[om,om];omega
    rw[m3]at s8;clear m3;generalize I.toUInt8=q1 at*;generalize(z/256).toUInt8=q2 at*;generalize z.toUInt8=q3 at*;have i2:wrap64 ((q2.toNat:Int)*256)=(q2.toNat:Int)*256:=by
     have:=q2.toNat_lt;unfold wrap64;omega
    have i3:wrap64 (q2.toNat:Int)=(q2.toNat:Int):=by
     have:=q2.toNat_lt;unfold wrap64;omega
    have i4:wrap64 (q3.toNat:Int)=(q3.toNat:Int):=by
     have:=q3.toNat_lt;unfold wrap64;omega
    rw[e8]at f3 e6;obtain⟨d0,c4⟩:∃d0,T1.size=d0:=⟨_,rfl⟩;rw[c4]at f3 e6 e8;clear c4;clear L e1 b1 b3 Z;have e9:Gr wr (wr.alloc (.cells #[.string ⟨#[]⟩,.string ⟨#[]⟩,.int .i64 0] 206)):=(Gr.refl wr).alloc _;have e0:(wr.alloc (.cells #[.string ⟨#[]⟩,.string ⟨#[]⟩,.int .i64 0] 206)).cell? ⟨wr.heap.size,0,none⟩=some (.string ⟨#[]⟩):=by rw[ahP];rfl
    have e1:(wr.alloc (.cells #[.string ⟨#[]⟩,.string ⟨#[]⟩,.int .i64 0] 206)).cell? ⟨wr.heap.size,1,none⟩=some (.string ⟨#[]⟩):=by rw[ahP];rfl
    have e2:(wr.alloc (.cells #[.string ⟨#[]⟩,.string ⟨#[]⟩,.int .i64 0] 206)).cell? ⟨wr.heap.size,2,none⟩=some (.int .i64 0):=by rw[ahP];rfl
    have ef:∀o,(wr.alloc (.cells #[.string ⟨#[]⟩,.string ⟨#[]⟩,.int .i64 0] 206)).frozen? ⟨wr.heap.size,o,none⟩=false:=fun o=>by simp
    have m1:=e9.keeps k1;clear e9;go_wp2_with fail
    generalize g3:wr.alloc (.cells #[.string ⟨#[]⟩,.string ⟨#[]⟩,.int .i64 0] 206)=U at*;have a5:=ahR g3;clear g3;go_region
    have j0:=ahR f3;have g4:(l.take i++[(⟨G,eZ,z⟩:En)]).length=i+1:=by rw[ahS,ahX,ah5];omega
    have j1:=ahR g4;clear g4;obtain⟨y,g5⟩:∃y,wr.heap.size=y:=⟨_,rfl⟩;have b4:y≠s:=by omega
    have b5:y≠q:=by omega
    have J:ag (fun b=>b=y) wr (((U.setCell ⟨y,2,none⟩ (.int .i64 (z:Int))).setCell ⟨y,0,none⟩ (.string G)).drew):=by
     have a1:ag (fun b=>b=y) wr U:=by rw[<-a5.out];exact ag.ak ((Gr.refl wr).alloc _)
     exact((a1.trans (ag.setCell (S:=fun b=>b=y) (p:=⟨y,2,none⟩) U _ rfl)).trans (ag.setCell (S:=fun b=>b=y) (p:=⟨y,0,none⟩) _ _ rfl)).trans (ag.drew _)
    have m5:wr.heap.size<(((U.setCell ⟨y,2,none⟩ (.int .i64 (z:Int))).setCell ⟨y,0,none⟩ (.string G)).drew).heap.size:=by
     rw[<-a5.out];show wr.heap.size<((((wr.alloc _).setCell _ _).setCell _ _)).heap.size;simp
    rw[g5]at e0 e1 e2 ef⊢;have y0:(((U.setCell ⟨y,2,none⟩ (.int .i64 (z:Int))).setCell ⟨y,0,none⟩ (.string G)).drew).cell? ⟨y,0,none⟩=some (.string G):=by
     show((U.setCell ⟨y,2,none⟩ (.int .i64 (z:Int))).setCell ⟨y,0,none⟩ (.string G)).cell? ⟨y,0,none⟩=_;rw[ahQ _ _ _ ((ahO _ _ _ _ (by simp)).trans e0)]
    have y1:(((U.setCell ⟨y,2,none⟩ (.int .i64 (z:Int))).setCell ⟨y,0,none⟩ (.string G)).drew).cell? ⟨y,1,none⟩=some ((.string eZ)):=by
     show((U.setCell ⟨y,2,none⟩ (.int .i64 (z:Int))).setCell ⟨y,0,none⟩ (.string G)).cell? ⟨y,1,none⟩=_;rw[ahO _ _ _ _ (by simp),ahO _ _ _ _ (by simp)];exact e1
    have y2:(((U.setCell ⟨y,2,none⟩ (.int .i64 (z:Int))).setCell ⟨y,0,none⟩ (.string G)).drew).cell? ⟨y,2,none⟩=some (.int .i64 (z:Int)):=by
     show((U.setCell ⟨y,2,none⟩ (.int .i64 (z:Int))).setCell ⟨y,0,none⟩ (.string G)).cell? ⟨y,2,none⟩=_;rw[ahO _ _ _ _ (by simp),ahQ _ _ _ e2]
    generalize((U.setCell ⟨y,2,none⟩ (.int .i64 (z:Int))).setCell ⟨y,0,none⟩ (.string G)).drew=W2 at*;have j2:∀b,v.ownBlock=some b->¬b=y:=fun b hb e=>by
     have:=ba HO.out b hb;omega
    have j3:=ahR (HO.out.aC J j2);have j4:Hid (Gr w W2):=ahR (J.gr HG.out fun b hb=>by rw[hb,<-g5];exact HG.out.size);have n0:=J.keeps b4.symm k0;have n1:=J.keeps b4.symm k1;have n2:=J.keeps b4.symm k2;have nf:∀o,W2.frozen? ⟨s,o,none⟩=false:=fun o=>(J.frozen o i5 b4.symm).trans (kf o);have j5:q<wr.heap.size:=by omega
    have x0:=J.keeps b5.symm r0;have x1:=J.keeps b5.symm r1;have x2:=J.keeps b5.symm r2;have xf:∀o,W2.frozen? ⟨q,o,none⟩=false:=fun o=>(J.frozen o j5 b5.symm).trans (rf o);have d1:s<W2.heap.size:=by omega
    have g6:q<W2.heap.size:=by omega
    clear e0 e1 e2 ef m1 k0 k1 k2 kf r0 r1 r2 rf J HO HG a5 t0 t1 t2 f1 f3;have m2:=((Gr.refl W2).alloc (.cells #[.string G,Value.string eZ,.int .i64 (z:Int)] 206)).keeps n2;go_wp2_with(at_builtin;(refine zg (a0:=w) (w:=W2) rfl _ _ rfl v (l.take i) ⟨G,eZ,z⟩ rfl j3.out _ rfl rfl i7 j4.out ?_);intro v3 O b6 j6 D;(have p2:=D.keeps V.out n2);(have pf:∀o,O.frozen? ⟨s,o,none⟩=false:=fun o=>(ahU (D.2 s d1 V.out).2).trans (nf o));(obtain⟨B,Q,rfl⟩:=b6.form);rw[j1.out]at b6 D⊢;(have d2:=ahR b6);clear b6)
    have p0:=D.keeps V.out n0;have p1:=D.keeps V.out n1;have s0:=D.keeps Y.out x0;have s1:=D.keeps Y.out x1;have s2:=D.keeps Y.out x2;have sf:∀o,O.frozen? ⟨q,o,none⟩=false:=fun o=>(ahU (D.2 q g6 Y.out).2).trans (xf o);have m6:(⟨s,0,none⟩:Addr)≠⟨s,2,none⟩:=by simp
    have m7:(⟨s,1,none⟩:Addr)≠⟨s,2,none⟩:=by simp
    have m8:∀o,(⟨q,o,none⟩:Addr)≠⟨s,2,none⟩:=fun o e=>by
     have:=congrArg Addr.block e;simp at this;omega
    have a6:ag (fun b=>b=s) O (O.setCell ⟨s,2,none⟩ (.slice B (i+1) Q)):=ag.setCell (S:=fun b=>b=s) (p:=⟨s,2,none⟩) O _ rfl;have j7:aT w (O.setCell ⟨s,2,none⟩ (.slice B (i+1) Q)) (.slice B (i+1) Q) (l.take i++[(⟨G,eZ,z⟩:En)]):=d2.out.aC a6 fun b hb e=>(D.2 s d1 V.out).1 (by rw[hb,e]);have b0:q≠s:=by omega
    have j8:w.heap.size<=s:=by have:=HS.out;omega
    have u0:(O.setCell ⟨s,2,none⟩ (.slice B (i+1) Q)).cell? ⟨s,0,none⟩=some (.int .i64 (p:Int)):=by rw[ahO _ _ _ _ (by simp)];exact p0
    have u1:(O.setCell ⟨s,2,none⟩ (.slice B (i+1) Q)).cell? ⟨s,1,none⟩=some (.bool false):=by rw[ahO _ _ _ _ (by simp)];exact p1
    have u2:(O.setCell ⟨s,2,none⟩ (.slice B (i+1) Q)).cell? ⟨s,2,none⟩=some (.slice B (i+1) Q):=ahQ _ _ _ p2;have uf:∀o,(O.setCell ⟨s,2,none⟩ (.slice B (i+1) Q)).frozen? ⟨s,o,none⟩=false:=fun o=>by rw[ahV];exact pf o
    have uz:∀o,(O.setCell ⟨s,2,none⟩ (.slice B (i+1) Q)).frozen? ⟨q,o,none⟩=false:=fun o=>by rw[ahV];exact sf o
    have v0:=a6.keeps b0 s0;have v1:=a6.keeps b0 s1;have v2:=a6.keeps b0 s2;have ug:Gr w (O.setCell ⟨s,2,none⟩ (.slice B (i+1) Q)):=j6.setCell j8 _;have us:s<(O.setCell ⟨s,2,none⟩ (.slice B (i+1) Q)).heap.size:=by
     have:=D.1;have:=a6.2.2.2.1;omega
    have j9:i+1<=l.length:=by omega
    have ut:(.string (T0.extract (3+I) (3+I+d0)):Value)=.string (jH false l (i+1)):=by rw[j0.out,i9.out]
    have k3:=(D.2 s d1 V.out).1;have k4:=(D.2 q g6 Y.out).1;have k5:aT w (O.setCell ⟨s,2,none⟩ (.slice B (i+1) Q)) (.slice B (i+1) Q) (l.take (i+1)):=by
     rw[i6.out];exact j7
    exact⟨⟨i+1,.slice B (i+1) Q,j9,by go_num,ut,⟨u0,u1,u2,uf⟩,⟨⟨v0,v1,v2⟩,uz⟩,us,ug,k5,k3,k4⟩,by simp[ah3];omega⟩
   ·have k6:i=l.length:=by omega
    subst k6;rw[ah1]at HO;obtain⟨ao,ca,rfl⟩:=HO.out.form;have g7:aT w (((wr.setCell ⟨q,0,none⟩ (.int .i64 (p:Int))).setCell ⟨q,1,none⟩ (.bool false)).setCell ⟨q,2,none⟩ (.slice ao l.length ca)) (.slice ao l.length ca) l:=HO.out.aC (((ag.setCell (S:=fun b=>b=q) (p:=⟨q,0,none⟩) wr _ rfl).trans (ag.setCell (S:=fun b=>b=q) (p:=⟨q,1,none⟩) _ _ rfl)).trans (ag.setCell (S:=fun b=>b=q) (p:=⟨q,2,none⟩) _ _ rfl)) fun b hb e=>Y.out (by rw[hb,e]);have d3:w.heap.size<=q:=aih HS.out;have g8:Gr w (((wr.setCell ⟨q,0,none⟩ (.int .i64 (p:Int))).setCell ⟨q,1,none⟩ (.bool false)).setCell ⟨q,2,none⟩ (.slice ao l.length ca)):=((HG.out.setCell d3 _).setCell d3 _).setCell d3 _;have w0:(((wr.setCell ⟨q,0,none⟩ (.int .i64 (p:Int))).setCell ⟨q,1,none⟩ (.bool false)).setCell ⟨q,2,none⟩ (.slice ao l.length ca)).cell? ⟨q,0,none⟩=some (.int .i64 (p:Int)):=by
     rw[ahO _ _ _ _ (by simp),ahO _ _ _ _ (by simp),ahQ _ _ _ r0]
    have H:(((wr.setCell ⟨q,0,none⟩ (.int .i64 (p:Int))).setCell ⟨q,1,none⟩ (.bool false)).setCell ⟨q,2,none⟩ (.slice ao l.length ca)).cell? ⟨q,1,none⟩=some (.bool false):=by
     rw[ahO _ _ _ _ (by simp),ahQ _ _ _ ((ahO _ _ _ _ (by simp)).trans r1)]
    have w2:(((wr.setCell ⟨q,0,none⟩ (.int .i64 (p:Int))).setCell ⟨q,1,none⟩ (.bool false)).setCell ⟨q,2,none⟩ (.slice ao l.length ca)).cell? ⟨q,2,none⟩=some (.slice ao l.length ca):=by
     rw[ahQ _ _ _ ((ahO _ _ _ _ (by simp)).trans ((ahO _ _ _ _ (by simp)).trans r2))]
    have d2:=ahR g7;have k7:=ahR g8;have k8:=ahR w0;have a5:=ahR H;have k9:=ahR w2;clear g7 g8 w0 H w2;go_wp2_with fail
    have w0:=k8.out;have H:=a5.out;have w2:=k9.out;generalize(((wr.setCell ⟨q,0,none⟩ (.int .i64 (p:Int))).setCell ⟨q,1,none⟩ (.bool false)).setCell ⟨q,2,none⟩ (.slice ao l.length ca))=W9 at*;refine bodyPost_ret (v:=.tuple #[aU p false (.slice ao l.length ca),.nilIface]) (by simp[results,aia,go_sem,aU,w0,H,w2]) rfl ⟨_,rfl,d2.out,k7.out⟩
end
end
section
open Go Go.RowKit Go.Maps
theorem MapAt.small{w:World}{M n:Nat}{F:Int->Option ByteArray}(h:MapAt w M n F)(L:sJ F):MapAt w M 2000 F:=by
 obtain⟨D,O,G⟩:=h;obtain⟨q,b,s,H,Y,rfl⟩:=O;obtain⟨Q,I,S⟩:=MapAt.keys ⟨_,⟨q,b,s,H,aij _,rfl⟩,G⟩ L;have y:ail Q=(Lr F).length:=by
  obtain⟨V,rfl,_⟩:=I.entries IT;have:=S.length_eq;simp only[intKeys,List.length_map]at this;exact this.symm
 have Z:=Q2 F;obtain⟨z,c2,f1,f2,f3,rfl⟩:=I;rw[s]at f1;have B:q=z:=by
  have:=ah4 f1;injection this
 subst B;have U:q.size<=2000:=by
  have J:=y;unfold ail at J;simp only[length_read]at J;omega
 exact⟨_,⟨q,b,s,H,U,rfl⟩,G⟩
theorem mK.small{w:World}{PB DB M n:Nat}{c:Ch}{sv:Head}{t:Int}{d:Dk}(h:mK w PB DB M n c sv t d)(hc:c.aA):mK w PB DB M 2000 c sv t d:=by
 obtain⟨⟨z,B,b⟩,q,s,y⟩:=h;exact⟨⟨2000,aij _,⟨b.oY,b.head,b.map,b.saved,b.down,b.times,b.free,b.g_.small hc.g_,b.ne⟩⟩,q,s,y⟩
structure bF(w:World)(PB DB M:Nat)(c:Ch)(sv:Head)(t:Int)(d:Dk):Prop where
 s:mK w PB DB M 2000 c sv t d
 f:c.aA
section
variable{w:World}{PB DB M:Nat}{c:Ch}{sv:Head}{t:Int}{d:Dk}
theorem bF.gr{w':World}(h:bF w PB DB M c sv t d)(g:Gr w w'):bF w' PB DB M c sv t d:=⟨h.s.gr g,h.f⟩
theorem bF.lt(h:bF w PB DB M c sv t d):PB<w.heap.size/\DB<w.heap.size/\M<w.heap.size:=h.s.lt
theorem wP(h:bF w PB DB M c sv t d):Calls ahT 199 #[.pointer (some ⟨PB,0,none⟩)] w fun e w'=>e=.returned (ik c)/\bF w' PB DB M c.alloc sv t d/\aM PB DB M M w w':=
 (Rg h.s (by omega)).mono fun _ _ ⟨b,q,y⟩=>⟨b,⟨q.small h.f.oZ,h.f.oZ⟩,y⟩
theorem As(h:bF w PB DB M c sv t d){k:Nat}(b:eW c k):Calls ahT 204 #[.pointer (some ⟨PB,0,none⟩),.int .i64 (k:Int)] w fun e w'=>e=.returned .nilIface/\bF w' PB DB M (c.free (k:Nat)) sv t d/\aM PB DB M M w w':=
 (Tj h.s (k:Int)).mono fun _ _ ⟨q,y,z⟩=>⟨by rw[q,b.d_];rfl,⟨y.small (h.f.oe _),h.f.oe _⟩,z⟩
theorem OV(h:bF w PB DB M c sv t d){k:Nat}(b:eW c k)(s:ByteArray)(hs:s.size=1024):Calls ahT 251 #[.pointer (some ⟨PB,0,none⟩),.int .i64 (k:Int),.string s] w fun e w'=>e=.returned .nilIface/\bF w' PB DB M (c.write (k:Nat) s) sv t d/\aM PB DB M M w w':=
 (Rh h.s (by omega) (k:Int) s hs).mono fun _ _ ⟨q,y,z⟩=>⟨by rw[q,b.d_];rfl,⟨y.small (h.f.sK _ hs),h.f.sK _ hs⟩,z⟩
end
end
section
open Go Go.RowKit
theorem eK{w w':World}(h:Gr w.drew w'):Gr w w':=((Gr.refl w).drew).trans h
section
variable{w:World}{PB DB M:Nat}{c:Ch}{sv:Head}{t:Int}{d:Dk}
theorem me(h:bF w PB DB M c sv t d){TP root:Nat}(q:bc w TP PB root)(y:root<8):
  Calls ahT 119 #[.pointer (some ⟨TP,0,none⟩)] w (ar w (.int .i64 (c.h.roots root))):=by
 have hs:=fun w' (g:Gr w w')=>GC (h.s.gr g) root y;have z:=q.p;have B:=q.r;go_enter Tryz.func119,Tryz.ntmps119;go_wp2_with fail
 go_region_with(go_at_call 83;refine(hs _ (by repeat(with_reducible first|exact Gr.refl _|refine Gr.drew ?_))).mono ?_;rintro e D ⟨rfl,b⟩)
 all_goals
  go_wp2_with fail
  go_ret;exact ar.mk rfl (eK b)
theorem LJ(h:bF w PB DB M c sv t d){TP root:Nat}(q:bc w TP PB root)(y:root<8):
  Calls ahT 143 #[.pointer (some ⟨TP,0,none⟩)] w (ar w (.int .i64 (c.h.notes root))):=by
 have hs:=fun w' (g:Gr w w')=>GC (h.s.gr g) root y;have z:=q.p;have B:=q.r;go_enter Tryz.func143,Tryz.ntmps143;go_wp2_with fail
 go_region_with(go_at_call 83;refine(hs _ (by repeat(with_reducible first|exact Gr.refl _|refine Gr.drew ?_))).mono ?_;rintro e D ⟨rfl,b⟩)
 all_goals
  go_wp2_with fail
  go_ret;exact ar.mk rfl (eK b)
theorem mg(h:bF w PB DB M c sv t d){TP root:Nat}(L:bc w TP PB root){leaf:Bool}{p:Nat}{l:List En}{s:Value}(hs:oi w s l)(y:∀e∈l,e.ok leaf)(O:ah leaf l<=1024)(S:eW c p):
  Calls ahT 200 #[.pointer (some ⟨TP,0,none⟩),aU p leaf s] w fun e w'=>e=.returned .nilIface/\bF w' PB DB M (c.write (p:Nat) (au leaf l)) sv t d/\aM PB DB M M w w':=by
 have I:=fun w' (g:Gr w w')=>Te p leaf l s w' (hs.gr g) y O;obtain⟨G,H,rfl⟩:=hs.form;have J:=dA y O;have hw:=fun w' (g:Gr w w')=>OV (h.gr g) S (au leaf l) J;unfold aU at*;have q:Gr w (w.alloc (.cells #[.int .i64 (p:Int),.bool leaf,.slice G l.length H] 200)):=(Gr.refl w).alloc _;have Q:∀w',Gr (w.alloc (.cells #[.int .i64 (p:Int),.bool leaf,.slice G l.length H] 200)) w'->w'.cell? ⟨w.heap.size,0,none⟩=some (.int .i64 (p:Int))/\w'.cell? ⟨w.heap.size,1,none⟩=some (.bool leaf)/\w'.cell? ⟨w.heap.size,2,none⟩=some (.slice G l.length H):=fun w' g=>⟨g.keeps (by rw[ahP];rfl),g.keeps (by rw[ahP];rfl),g.keeps (by rw[ahP];rfl)⟩;obtain⟨U,V,Y⟩:=Q _ (Gr.refl _);have Z:=(L.gr q).p;have HW:=ahR hw;clear hw;go_enter Tryz.func200,Tryz.ntmps200;go_wp2_with fail
 go_region_with(first
  |( go_at_call 252;refine(I _ ?_).mono ?_;(with_reducible exact q.drew);rintro e w1 ⟨rfl,z⟩;have b:=q.trans (eK z);obtain⟨U,V,Y⟩:=Q _ (eK z);have Z:=(L.gr b).p)
  |( go_at_call 251;refine(HW.out _ ?_).mono ?_;(with_reducible first|exact b|exact b.drew);rintro e w2 ⟨rfl,B,D⟩))
 all_goals
  go_wp2_with fail
  go_ret
  first
    |exact⟨rfl,B,(aM.ak PB DB M b).trans D⟩
    |exact⟨rfl,B,(aM.ak PB DB M b.drew).trans D⟩
end
def dV(n:Nat):Value:=if n=0 then .nilIface else .iface 24 (.int .i64 (n:Int))
theorem aM.own{T:Nat->Prop}{PB DB M:Nat}{w b q:World}(h:aM PB DB M M w b)(k:ag T b q)(y:∀j,T j->w.heap.size<=j):aM PB DB M M w q:=
 ⟨.inl rfl,k.1.trans h.2.1,k.2.1.trans h.2.2.1,k.2.2.1.trans h.2.2.2.1,Nat.le_trans h.size k.2.2.2.1,fun j s hs=>(k.block (Nat.lt_of_lt_of_le s h.size) (fun e=>by have:=y j e;omega)).trans (h.2.block s hs)⟩
def sV(c:Ch)(i:Nat)(p more:Int):Ch×Nat:=if 0<=c.h.notes i+more/\c.h.notes i+more<65536 then(⟨c.h.dE i p (c.h.notes i+more),c.F⟩,0)else(c,2)
section
variable{w:World}{PB DB M:Nat}{c:Ch}{sv:Head}{t:Int}{d:Dk}
theorem bF.aC{S:Nat->Prop}{w':World}(h:bF w PB DB M c sv t d)(g:ag S w w')(b:¬S PB)(q:¬S DB)(y:¬S M):bF w' PB DB M c sv t d:=by
 obtain⟨z,hn,B⟩:=h.s.pg;exact⟨⟨⟨z,hn,B.aC g b y⟩,h.s.dk.aC g q,h.s.Wl,h.s.Wm⟩,h.f⟩
theorem LK(h:bF w PB DB M c sv t d){i:Nat}(hi:i<8){k m:Int}(z:0<=k/\k<2000):Calls ahT 202 #[.pointer (some ⟨PB,0,none⟩),.int .i64 i,.int .i64 k,.int .i64 m] w fun e w'=>
  e=.returned (dV (if 0<=m/\m<65536 then 0 else 2))/\bF w' PB DB M (if 0<=m/\m<65536 then⟨c.h.dE i k m,c.F⟩else c) sv t d/\aM PB DB M M w w':=by
 by_cases b:0<=m/\m<65536
 ·simp only[if_pos b];have hf:(⟨c.h.dE i k m,c.F⟩:Ch).aA:=⟨Ed h.f.head i z b,h.f.g_⟩;exact(LC h.s i k m hi z b).mono fun _ _ ⟨y,q,B⟩=>⟨y,⟨q.small hf,hf⟩,B⟩
 ·simp only[if_neg b];obtain⟨D,_,G⟩:=h.s.pg;exact(Aa PB DB M D c.h sv c.F false t (i:Int) k m (by omega) w G).mono fun _ _ ⟨y,q⟩=>⟨y,h.gr q,aM.ak _ _ _ q⟩
theorem Jd(h:bF w PB DB M c sv t d){i:Nat}(hi:i<8){p more:Int}(s:0<=p/\p<2000):Calls ahT 202 #[.pointer (some ⟨PB,0,none⟩),.int .i64 i,.int .i64 p,.int .i64 (c.h.notes i+more)] w fun e w'=>
  e=.returned (dV (sV c i p more).2)/\bF w' PB DB M (sV c i p more).1 sv t d/\aM PB DB M M w w':=by
 refine(LK h hi s).mono ?_;intro e w' b;unfold sV;by_cases q:0<=c.h.notes i+more/\c.h.notes i+more<65536
 ·simp only[if_pos q]at b⊢;exact b
 ·simp only[if_neg q]at b⊢;exact b
theorem vz(h:bF w PB DB M c sv t d){TP root:Nat}(q:bc w TP PB root)(y:TP≠PB/\TP≠DB/\TP≠M)(I:root<8){p more:Int}(V:0<=p/\p<2000)(hm:-1000000<=more/\more<=1000000):
  Calls ahT 145 #[.pointer (some ⟨TP,0,none⟩),.int .i64 p,.int .i64 more] w fun e w'=>e=.returned (dV (sV c root p more).2)/\bF w' PB DB M (sV c root p more).1 sv t d/\aM PB DB M M w w':=by
 have hs:=fun w' (g:Gr w w')=>LJ (h.gr g) (q.gr g) I;have hw:=fun w' (g:Gr w w')=>Jd (h.gr g) (i:=root) I (p:=p) (more:=more) V;have a1:=h.f.head.note root I;have O:=q.p;have Q:=q.r;have S:∀b,Gr w b->b.cell? ⟨TP,0,none⟩=some (.pointer (some ⟨PB,0,none⟩))/\b.cell? ⟨TP,1,none⟩=some (.int .i64 (root:Int)):=fun b g=>⟨(q.gr g).p,(q.gr g).r⟩;generalize dV (sV c root p more).2=E at*;generalize(sV c root p more).1=C at*;generalize c.h.notes root=nt at*;have B:∀(b D:World) {o:Nat} {v:Value},aM PB DB M M b D->b.cell? ⟨TP,o,none⟩=some v->D.cell? ⟨TP,o,none⟩=some v:=fun b D _ _ hf hc=>hf.keeps y.1 y.2.1 y.2.2 hc;have U:=ahR B;clear B;have Y:=ahR hw;have Z:=ahR hs;have K1:=ahR S;clear hw hs S h q;go_enter Tryz.func145,Tryz.ntmps145;go_wp2_with fail
 have a2:IntKind.i64.wrap (nt+more)=nt+more:=IntWalk.i64_in _ (by omega);have G:w.drew.cell? ⟨TP,0,none⟩=some (.pointer (some ⟨PB,0,none⟩)):=O;have H:w.drew.cell? ⟨TP,1,none⟩=some (.int .i64 (root:Int)):=Q;have s:Gr w w.drew:=(Gr.refl w).drew;go_region_held3(fun w'=>w'.cell? ⟨TP,0,none⟩=some (.pointer (some ⟨PB,0,none⟩))/\w'.cell? ⟨TP,1,none⟩=some (.int .i64 (root:Int))) (first|exact⟨G,H⟩|exact⟨O,Q⟩|(refine⟨?_,?_⟩<;>assumption)) (first
  |(go_at_call 143;refine(Z.out _ s).mono ?_;rintro e b ⟨rfl,J⟩;have s:=s.trans J;obtain⟨G,H⟩:=K1.out _ s)
  |(go_at_call 202;refine(Y.out _ s).mono ?_;rintro e D ⟨rfl,L,z⟩;have G:=U.out _ _ z G;have H:=U.out _ _ z H))
 all_goals
  go_wp2_with fail
  go_ret;exact⟨rfl,L,(aM.ak PB DB M s).trans z⟩
end
