/-
  Part 25 of the proof.
-/
import Derived.Test.YtldmhjbdahjhdaaGreatDoorZc21
import Derived.Test.YtldmhjbdahjhdaaGreatDoorZc24
import Derived.Test.YtldmhjbdahjhdaaGreatDoorZc22
set_option maxRecDepth 100000
set_option maxHeartbeats 100000000
set_option linter.all false
namespace Go.Proofs.YtldmhjbdahjhdaaGreatDoor
section
open Go Go.RowKit
theorem OwnP.block{a0 w w':World}{v:Value}{xs:List GPlace}(h:OwnP a0 w v xs)(hb:∀b,v.ownBlock=some b->w'.heap[b]?=w.heap[b]?):OwnP a0 w' v xs:=by
 obtain⟨h1,h2⟩:=h.row
 refine⟨h1,?_⟩
 rcases h2 with h2|⟨b,cap,cur,hv,hb0,hh,r⟩
 ·exact .inl h2
 ·exact .inr ⟨b,cap,cur,hv,hb0,by rw[hb b (by rw[hv];rfl)];exact hh,r⟩
theorem OwnP.form'{a0 w:World}{v:Value}{xs:List GPlace}(h:OwnP a0 w v xs)(h0:xs≠[]):∃b cap,v=.slice (some ⟨b,0,none⟩) xs.length cap/\a0.heap.size<=b/\b<w.heap.size/\v.ownBlock=some b/\∀es clock,w.heap[b]?≠some (.map es clock):=by
 obtain⟨h1,h2⟩:=h.row
 rcases h2 with⟨_,h3⟩|⟨b,cap,cur,hv,hb0,hh,r⟩
 ·exact absurd (List.eq_nil_of_length_eq_zero h3) h0
 ·exact⟨b,cap,hv,hb0,(Array.getElem?_eq_some_iff.1 hh).1,by rw[hv];rfl,fun es clock e=>by rw[hh]at e;cases e⟩
def MovedH(v v':Value)(w w':World):Prop:=w.heap.size<=w'.heap.size/\∀k,k<w.heap.size->v.ownBlock≠some k->v'.ownBlock≠some k/\w'.heap[k]?=w.heap[k]?
theorem append_place1{a0 w:World}{ops:Array Oper}{rest:List Oper}{o:Oper}{a:Act}{Q:Exit->Act->World->Prop}(hgd:o.guard=none)(s x:Operand)
  (ho:o.op=.call {callee:=.builtin .append,args:=#[s,x],argTypes:=#[57,57]}) (v:Value) (us:List GPlace) (hs:a.eval s=v) (hown:OwnP a0 w v us) (p:GPlace)
  (hx:a.eval x=.slice (some ⟨w.heap.size,0,none⟩) 1 1) (hl:us.length+1<=1000000) (hg:Gr a0 w)
  (h:∀v' w',OwnP a0 w' v' (us++[p])->Gr a0 w'->MovedH v v' w w'->wpList Tryz.prog ops Q rest (a.put o.dst v') w'):wpList Tryz.prog ops Q (o::rest) a (w.alloc (.cells #[.int .i64 p.1,.int .i64 p.2] 104)):=by
 obtain⟨i0,hinf,hz⟩:∃i0,Tryz.prog.info? 104=some i0/\(i0.zero,i0.size,i0.bytes)=(some (.agg #[.int .i64 0,.int .i64 0]),2,16):=by
  have h:=info_place
  cases h0:Tryz.prog.info? 104 with
  |none=>rw[h0]at h;cases h
  |some i0=>rw[h0]at h;exact⟨i0,rfl,Option.some.inj h⟩
 simp only[Prod.mk.injEq]at hz
 obtain⟨hz0,hz1,hz2⟩:=hz
 refine wpList_append_own_at _ hgd s x 57 ho a0.heap.size 104 i0 (.agg #[.int .i64 0,.int .i64 0]) 2 16 Tryz.underlying57 hinf hz0 hz1 hz2 rfl (by decide) v us.length (cellsP us) hs (hown.row.alloc _) ⟨w.heap.size,0,none⟩ 1 1 [.int .i64 p.1,.int .i64 p.2] hx rfl ?_ (by intro u hu;simp only[List.mem_cons,List.not_mem_nil,or_false]at hu;rcases hu with rfl|rfl<;>rfl) (by unfold maxLen;omega) (by omega) (by have:=hg.size;simp;omega)
  (fun v' w' h1 h2 _ h4=>h v' w' (ownP_snoc h1) (gr_grown (hg.alloc _) h2 (ownBlock_ge hown.row)) ⟨by have:=h2.size;simp at this;omega,fun k hk hne=>⟨fun e=>by
   rcases h4 with h4|h4
   ·exact hne (h4.symm.trans e)
   ·rw[h4]at e
    have:=Option.some.inj e
    simp at this
    omega,(h2.block k (by simp;omega) (fun e=>hne e.symm)).trans (Below.heap_alloc _ _ _ hk)⟩⟩)
 intro j u hj
 have he:(⟨w.heap.size,0,none⟩:Addr).add j=⟨w.heap.size,j,none⟩:=by
  unfold Addr.add
  split
  ·rename_i h0;rw[h0]
  ·simp
 rw[he,World.cell?_alloc_new]
 match j,hj with
 |0,hj=>cases hj;rfl
 |1,hj=>cases hj;rfl
 |j+2,hj=>simp at hj
structure GrpF(a0 w:World)(F:ByteArray->Option Value)(G:ByteArray->List GPlace):Prop where
 non:∀k,F k=none↔G k=[]
 own:∀k v,F k=some v->OwnP a0 w v (G k)
 apart:∀k k' v v',k≠k'->F k=some v->F k'=some v'->v.ownBlock≠v'.ownBlock
structure GrpAt(a0 w:World)(M n:Nat)(G:ByteArray->List GPlace):Prop where
 ex:∃F:ByteArray->Option Value,MapK keyS w M n F/\GrpF a0 w F G
 lo:a0.heap.size<=M
theorem GrpF.gr{a0 w w':World}{F:ByteArray->Option Value}{G:ByteArray->List GPlace}(h:GrpF a0 w F G)(g:Gr w w'):GrpF a0 w' F G:=⟨h.non,fun k v hv=>(h.own k v hv).gr g,h.apart⟩
theorem zeroPl(w:World):(zeroValue 57).run Tryz.prog w=.ok (.slice none 0 0) w:=by kernel_rfl
theorem mapP_type:Tryz.prog.underlying 100=some (.map 9 57):=by kernel_rfl
theorem map_block{w:World}{M n:Nat}{F:ByteArray->Option Value}(h:MapK keyS w M n F):∃es clock,w.heap[M]?=some (.map es clock):=by
 obtain⟨D,⟨es,clock,hb,_⟩,_⟩:=h
 exact⟨es,clock,hb⟩
theorem GrpF.slot{a0 w:World}{M n:Nat}{F:ByteArray->Option Value}{G:ByteArray->List GPlace}(h:GrpF a0 w F G)(hm:MapK keyS w M n F)(k:ByteArray):OwnP a0 w ((F k).getD (.slice none 0 0)) (G k)/\((F k).getD (.slice none 0 0)).ownBlock≠some M:=by
 cases hF:F k with
 |none=>
  refine⟨?_,fun e=>by cases e⟩
  rw[(h.non k).1 hF]
  exact World.ownsRow_nil _ _ _ _
 |some v=>
  have hv:=h.own k v hF
  refine⟨hv,fun e=>?_⟩
  obtain⟨es,clock,hb⟩:=map_block hm
  obtain⟨b,cap,_,_,_,hob,hnm⟩:=hv.form' (fun e0=>by rw[(h.non k).2 e0]at hF;cases hF)
  have e:v.ownBlock=some M:=e
  rw[hob]at e
  cases e
  exact hnm es clock hb
theorem GrpF.step{a0 w w1 w2:World}{M n:Nat}{F:ByteArray->Option Value}{G:ByteArray->List GPlace}(h:GrpF a0 w F G)(hm:MapK keyS w M n F)(k:ByteArray){v':Value}{p:GPlace}(hmv:MovedH ((F k).getD (.slice none 0 0)) v' w w1)(ho:OwnP a0 w1 v' (G k++[p]))(hg:w1.grownBy w2 (some M)):
  GrpF a0 w2 (setK F k (some v')) (fun i=>if i=k then G k++[p]else G i):=by
 obtain⟨hsl,hsM⟩:=h.slot hm k
 have hMn:=(hmv.2 M hm.lt hsM).1
 have hM1:=(hmv.2 M hm.lt hsM).2
 have oth:∀j v,j≠k->F j=some v->∃b,v.ownBlock=some b/\b<w.heap.size/\v'.ownBlock≠some b/\w2.heap[b]?=w.heap[b]?:=fun j v hj hF=>by
  have hv:=h.own j v hF
  obtain⟨b,cap,_,_,hlt,hob,hnm⟩:=hv.form' (fun e0=>by rw[(h.non j).2 e0]at hF;cases hF)
  have hne:((F k).getD (.slice none 0 0)).ownBlock≠some b:=by
   cases hk:F k with
   |none=>intro e;cases e
   |some u=>
    have:=h.apart j k v u hj hF hk
    rw[hob]at this
    exact fun e=>this e.symm
  obtain⟨m1,m2⟩:=hmv.2 b hlt hne
  have hbM:b≠M:=fun e=>by
   obtain⟨es,clock,hb⟩:=map_block hm
   rw[e]at hnm
   exact hnm es clock hb
  exact⟨b,hob,hlt,m1,(hg.block b (Nat.lt_of_lt_of_le hlt hmv.1) (fun e=>hbM (Option.some.inj e))).trans m2⟩
 refine⟨fun j=>?_,fun j v hv=>?_,fun j j' v u hjj hv hu=>?_⟩
 ·by_cases e:j=k
  ·subst e
   rw[setK_same,if_pos rfl]
   simp
  ·rw[setK_other _ _ e,if_neg e]
   exact h.non j
 ·by_cases e:j=k
  ·subst e
   rw[setK_same]at hv
   cases hv
   rw[if_pos rfl]
   refine ho.block fun b hb=>hg.block b (ownBlock_lt ho.row b hb) fun e=>?_
   have:=Option.some.inj e
   rw[this]at hb
   exact hMn hb
  ·rw[setK_other _ _ e]at hv
   rw[if_neg e]
   obtain⟨b,hob,_,_,hbb⟩:=oth j v e hv
   refine(h.own j v hv).block fun b2 hb2=>?_
   rw[hob]at hb2
   cases hb2
   exact hbb
 ·by_cases e:j=k
  ·subst e
   rw[setK_same]at hv
   cases hv
   rw[setK_other _ _ (fun e=>hjj e.symm)]at hu
   obtain⟨b,hob,_,hne,_⟩:=oth j' u (fun e=>hjj e.symm) hu
   rw[hob]
   exact hne
  ·rw[setK_other _ _ e]at hv
   obtain⟨b,hob,_,hne,_⟩:=oth j v e hv
   by_cases e':j'=k
   ·subst e'
    rw[setK_same]at hu
    cases hu
    rw[hob]
    exact fun h=>hne h.symm
   ·rw[setK_other _ _ e']at hu
    exact h.apart j j' v u hjj hv hu
structure GrpL(a0 w:World)(M n:Nat)(G:ByteArray->List GPlace)(lo:Nat):Prop where
 at0:a0.heap.size<=M
 ex:∃F:ByteArray->Option Value,MapK keyS w M n F/\GrpF a0 w F G/\∀k v,F k=some v->∀b,v.ownBlock=some b->lo<=b
theorem GrpL.gr{a0 w w':World}{M n:Nat}{G:ByteArray->List GPlace}{lo:Nat}(h:GrpL a0 w M n G lo)(g:Gr w w'):GrpL a0 w' M n G lo:=by
 obtain⟨h5,F,h1,h2,h3⟩:=h
 exact⟨h5,F,h1.gr g,h2.gr g,h3⟩
theorem GrpL.step{w0 w w1 w2 w4:World}{M n:Nat}{F:ByteArray->Option Value}{G:ByteArray->List GPlace}{lo:Nat}(h0:w0.heap.size<=M)(hgf:GrpF w0 w F G)(hm:MapK keyS w M n F)(hl:∀k v,F k=some v->∀b,v.ownBlock=some b->lo<=b)(hlo:lo<=w.heap.size)(k:ByteArray){v':Value}{p:GPlace}
  (hmv:MovedH ((F k).getD (.slice none 0 0)) v' w w1) (ho:OwnP w0 w1 v' (G k++[p])) (hm4:MapK keyS w4 M (n+1) (setK F k (some v'))) (hg:w1.grownBy w4 (some M)) (g0:Gr w0 w) (g1:Gr w0 w1) (hx:GrX (fun x=>x=M\/lo<=x) w2 w) (h2:lo=w2.heap.size):
  GrpL w0 w4 M (n+1) (fun i=>if i=k then G k++[p]else G i) lo/\Gr w0 w4/\GrX (fun x=>x=M\/lo<=x) w2 w4:=by
 have hown:∀b,((F k).getD (.slice none 0 0)).ownBlock=some b->lo<=b:=fun b hb=>by
  cases hF:F k with
  |none=>rw[hF]at hb;cases hb
  |some v=>rw[hF]at hb;exact hl k v hF b hb
 have hv':∀b,v'.ownBlock=some b->lo<=b:=fun b hb=>by
  rcases Nat.lt_or_ge b lo with h|h
  ·have:=(hmv.2 b (by omega) (fun e=>by have:=hown b e;omega)).1
   exact absurd hb this
  ·exact h
 have g14:GrX (fun x=>x=M) w1 w4:=GrX.of_grown hg rfl
 refine⟨⟨h0,_,hm4,hgf.step hm k hmv ho hg,fun j v hv=>?_⟩,g14.gr g1 (fun j e=>by have e:j=M:=e;omega),?_⟩
 ·by_cases e:j=k
  ·subst e
   rw[setK_same]at hv
   cases hv
   exact hv'
  ·rw[setK_other _ _ e]at hv
   exact hl j v hv
 ·refine GrX.trans hx ⟨g14.1.trans (g1.os.trans g0.os.symm),g14.2.1.trans (g1.tape.trans g0.tape.symm),g14.2.2.1.trans (g1.output.trans g0.output.symm),Nat.le_trans hmv.1 hg.size,fun x hxs hns=>?_⟩
  have h3:¬x=M:=fun e=>hns (.inl e)
  have h4:¬lo<=x:=fun e=>hns (.inr e)
  have hxl:x<w.heap.size:=hxs
  exact(g14.block (Nat.lt_of_lt_of_le hxl hmv.1) h3).trans (hmv.2 x hxl (fun e=>h4 (hown x e))).2
theorem words_w(row:Int)(s:ByteArray)(hs:s.size<=1000)(w:World)(he:EndsAt w)(hfew:(splitS s).length<=1000)(hw:∀x∈splitS s,x.size<=1000):
  Calls Tryz.prog 41 #[.int .i64 row,.string s] w fun e w'=>∃M,e=.returned (.map (some M))/\GrpAt w w' M 1000 (fun wd=>occ row wd (splitS s) 0)/\Gr w w':=by
 have hsp:=split_t s (by omega)
 obtain⟨ws,hws⟩:∃ws,splitS s=ws:=⟨_,rfl⟩
 simp only[hws]at hsp hfew hw⊢
 have HSP:=Lib.hid hsp
 have HE:=Lib.hid he
 have hmm:=@run_makeMap Tryz.prog
 clear hsp he hws hs
 go_enter Tryz.func41,Tryz.ntmps41
 go_wp2_with fail
 have gA:Gr w (w.alloc (.map #[] 0)):=(Gr.refl w).alloc _
 have hgrp:∀n,GrpL w (w.alloc (.map #[] 0)) w.heap.size 0 (fun wd=>occ row wd (ws.take 0) 0) n:=fun n=>⟨Nat.le_refl _,_,MapK.made w,⟨fun k=>by simp[occ],(fun k v h=>by cases h),(fun k k' v v' _ h=>by cases h)⟩,fun k v h=>by cases h⟩
 have hsp:=HSP.out (w.alloc (.map #[] 0)) (HE.out.gr gA)
 have HG:=Lib.hid (And.intro gA hgrp)
 clear gA hgrp
 refine hsp.mono ?_
 rintro e w2 ⟨v2,rfl,ho2,hg2⟩
 obtain⟨ao,c,b,rfl,hao,hst⟩:=own_open ho2
 have hgr2:=(HG.out.2 w2.heap.size).gr hg2
 have hg02:=HG.out.1.trans hg2
 obtain⟨M0,hM0⟩:∃M0,w.heap.size=M0:=⟨_,rfl⟩
 rw[hM0]at hgr2⊢
 have HGR:=Lib.hid hgr2
 have HG2:=Lib.hid hg02
 have HST:=Lib.hid hst
 have HAO:=Lib.hid hao
 clear ho2 hg2 hsp hgr2 hg02 hao hst hM0
 go_wp2_with fail
 go_loopw [12] (fun iv w'=>∃i:Nat,i<=ws.length/\iv=.int .i64 i/\GrpL w w' M0 i (fun wd=>occ row wd (ws.take i) 0) w2.heap.size/\Gr w w'/\GrX (fun x=>x=M0\/w2.heap.size<=x) w2 w') (fun iv _=>ws.length-(intOf iv).toNat)
 case atStart=>exact⟨0,Nat.zero_le _,rfl,HGR.out,HG2.out,GrX.refl _ _⟩
 case round=>
  obtain⟨i,hi,rfl,hgp,hg,hx⟩:=hrel
  by_cases hlt:i<ws.length
  ·have hil:(i:Int)<(ws.length:Int):=by omega
   have hb0:=HAO.out (by omega)
   subst hb0
   obtain⟨hlo,F,hm,hgf,hbs⟩:=hgp
   have c2:=HST.out i hlt
   rw[Nat.zero_add]at c2
   have hbM:b≠M0:=fun e=>by
    obtain⟨_,F0,hm0,_⟩:=HGR.out
    obtain⟨es,clock,hb⟩:=map_block hm0
    rw[e]at c2
    simp[World.cell?,hb]at c2
   have hbl:=lt_of_cell c2
   have ck:=hx.keeps (fun e=>by omega) c2
   obtain⟨k,hk⟩:∃k,ws[i]=k:=⟨_,rfl⟩
   rw[hk]at ck
   have hks:k.size<=maxLen:=by
    have:=hw ws[i] (List.getElem_mem hlt)
    rw[hk]at this
    unfold maxLen
    omega
   have hsl:=hgf.slot hm k
   obtain⟨vk,hvk⟩:∃vk,(F k).getD (.slice none 0 0)=vk:=⟨_,rfl⟩
   rw[hvk]at hsl
   have HSL:=Lib.hid hsl
   have HMM:=Lib.hid hm
   have HGF:=Lib.hid hgf
   have HVK:=Lib.hid hvk
   have HGG:=Lib.hid hg
   have HXX:=Lib.hid hx
   have HK:=Lib.hid hk
   have hol:(occ row k (ws.take i) 0).length+1<=1000000:=by
    have h3:∀(xs:List ByteArray) (j:Nat),(occ row k xs j).length<=xs.length:=fun xs=>by
      induction xs with
      |nil=>intro j;exact Nat.le_refl _
      |cons x xs ih=>
        intro j
        have:=ih (j+1)
        unfold occ
        split
        ·rw[List.length_cons,List.length_cons]
         omega
        ·rw[List.length_cons]
         omega
    have h4:=h3 (ws.take i) 0
    rw[List.length_take]at h4
    omega
   have HOL:=Lib.hid hol
   clear hm hgf hg hx c2 hk hsl hvk hol hbl
   go_wp2_with(first
    |( at_lookup;refine wpList_lookK (kk:=keyS) mapP_type zeroPl rfl _ _ rfl HMM.out rfl (k:=k) rfl hks HVK.out ?_)
    |( at_builtin;refine append_place1 (a0:=w) rfl _ _ rfl _ (occ row k (ws.take i) 0) rfl HSL.out.1 (row,(i:Int)) rfl HOL.out HGG.out ?_;intro v3 w3 ho3 hg3 hmv3)
    |( at_mapUpdate;refine wpList_storeK (kk:=keyS) mapP_type rfl _ _ _ rfl (HMM.out.block (hmv3.2 M0 HMM.out.lt HSL.out.2).2) (by omega) rfl (k:=k) rfl hks rfl ?_;intro w4 hm4 hg4))
   rw[<-HVK.out]at hmv3
   obtain⟨s1,s2,s3⟩:=GrpL.step hlo HGF.out HMM.out hbs HXX.out.2.2.2.1 k hmv3 ho3 hm4 hg4 HGG.out hg3 HXX.out rfl
   refine⟨⟨i+1,hlt,by go_num,?_,s2,s3⟩,by simp[intOf];omega⟩
   have e:(fun j=>if j=k then occ row k (ws.take i) 0++[(row,(i:Int))]else occ row j (ws.take i) 0)=fun wd=>occ row wd (ws.take (i+1)) 0:=by
    funext j
    rw[List.take_succ_eq_append_getElem hlt,occ_append,HK.out]
    have e2:(ws.take i).length=i:=by rw[List.length_take];omega
    rw[e2,Nat.zero_add]
    by_cases ej:j=k
    · subst ej
      rw[if_pos rfl]
      unfold occ
      rw[if_pos rfl]
      rfl
    · rw[if_neg ej]
      have:occ row j [k] i=[]:=occ_nil.2 (by simpa using ej)
      rw[this,List.append_nil]
   rw[e]at s1
   exact s1
  ·have hil:¬(i:Int)<(ws.length:Int):=by omega
   have hie:ws.take i=ws:=List.take_of_length_le (by omega)
   rw[hie]at hgp
   have HE:=Lib.hid (And.intro hgp hg)
   clear hgp hg hx hie
   go_wp2_with fail
   go_ret
   obtain⟨h3,F,h1,h2,_⟩:=HE.out.1
   obtain⟨D,h4,h5⟩:=h1
   exact⟨M0,rfl,⟨⟨F,⟨D,h4.mono (by omega),h5⟩,h2⟩,h3⟩,HE.out.2⟩
theorem add1_n(W:World)(B:Nat)(k:Int)(x:GPlace)(h:W.cell? ⟨B,0,none⟩=some (.int .i64 k)):
  Calls Tryz.prog 43 #[x.val,.pointer (some ⟨B,0,none⟩)] W (Ret W (.bool (x.1==k))):=by
 obtain⟨x1,x2⟩:=x
 unfold GPlace.val
 have g1:Gr W (W.alloc (.cells #[.int .i64 x1,.int .i64 x2] 104)):=(Gr.refl W).alloc _
 have c0:(W.alloc (.cells #[.int .i64 x1,.int .i64 x2] 104)).cell? ⟨W.heap.size,0,none⟩=some (.int .i64 x1):=by rw[World.cell?_alloc_new];rfl
 have c1:=g1.keeps h
 go_enter Tryz.func43,Tryz.ntmps43
 go_wp2_with fail
 go_ret
 exact Ret.mk rfl g1
structure BaseAt(w0:World)(PB DB M:Nat):Prop where
 ends:EndsAt w0
 err:ErrTypeAt w0
 max:MaxAt w0
 lo:w0.heap.size<=PB/\w0.heap.size<=DB/\w0.heap.size<=M
theorem BaseAt.pg{w0 w w':World}{PB DB M:Nat}(h:BaseAt w0 PB DB M)(g:Gr w0 w)(k:PgF PB DB M M w w'):Gr w0 w':=k.2.gr g fun b hb=>by
 rcases hb with rfl|rfl|rfl
 ·exact h.lo.1
 ·exact h.lo.2.1
 ·exact h.lo.2.2
theorem OwnR.rem{a0 w:World}{v:Value}{xs:List GPlace}(h:OwnR a0 w v xs){PB DB M:Nat}(hl:PB<a0.heap.size/\DB<a0.heap.size/\M<a0.heap.size):RemP PB DB M w v xs:=by
 rcases h with h|⟨B,cap,h1,h2,h3,h4,h5⟩
 ·exact .inl h
 ·refine .inr ⟨B,0,cap,h1,h2,h4,⟨by omega,by omega,by omega⟩,fun i hi=>?_⟩
  have:=h5 i hi
  rw[Nat.zero_add]
  exact⟨this.1.1,this.2.1⟩
structure GrpR(PB DB M:Nat)(w:World)(MB n:Nat)(G:ByteArray->List GPlace):Prop where
 ex:∃F:ByteArray->Option Value,MapK keyS w MB n F/\(∀k,F k=none↔G k=[])/\∀k v,F k=some v->RemP PB DB M w v (G k)
 off:MB≠PB/\MB≠DB/\MB≠M
theorem GrpAt.rem{a0 w:World}{MB n:Nat}{G:ByteArray->List GPlace}(h:GrpAt a0 w MB n G){PB DB M:Nat}(hl:PB<a0.heap.size/\DB<a0.heap.size/\M<a0.heap.size):GrpR PB DB M w MB n G:=by
 obtain⟨⟨F,h1,h2⟩,h5⟩:=h
 exact⟨⟨F,h1,h2.non,fun k v hv=>(h2.own k v hv).own.rem hl⟩,by omega⟩
theorem GrpR.gr{PB DB M:Nat}{w w':World}{MB n:Nat}{G:ByteArray->List GPlace}(h:GrpR PB DB M w MB n G)(g:Gr w w'):GrpR PB DB M w' MB n G:=by
 obtain⟨⟨F,h1,h2,h3⟩,h5⟩:=h
 exact⟨⟨F,h1.gr g,h2,fun k v hv=>(h3 k v hv).gr g⟩,h5⟩
theorem GrpR.pg{PB DB M:Nat}{w w':World}{MB n:Nat}{G:ByteArray->List GPlace}(h:GrpR PB DB M w MB n G)(g:PgF PB DB M M w w'):GrpR PB DB M w' MB n G:=by
 obtain⟨⟨F,h1,h2,h3⟩,h5⟩:=h
 exact⟨⟨F,h1.block (g.2.block h1.lt (by omega)),h2,fun k v hv=>(h3 k v hv).pg g⟩,h5⟩
theorem RemP.grown{PB DB M:Nat}{w w':World}{MB:Nat}{v:Value}{xs:List GPlace}(h:RemP PB DB M w v xs)(hm:∃es clock,w.heap[MB]?=some (.map es clock))(g:w.grownBy w' (some MB)):RemP PB DB M w' v xs:=by
 rcases h with h|⟨b,off,c,h1,h2,h3,h4,h5⟩
 ·exact .inl h
 ·refine .inr ⟨b,off,c,h1,h2,Nat.lt_of_lt_of_le h3 g.size,h4,fun i hi=>?_⟩
  have hne:b≠MB:=fun e=>by
   obtain⟨es,clock,hb⟩:=hm
   have h6:=(h5 i hi).1
   rw[e]at h6
   simp[World.cell?,hb]at h6
  have hb:=g.block b h3 (fun e=>hne (Option.some.inj e))
  exact⟨(World.cell?_of_block hb).trans (h5 i hi).1,(World.cell?_of_block hb).trans (h5 i hi).2⟩
theorem GrpR.del{PB DB M:Nat}{w w':World}{MB n:Nat}{F:ByteArray->Option Value}{G:ByteArray->List GPlace}(hm:MapK keyS w MB n F)(h2:∀k,F k=none↔G k=[])(h3:∀k v,F k=some v->RemP PB DB M w v (G k))(h5:MB≠PB/\MB≠DB/\MB≠M)(k:ByteArray)(hm':MapK keyS w' MB n (setK F k none))(g:w.grownBy w' (some MB)):
  GrpR PB DB M w' MB n (fun i=>if i=k then[]else G i):=by
 refine⟨⟨_,hm',fun j=>?_,fun j v hv=>?_⟩,h5⟩
 ·by_cases e:j=k
  ·subst e
   rw[setK_same,if_pos rfl]
   simp
  ·rw[setK_other _ _ e,if_neg e]
   exact h2 j
 ·by_cases e:j=k
  ·subst e
   rw[setK_same]at hv
   cases hv
  ·rw[setK_other _ _ e]at hv
   rw[if_neg e]
   exact(h3 j v hv).grown (map_block hm) g
theorem pieceK_len(n wd:ByteArray)(PS:List (List GPlace))(row:Int):(pieceK n wd PS row).2.length<=PS.flatten.length:=by
 unfold pieceK
 cases cntR PS row with
 |zero=>exact Nat.zero_le _
 |succ k=>
  simp only
  cases h:PS[k]? with
  |none=>exact Nat.zero_le _
  |some l=>
   obtain⟨hk,e⟩:=List.getElem?_eq_some_iff.1 h
   have h3:PS=PS.take k++PS[k]::PS.drop (k+1):=by
    rw[<-List.drop_eq_getElem_cons hk,List.take_append_drop]
   have h4:=congrArg (fun z=>(List.flatten z).length) h3
   simp only[List.flatten_append,List.flatten_cons,List.length_append]at h4
   rw[<-e]
   simp only
   omega
theorem occ_le(r:Int)(wd:ByteArray):∀(xs:List ByteArray) (j:Nat),(occ r wd xs j).length<=xs.length
 |[],_=>Nat.le_refl _
 |x::xs,j=>by
  have:=occ_le r wd xs (j+1)
  unfold occ
  split
  ·rw[List.length_cons,List.length_cons]
   omega
  ·rw[List.length_cons]
   omega
theorem PgF.after{PB DB M MB:Nat}{w w1 w2:World}(h:PgF PB DB M M w w1)(g:GrX (fun b=>b=MB) w1 w2)(hM:w.heap.size<=MB):PgF PB DB M M w w2:=
 ⟨.inl rfl,g.1.trans h.2.1,g.2.1.trans h.2.2.1,g.2.2.1.trans h.2.2.2.1,Nat.le_trans h.2.2.2.2.1 g.2.2.2.1,fun k hk hs=>(g.2.2.2.2 k (Nat.lt_of_lt_of_le hk h.2.2.2.2.1) (fun e=>by have e:k=MB:=e;omega)).trans (h.2.2.2.2.2 k hk hs)⟩
theorem FdW.keepX{S:Nat->Prop}{w w':World}{FP TP PB DB M:Nat}{c:Ch}{sv:Head}{t:Int}{d:Dk}(h:FdW w FP TP PB DB M c sv t d)(g:GrX S w w')(hS:¬S FP/\¬S TP/\¬S PB/\¬S DB/\¬S M):FdW w' FP TP PB DB M c sv t d:=
 ⟨h.pg.keepX g hS.2.2.1 hS.2.2.2.1 hS.2.2.2.2,g.keeps hS.1 h.p,⟨g.keeps hS.2.1 h.t.p,g.keeps hS.2.1 h.t.r⟩,h.fn,h.tn⟩
section
variable{w0 w:World}{FP TP PB DB M:Nat}{c:Ch}{sv:Head}{t:Int}{d:Dk}
structure AddAt(Q:Ch->Tr->Prop)(w0 w1 w:World)(FP TP PB DB M:Nat)(sv:Head)(t:Int)(d:Dk)(n:ByteArray)(row:Int)(ws:List ByteArray)(MB:Nat)(dn rest:List ByteArray):Prop where
 ex:∃c X,FdW w FP TP PB DB M c sv t d/\AddsOk d.pg n row ws Q dn rest c X
 grp:GrpR PB DB M w MB 1000 (fun wd=>if wd∈dn then[]else occ row wd ws 0)
 fr:PgF PB DB M M w1 w
 gr0:Gr w0 w
theorem add_w{Q:Ch->Tr->Prop}(hB:BaseAt w0 PB DB M)(hg0:Gr w0 w)(hF:FdW w FP TP PB DB M c sv t d){X:Tr}(hl:X.lays c d.pg 3){n text:ByteArray}(hn:OkW n)(hn1:1<=n.size/\n.size<=16){row:Int}(hrow:1<=row/\row<=1073741824)(htx:text.size<=40)
  (hhas:∀wd∈splitS text,OkW wd/\∃PS,HasW X n wd PS/\∀p∈PS.flatten,p.1≠row) {N:Nat} (hcnt:(X.get manyK=none/\N=0)\/X.get manyK=some (cntB N)) (hN:N+(splitS text).length<=500)
  (hput:∃c1 X1,putR c 3 X manyK (cntB (N+(splitS text).length))=(c1,X1,0)/\AddsOk d.pg n row (splitS text) Q [] (splitS text) c1 X1):
  Calls Tryz.prog 10 #[.pointer (some ⟨FP,0,none⟩),.string n,.int .i64 row,.string text] w fun e w'=>e=.returned .nilIface/\∃c' X',FdW w' FP TP PB DB M c' sv t d/\Q c' X'/\PgF PB DB M M w w':=by
 have hright:=fun W=>right_w (n:=n) (r:=row) hn hn1 hrow W
 have hwords:=fun(W:World) (g:Gr w0 W)=>words_w row text (by omega) W (hB.ends.gr g) (by omega) (fun x hx=>by have:=(hhas x hx).1.len;rw[size_data];omega)
 have hsplit:=fun(W:World) (g:Gr w0 W)=>split_t text (by omega) W (hB.ends.gr g)
 obtain⟨ws,hws⟩:∃ws,splitS text=ws:=⟨_,rfl⟩
 simp only[hws]at hwords hsplit hhas hN hput
 have HRT:=Lib.hid hright
 have HWD:=Lib.hid hwords
 have HSP:=Lib.hid hsplit
 have HHAS:=Lib.hid hhas
 have HX:=Lib.hid (And.intro hB (And.intro hg0 (And.intro hF (And.intro hl (And.intro hn (And.intro hrow (And.intro hcnt hput)))))))
 have htxi:¬(40:Int)<(text.size:Int):=by omega
 clear hright hwords hsplit hhas hB hg0 hF hl hn hn1 hrow hcnt hput hws
 go_enter Tryz.func10,Tryz.ntmps10
 go_wp2_with fail
 have gA:Gr w (w.alloc (.cells #[.int .i64 row] 3)):=(Gr.refl w).alloc _
 have b0:=box_newT w (.int .i64 row) 3
 obtain⟨RB,hRB⟩:∃RB,w.heap.size=RB:=⟨_,rfl⟩
 rw[hRB]at b0⊢
 have hRl:RB≠PB/\RB≠DB/\RB≠M:=by
  have:=HX.out.2.2.1.lt
  omega
 obtain⟨W1,hW1⟩:∃W1,w.alloc (.cells #[.int .i64 row] 3)=W1:=⟨_,rfl⟩
 rw[hW1]at gA b0⊢
 have hrt:=HRT.out W1
 have HGA:=Lib.hid gA
 have HRL:=Lib.hid hRl
 have HB0:=Lib.hid b0
 clear gA hW1 hRB hRl b0
 refine hrt.mono ?_
 rintro e w2 ⟨rfl,hg2⟩
 have b2:=hg2.keeps HB0.out
 have hg02:=HGA.out.trans hg2
 have hwd:=HWD.out w2 (HX.out.2.1.trans hg02)
 have HWD2:=Lib.hid hwd
 have HG2:=Lib.hid hg02
 clear hrt hg2 hg02 hwd
 go_wp2_with fail
 refine HWD2.out.mono ?_
 rintro e w3 ⟨MB,rfl,hgrp,hg3⟩
 have hlt:=HX.out.2.2.1.lt
 have hw2s:=HG2.out.size
 have HMB:=Lib.hid (And.intro hgrp.lo hw2s)
 have hRB2:=lt_of_cell b2
 have HRB:=Lib.hid (show RB<MB from Nat.lt_of_lt_of_le hRB2 hgrp.lo)
 clear hRB2
 obtain⟨⟨F,hmF,hnF,hrF⟩,hoff⟩:=hgrp.rem (PB:=PB) (DB:=DB) (M:=M) (by omega)
 have HG3:=Lib.hid (HG2.out.trans hg3)
 have HB3:=Lib.hid (hg3.keeps b2)
 have HMF:=Lib.hid hmF
 have HNF:=Lib.hid hnF
 have HRF:=Lib.hid hrF
 have HOFF:=Lib.hid hoff
 have HF3:=Lib.hid (HX.out.2.2.1.gr HG3.out)
 have HLT:=Lib.hid (And.intro HF3.out.lt (lt_of_cell HB3.out))
 obtain⟨IT,hIT⟩:∃IT,w3.heap.size=IT:=⟨_,rfl⟩
 have HIT:=Lib.hid hIT
 clear hgrp hg3 hlt hw2s hmF hnF hrF hoff hIT b2
 go_wp2_with(at_range;refine wpList_rangeK (kk:=keyS) mapP_type rfl _ rfl HMF.out rfl ?_;intro w4 cnt4 hr4 hg4 hs4)
 rw[HIT.out]at hr4⊢
 go_frame
 have hx34:GrX (fun b=>b=IT) w3 w4:=GrX.of_gr ⟨hg4.os,hg4.tape,hg4.output,hg4.size,fun k hk=>hg4.block k hk (by simp)⟩
 have HX34:=Lib.hid hx34
 go_loopw [11] (fun _ w'=>∃left cnt,RangeK keyS w' MB IT 1000 F left cnt/\GrX (fun b=>b=IT) w3 w') (fun _ w'=>w'.rangeLeft MB IT)
 case atStart=>exact⟨_,_,hr4,hx34⟩
 case round=>
  obtain⟨left,cnt,hrg,hx⟩:=hrel
  have HRG:=Lib.hid hrg
  have HXX:=Lib.hid hx
  clear hr4 hg4 hs4 hx34 hx
  go_wp2_with(at_next;refine wpList_nextK (kk:=keyS) rfl _ rfl rfl hrg ?_ ?_)
  ·intro _ _
   clear hrg
   have g0r:Gr w0 wr:=HXX.out.gr (HX.out.2.1.trans HG3.out) (fun j e=>by
    have e:j=IT:=e
    have h1:=(HX.out.2.1.trans HG3.out).size
    have h2:=HIT.out
    omega)
   have hne:¬FP=IT/\¬TP=IT/\¬PB=IT/\¬DB=IT/\¬M=IT:=by
    have h1:=HLT.out.1
    have h2:=HIT.out
    omega
   have hsp:=HSP.out wr g0r
   have Fr:=HF3.out.keepX HXX.out hne
   have GP:GrpR PB DB M wr MB 1000 (fun wd=>if wd∈([]:List ByteArray)then[]else occ row wd ws 0):=by
    obtain⟨_,_,hmr⟩:=HRG.out
    refine⟨⟨F,HRG.out.map,fun k=>by simpa using HNF.out k,fun k v hv=>?_⟩,HOFF.out⟩
    have h9:RemP PB DB M wr v (occ row k ws 0):=by
     rcases HRF.out k v hv with h3|⟨b,off,c3,h3,h4,h5,h6,h7⟩
     ·exact .inl h3
     ·refine .inr ⟨b,off,c3,h3,h4,Nat.lt_of_lt_of_le h5 HXX.out.2.2.2.1,h6,fun i hi=>?_⟩
      have hb:¬b=IT:=by have:=HIT.out;omega
      exact⟨HXX.out.keeps hb (h7 i hi).1,HXX.out.keeps hb (h7 i hi).2⟩
    simpa using h9
   have BR:=HXX.out.keeps (fun e=>by have h1:=HLT.out.2;have h2:=HIT.out;omega) HB3.out
   have G0R:=Lib.hid g0r
   have FR:=Lib.hid Fr
   have GPR:=Lib.hid GP
   have HBR:=Lib.hid BR
   have FRR:=Lib.hid (show PgF PB DB M M w wr from⟨.inl rfl,GrX.trans (GrX.of_gr HG3.out) ⟨HXX.out.1,HXX.out.2.1,HXX.out.2.2.1,HXX.out.2.2.2.1,fun j hj _=>HXX.out.2.2.2.2 j hj (fun e=>by
    have e:j=IT:=e
    have:=HIT.out
    omega)⟩⟩)
   clear g0r hne Fr GP BR
   go_wp2_with fail
   refine hsp.mono ?_
   rintro e w5 ⟨v5,rfl,ho5,hg5⟩
   obtain⟨ao,co,b5,rfl,hao,hst⟩:=own_open ho5
   have hblk:0<ws.length->wr.heap.size<=b5:=fun h0=>ownBlock_ge ho5 b5 (by rw[hao h0];rfl)
   have HBLK:=Lib.hid hblk
   clear hblk
   have HAO:=Lib.hid hao
   have HST:=Lib.hid hst
   have HG5:=Lib.hid hg5
   have HB5:=Lib.hid (hg5.keeps HBR.out)
   have hmy:=many_w (FR.out.gr hg5) (HX.out.1.err.gr (G0R.out.trans hg5)) (HX.out.1.max.gr (G0R.out.trans hg5)) HX.out.2.2.2.1 (n:=N) (by omega) HX.out.2.2.2.2.2.2.1
   clear ho5 hg5 hsp hao hst
   go_wp2_with fail
   refine hmy.mono ?_
   rintro e w6 ⟨rfl,hg6⟩
   have HG6:=Lib.hid (HG5.out.trans hg6)
   have HB6:=Lib.hid (hg6.keeps HB5.out)
   have HST6:=Lib.hid (HST.out.gr hg6)
   obtain⟨c1,X1,hput,hadds⟩:=HX.out.2.2.2.2.2.2.2
   have had:=adds_w (FR.out.gr HG6.out) (HX.out.1.err.gr (G0R.out.trans HG6.out)) (HX.out.1.max.gr (G0R.out.trans HG6.out)) HX.out.2.2.2.1 (n:=N) (by omega) HX.out.2.2.2.2.2.2.1 (m:=(ws.length:Int)) (n2:=N+ws.length) (by omega) (by omega) hput
   have hwr:IntKind.i64.wrap ((N:Int)+(ws.length:Int))=((N+ws.length:Nat):Int):=by
    rw[IntKind.wrap_i64]
    omega
   have hle5:¬(500:Int)<((N+ws.length:Nat):Int):=by omega
   have HAD:=Lib.hid had
   have HADDS:=Lib.hid hadds
   clear hg6 hmy had hput hadds
   go_wp2_with fail
   refine HAD.out.mono ?_
   rintro e w7 ⟨rfl,hF7,hf7⟩
   have hfr7:=FRR.out.trans ((PgF.of_gr PB DB M HG6.out).trans hf7)
   have hbl:0<ws.length->b5<w6.heap.size/\(b5≠PB/\b5≠DB/\b5≠M):=fun h0=>by
    have h1:=HBLK.out h0
    have h2:=FR.out.lt
    have h3:=lt_of_cell (HST6.out 0 h0)
    omega
   have hst7:StrsAt w7 b5 0 ws:=fun i hi=>hf7.keeps (hbl (by omega)).2.1 (hbl (by omega)).2.2.1 (hbl (by omega)).2.2.2 (HST6.out i hi)
   have hb7:=hf7.keeps HRL.out.1 HRL.out.2.1 HRL.out.2.2 HB6.out
   have HS7:=Lib.hid (show AddAt Q w0 w w7 FP TP PB DB M sv t d n row ws MB [] ws from⟨⟨c1,X1,hF7,HADDS.out⟩,(GPR.out.gr HG6.out).pg hf7,hfr7,HX.out.1.pg HX.out.2.1 hfr7⟩)
   have HST7:=Lib.hid hst7
   have HB7:=Lib.hid hb7
   have HBL:=Lib.hid hbl
   clear hF7 hf7 hfr7 hst7 hb7 hbl
   go_wp2_with fail
   go_loopw [86] (fun iv w'=>∃(i:Nat) (dn:List ByteArray),i<=ws.length/\iv=.int .i64 i/\(∀x,x∈dn↔x∈ws.take i)/\AddAt Q w0 w w' FP TP PB DB M sv t d n row ws MB dn (ws.drop i)/\StrsAt w' b5 0 ws/\w'.cell? ⟨RB,0,none⟩=some (.int .i64 row)) (fun iv _=>ws.length-(intOf iv).toNat)
   case atStart=>exact⟨0,[],Nat.zero_le _,rfl,by simp,HS7.out,HST7.out,HB7.out⟩
   case round=>
    obtain⟨i,dn,hi,rfl,hdn,hs,hst,hb⟩:=hrel
    by_cases hlt:i<ws.length
    ·have hil:(i:Int)<(ws.length:Int):=by omega
     have hb0:=HAO.out (by omega)
     subst hb0
     have c5:=hst i hlt
     rw[Nat.zero_add]at c5
     have hdr:ws.drop i=ws[i]::ws.drop (i+1):=List.drop_eq_getElem_cons hlt
     have htk:ws.take (i+1)=ws.take i++[ws[i]]:=List.take_succ_eq_append_getElem hlt
     have hmem:ws[i]∈ws:=List.getElem_mem hlt
     obtain⟨wd,hwd⟩:∃wd,ws[i]=wd:=⟨_,rfl⟩
     rw[hwd]at c5 hdr htk hmem
     rw[hdr]at hs
     have hks:wd.size<=maxLen:=by
      have:=(HHAS.out wd hmem).1.len
      rw[size_data]
      unfold maxLen
      omega
     obtain⟨⟨F2,hm2,hn2,hr2⟩,_⟩:=hs.grp
     have HM2:=Lib.hid hm2
     by_cases hd:wd∈dn
     ·have hF2:F2 wd=none:=(hn2 wd).2 (if_pos hd)
      have HE:Hid (∃dn':List ByteArray,(∀x,x∈dn'↔x∈ws.take (i+1))/\AddAt Q w0 w wr FP TP PB DB M sv t d n row ws MB dn' (ws.drop (i+1))/\StrsAt wr b5 0 ws/\wr.cell? ⟨RB,0,none⟩=some (.int .i64 row)):=Lib.hid (by
       obtain⟨⟨c2,X2,hF2,hA2⟩,hgp,hfr,hg0⟩:=hs
       refine⟨wd::dn,fun x=>?_,⟨⟨c2,X2,hF2,hA2.1 hd⟩,?_,hfr,hg0⟩,hst,hb⟩
       · rw[htk,List.mem_append,<-hdn x]
         simp only[List.mem_cons,List.not_mem_nil,or_false]
         constructor
         · rintro(h|h)
           ·exact .inr h
           ·exact .inl h
         · rintro(h|h)
           ·exact .inr h
           ·exact .inl h
       · have e:(fun k=>if k∈wd::dn then([]:List GPlace)else occ row k ws 0)=fun k=>if k∈dn then[]else occ row k ws 0:=by
           funext k
           by_cases ek:k=wd
           ·subst ek
            rw[if_pos List.mem_cons_self,if_pos hd]
           ·by_cases ek2:k∈dn
            ·rw[if_pos ek2,if_pos (List.mem_cons_of_mem _ ek2)]
            ·rw[if_neg ek2,if_neg (by simp[ek,ek2])]
         rw[e]
         exact hgp)
      clear hs hst hb hn2 hr2 hdr htk hwd hmem hdn
      go_wp2_with(at_lookup;refine wpList_lookK_ok (kk:=keyS) mapP_type zeroPl rfl _ _ rfl HM2.out rfl (k:=wd) rfl hks (v:=.slice none 0 0) (b:=false) (by rw[hF2];rfl) (by rw[hF2];rfl) ?_)
      obtain⟨dn',h1,h2,h3,h4⟩:=HE.out
      exact⟨⟨i+1,dn',hlt,by go_num,h1,h2,h3,h4⟩,by simp[intOf];omega⟩
     ·obtain⟨v,hFv⟩:∃v,F2 wd=some v:=by
       cases h:F2 wd with
       |some v=>exact⟨v,rfl⟩
       |none=>
         have:=(hn2 wd).1 h
         rw[if_neg hd]at this
         exact absurd hmem (occ_nil.1 this)
      have hrv:=hr2 wd v hFv
      rw[if_neg hd]at hrv
      obtain⟨⟨c2,X2,hF2,hA2⟩,hgp,hfr,hg0⟩:=hs
      obtain⟨hl2,PS,hHas,hsv⟩:=hA2.2 hd
      have HFD:=Lib.hid hF2
      have HL2:=Lib.hid hl2
      have HHS:=Lib.hid hHas
      have HSV:=Lib.hid hsv
      have HFRR:=Lib.hid hfr
      have HG00:=Lib.hid hg0
      have HRV:=Lib.hid hrv
      have HN2:=Lib.hid hn2
      have HR2:=Lib.hid hr2
      have HSTT:=Lib.hid hst
      have HBB:=Lib.hid hb
      have HMEM:=Lib.hid hmem
      have HTK:=Lib.hid htk
      have HDN:=Lib.hid hdn
      clear hst hb hn2 hr2 hdr htk hwd hmem hdn hF2 hA2 hgp hfr hg0 hl2 hHas hsv hrv
      have C5:=Lib.hid c5
      go_wp2_with(first
       |( at_lookup;refine wpList_lookK_ok (kk:=keyS) mapP_type zeroPl rfl _ _ rfl HM2.out rfl (k:=wd) rfl hks (v:=v) (b:=true) (by rw[hFv];rfl) (by rw[hFv];rfl) ?_)
       |( at_delete;refine wpList_delK (kk:=keyS) mapP_type rfl _ _ rfl HM2.out rfl (k:=wd) rfl hks ?_;intro w8 hm8 hg8;have B8:=(GrX.of_grown (S:=fun b=>b=MB) hg8 rfl).keeps (by have:=HRB.out;omega) HBB.out))
      have hx8:GrX (fun b=>b=MB) wr w8:=GrX.of_grown hg8 rfl
      have hltF:=HX.out.2.2.1.lt
      have hMBo:=HOFF.out
      have hMBl:=HMB.out
      have F8:=HFD.out.keepX hx8 (by omega)
      have hb5M:b5≠MB:=fun e=>by
       obtain⟨es,clock,hbb⟩:=map_block HM2.out
       have h6:=C5.out
       rw[e]at h6
       simp[World.cell?,hbb]at h6
      have S8:StrsAt w8 b5 0 ws:=fun j hj=>hx8.keeps hb5M (HSTT.out j hj)
      have R8:=HRV.out.grown (map_block HM2.out) hg8
      have G8:=GrpR.del HM2.out HN2.out HR2.out HOFF.out wd hm8 hg8
      have FR8:=HFRR.out.after hx8 (by omega)
      have hpw:=piece_w F8 HL2.out HX.out.2.2.2.2.1 (HHAS.out wd HMEM.out).1 HHS.out HX.out.2.2.2.2.2.1
      have hplen:=pieceK_len n wd PS row
      have holen:=occ_le row wd ws 0
      have hsv:=HSV.out
      have hfw:=HHS.out.few
      obtain⟨pk,hpk⟩:∃pk,pieceK n wd PS row=pk:=⟨_,rfl⟩
      obtain⟨old,P⟩:=pk
      obtain⟨oc,hoc⟩:∃oc,occ row wd ws 0=oc:=⟨_,rfl⟩
      rw[hpk]at hpw hplen hsv
      rw[hoc]at hsv R8 holen
      have HF8:=Lib.hid F8
      have HS8:=Lib.hid S8
      have HB8:=Lib.hid B8
      have HR8:=Lib.hid R8
      have HG8:=Lib.hid G8
      have HFR8:=Lib.hid FR8
      have HPW:=Lib.hid hpw
      have HSV8:=Lib.hid hsv
      have HLEN:Hid (P.length+oc.length<=1000000):=Lib.hid (by
       simp only at hplen
       omega)
      clear F8 S8 B8 R8 G8 FR8 hpw hsv hpk hplen holen hfw hx8 hg8 hm8 hMBo hMBl hltF hb5M hoc c5
      refine HPW.out.mono ?_
      rintro e w9 ⟨v9,rfl,ho9,hg9⟩
      have hmg:=merge_p P oc v9 v w9 ho9.own.isP (HR8.out.isP.gr hg9) HLEN.out
      have HMG:=Lib.hid hmg
      have HG9:=Lib.hid hg9
      obtain⟨a9,c9,hf9⟩:=ho9.own.form
      clear hmg hg9 ho9
      simp only at hf9
      subst hf9
      go_wp2_with fail
      refine HMG.out.mono ?_
      rintro e w10 ⟨v10,rfl,ho10,hg10⟩
      have hg810:=HG9.out.trans hg10
      have hlt9:=(HF8.out.gr HG9.out).lt
      have hsw:=save_w HX.out.2.2.2.2.1 (HHAS.out wd HMEM.out).1 (HF8.out.gr hg810) HL2.out HSV8.out (ho10.rem (PB:=PB) (DB:=DB) (M:=M) (by omega))
      have HSW:=Lib.hid hsw
      have HG810:=Lib.hid hg810
      obtain⟨a10,c10,hf10⟩:=ho10.form
      clear hsw hg810 hlt9 ho10 hg10
      subst hf10
      go_wp2_with fail
      refine HSW.out.mono ?_
      rintro e w11 ⟨rfl,c11,X11,F11,hA11,hf11⟩
      have HE:Hid (∃dn':List ByteArray,(∀x,x∈dn'↔x∈ws.take (i+1))/\AddAt Q w0 w w11 FP TP PB DB M sv t d n row ws MB dn' (ws.drop (i+1))/\StrsAt w11 b5 0 ws/\w11.cell? ⟨RB,0,none⟩=some (.int .i64 row)):=Lib.hid (by
       have hbl:=HBL.out (by omega)
       have hfr:=HFR8.out.trans ((PgF.of_gr PB DB M HG810.out).trans hf11)
       refine⟨wd::dn,fun x=>?_,⟨⟨c11,X11,F11,hA11⟩,?_,hfr,HX.out.1.pg HX.out.2.1 hfr⟩,fun j hj=>hf11.keeps hbl.2.1 hbl.2.2.1 hbl.2.2.2 (HG810.out.keeps (HS8.out j hj)),hf11.keeps HRL.out.1 HRL.out.2.1 HRL.out.2.2 (HG810.out.keeps HB8.out)⟩
       · rw[HTK.out,List.mem_append,<-HDN.out x]
         simp only[List.mem_cons,List.not_mem_nil,or_false]
         constructor
         · rintro(h|h)
           ·exact .inr h
           ·exact .inl h
         · rintro(h|h)
           ·exact .inr h
           ·exact .inl h
       · have e:(fun k=>if k=wd then([]:List GPlace)else if k∈dn then[]else occ row k ws 0)=fun k=>if k∈wd::dn then[]else occ row k ws 0:=by
           funext k
           by_cases ek:k=wd
           ·subst ek
            rw[if_pos List.mem_cons_self,if_pos rfl]
           ·by_cases ek2:k∈dn
            ·rw[if_neg ek,if_pos ek2,if_pos (List.mem_cons_of_mem _ ek2)]
            ·rw[if_neg ek,if_neg ek2,if_neg (by simp[ek,ek2])]
         have h9:=(HG8.out.gr HG810.out).pg hf11
         rw[e]at h9
         exact h9)
      clear F11 hA11 hf11
      go_wp2_with fail
      obtain⟨dn',h1,h2,h3,h4⟩:=HE.out
      exact⟨⟨i+1,dn',hlt,by go_num,h1,h2,h3,h4⟩,by simp[intOf];omega⟩
    ·have hil:¬(i:Int)<(ws.length:Int):=by omega
     have hde:ws.drop i=[]:=List.drop_eq_nil_of_le (by omega)
     rw[hde]at hs
     have HE:Hid (∃c' X',FdW wr FP TP PB DB M c' sv t d/\Q c' X'/\PgF PB DB M M w wr):=Lib.hid (by
      obtain⟨⟨c2,X2,hF2,hA2⟩,_,hfr,_⟩:=hs
      exact⟨c2,X2,hF2,hA2,hfr⟩)
     clear hs hst hb hdn hde
     go_wp2_with fail
     go_ret
     obtain⟨c2,X2,h1,h2,h3⟩:=HE.out
     exact⟨rfl,c2,h1,⟨X2,h2⟩,h3⟩
  ·intro k v w5 cnt5 hk hlk hFk hrg5 hlt5 hg5 hs5 hen
   have hx5:GrX (fun b=>b=IT) w3 w5:=HXX.out.trans (GrX.of_grown hg5 rfl)
   have hne:¬FP=IT/\¬TP=IT/\¬PB=IT/\¬DB=IT/\¬M=IT:=by
    have h1:=HLT.out.1
    have h2:=HIT.out
    omega
   have F5:=HF3.out.keepX hx5 hne
   have hkm:k∈ws:=by
    rcases Decidable.em (k∈ws)with h|h
    ·exact h
    ·have:=(HNF.out k).2 (occ_nil.2 h)
     rw[this]at hFk
     cases hFk
   obtain⟨hOk,PS,hHas,hrow⟩:=HHAS.out k hkm
   have hpl:=places_w F5 HX.out.2.2.2.1 HX.out.2.2.2.2.1 hOk hHas
   have b5:=hx5.keeps (fun e=>by have h1:=HLT.out.2;have h2:=HIT.out;omega) HB3.out
   have hany:PS.flatten.any (fun x=>x.1==row)=false:=by
    rw[List.any_eq_false]
    intro x hx
    simpa using hrow x hx
   have hflen:=hHas.few
   obtain⟨PL,hPL⟩:∃PL,PS.flatten=PL:=⟨_,rfl⟩
   rw[hPL]at hpl hany hflen
   have HPL:=Lib.hid hpl
   have HX5:=Lib.hid hx5
   have HR5:=Lib.hid (And.intro hrg5 hlt5)
   have HB5:=Lib.hid b5
   have HANY:=Lib.hid hany
   clear hrg hk hlk hFk hrg5 hlt5 hg5 hs5 hx5 hne F5 hkm hOk hHas hrow hpl b5 hany hPL
   go_wp2_with fail
   refine HPL.out.mono ?_
   rintro e w6 ⟨v6,rfl,ho6,hg6⟩
   have hI6:=ho6.own.isP
   have hcf:=containsF_p PL v6 43 #[.pointer (some ⟨RB,0,none⟩)] (fun x=>x.1==row) w6 hI6 (by omega) (enters_of Tryz.func43 (by kernel_rfl) rfl) (fun W x g=>add1_n W RB row x (g.keeps (hg6.keeps HB5.out)))
   rw[HANY.out]at hcf
   obtain⟨a6,c6,hf6⟩:=hI6.form
   subst hf6
   have HCF:=Lib.hid hcf
   have HG6:=Lib.hid hg6
   clear ho6 hg6 hI6 hcf hen
   go_wp2_with fail
   refine HCF.out.mono ?_
   rintro e w7 ⟨rfl,hg7⟩
   have HG7:=Lib.hid (HG6.out.trans hg7)
   clear hg7
   go_wp2_with fail
   refine⟨⟨_,cnt5,HR5.out.1.gr HG7.out,HX5.out.trans (GrX.of_gr HG7.out)⟩,?_⟩
   rw[(HR5.out.1.gr HG7.out).left_eq,HRG.out.left_eq]
   exact HR5.out.2
end
abbrev GHit:Type:=Int×Int
def cntRow(l:List GPlace)(r:Int):Nat:=(l.filter fun p=>p.1==r).length
def joinH(kind:Int)(a b:Nat):Nat:=if kind=4 then(if 0<a/\0<b then a+b else 0)else if kind=5 then a+b else if kind=6 then(if b=0 then a else 0)else 0
abbrev Cw:Type:=(ByteArray->Bool)->List GPlace
def followP(a b:List GPlace):List GPlace:=b.filter (fun x=>!!aheadW a x)
def foldW(C:Cw):List GPlace->List ByteArray->List GPlace
 |a,[]=>a
 |a,x::r=>foldW C (followP a (C fun y=>decide (y=x))) r
def leafH(C:Cw)(kind:Int)(ws:List ByteArray)(far:Int)(r:Int):Nat:=
 if kind=1 then cntRow (foldW C (C fun y=>decide (y=ws.headD ⟨#[]⟩)) ws.tail) r
 else if kind=2 then cntRow (C fun y=>(ws.headD ⟨#[]⟩).data.toList.isPrefixOf y.data.toList) r
 else if r∈setOf lessI (nearRows far (C fun y=>decide (y=ws.headD ⟨#[]⟩)) (C fun y=>decide (y=ws.tail.headD ⟨#[]⟩)))then 1 else 0
def HQ(C:Cw):Qy->Int->Nat
 | .leaf kind ws far,r=>leafH C kind ws far r
 | .node kind a b,r=>joinH kind (HQ C a r) (HQ C b r)
end
section
open Go Go.RowKit Go.Shelf Go.Lib Go.Sort
theorem compact_squeezeS(zs:List (List UInt8)):Lib.compact zs=squeeze zs:=by
 have key:∀m,m<=zs.length->Lib.compactUpTo zs.toArray m=squeeze (zs.take m):=by
  intro m
  induction m with
  |zero=>intro _;rfl
  |succ m ih=>
   intro hm
   rw[Lib.compactUpTo_succ,ih (by omega)]
   rcases Nat.eq_zero_or_pos m with rfl|hp
   ·have:Lib.keeps zs.toArray 0=true:=by simp[Lib.keeps]
    rw[this,if_pos rfl]
    match zs,hm with
    |a::t,_=>simp[squeeze]
   ·rw[squeeze_next zs m hp (by omega)]
    have h1:zs.toArray[m]! =zs[m]:=by simp[show m<zs.length by omega]
    have h2:zs.toArray[m-1]! =zs[m-1]'(by omega):=by simp[show m-1<zs.length by omega]
    by_cases he:zs[m]=zs[m-1]'(by omega)
    ·rw[if_pos he,Lib.keeps_neg hp (by rw[h1,h2];exact he)]
     simp
    ·rw[if_neg he,Lib.keeps_pos (by rw[h1,h2];exact he),if_pos rfl,h1]
 unfold Lib.compact
 rw[key _ (Nat.le_refl _),List.take_length]
theorem squeeze_bytes:∀ws:List ByteArray,squeeze (ws.map fun x=>x.data.toList)=(squeeze ws).map fun x=>x.data.toList
 |[]=>rfl
 |[a]=>rfl
 |a::b::t=>by
  have ih:=squeeze_bytes (b::t)
  rw[List.map_cons,List.map_cons]at*
  by_cases e:a=b
  ·subst e
   have e1:squeeze (a::a::t)=squeeze (a::t):=if_pos rfl
   have e2:squeeze (a.data.toList::a.data.toList::t.map fun x=>x.data.toList)=squeeze (a.data.toList::t.map fun x=>x.data.toList):=if_pos rfl
   rw[e1,e2]
   exact ih
  ·have e0:¬a.data.toList=b.data.toList:=fun h=>e (bytes_ext h)
   have e1:squeeze (a::b::t)=a::squeeze (b::t):=if_neg e
   have e2:squeeze (a.data.toList::b.data.toList::t.map fun x=>x.data.toList)=a.data.toList::squeeze (b.data.toList::t.map fun x=>x.data.toList):=if_neg e0
   rw[e1,e2,List.map_cons,ih]
def IsS(w:World)(v:Value)(ws:List ByteArray):Prop:=∃(ao:Option Addr) (c b:Nat),v=.slice ao ws.length c/\(0<ws.length->ao=some ⟨b,0,none⟩/\b<w.heap.size)/\StrsAt w b 0 ws
theorem compactS_own(a0 w:World)(v:Value)(ws:List ByteArray)(h:OwnS w a0.heap.size v ws)(hg:Gr a0 w)(hl:ws.length<=1000000):
  Calls Tryz.prog 66 #[v] w fun e w'=>∃v',e=.returned v'/\IsS w' v' (squeeze ws)/\Gr a0 w':=by
 have hc:=fun g hg=>World.ownsRow.cells (g:=g) h hg
 rcases h.2 with⟨rfl,h0⟩|⟨g,cap,cur,rfl,hb,hh,hle,_⟩
 ·have:ws=[]:=List.eq_nil_of_length_eq_zero h0
  subst this
  refine(Tryz.slices_Compact_string_empty none 0 w).mono ?_
  rintro e w' ⟨rfl,rfl⟩
  exact⟨_,rfl,⟨none,0,0,rfl,(fun h=>absurd h (Nat.lt_irrefl _)),fun i hi=>absurd hi (Nat.not_lt_zero _)⟩,hg⟩
 ·have hbl:=(Array.getElem?_eq_some_iff.1 hh).1
  have e:∀j,(⟨g,0,none⟩:Addr).add j=⟨g,0+j,none⟩:=by
   intro j;unfold Addr.add;split<;>simp_all
  have hH:Holds encStr w g 0 (ws.map fun x=>x.data.toList).toArray:=fun j hj=>by
   have hj':j<ws.length:=by simpa using hj
   have c1:=hc g rfl j (.string ws[j]) (by simp[hj'])
   rw[e]at c1
   refine⟨?_,Lib.frozen_of_heap hh _⟩
   rw[c1]
   simp[hj',encStr]
  have hcon:=Tryz.slices_Compact_string g 0 cap (ws.map fun x=>x.data.toList) w hH (by rw[List.length_map];omega) (by rw[List.length_map];omega)
  rw[compact_squeezeS,squeeze_bytes,List.length_map,List.length_map]at hcon
  refine hcon.mono ?_
  rintro e2 w' ⟨rfl,q,rfl⟩
  have hsl:=squeeze_len ws
  obtain⟨D,hD⟩:∃D,(List.map (fun x:ByteArray=>x.data.toList) (squeeze ws)++List.replicate (ws.length-(squeeze ws).length) []).toArray=D:=⟨_,rfl⟩
  have hDs:D.size=ws.length:=by
   rw[<-hD]
   simp
   omega
  have hHD:=holds_putRow encStr (Sort.ahead w q) g 0 (ws.map fun x=>x.data.toList).toArray D (holds_ahead _ _ q _ _ _ hH) (by rw[hDs];simp)
  have hs:(putRow encStr (Sort.ahead w q) g 0 D).heap.size=w.heap.size:=by
   unfold putRow mapBlock
   simp[Sort.ahead]
  rw[hD]
  refine⟨_,rfl,⟨some ⟨g,0,none⟩,cap,g,rfl,fun _=>⟨rfl,by rw[hs];exact hbl⟩,fun i hi=>?_⟩,?_⟩
  ·have h7:=(hHD i (by rw[hDs];omega)).1
   have hi2:i<(List.map (fun x:ByteArray=>x.data.toList) (squeeze ws)).length:=by rw[List.length_map];exact hi
   have h8:D[i]! =(squeeze ws)[i].data.toList:=by
    rw[<-hD]
    simp only[List.getElem!_toArray]
    rw[List.getElem!_eq_getElem?_getD,List.getElem?_append_left hi2,List.getElem?_eq_getElem hi2]
    simp
   rw[h7,h8]
  ·have gx:GrX (fun b=>b=g) w (putRow encStr (Sort.ahead w q) g 0 D):=⟨rfl,rfl,rfl,by rw[hs];exact Nat.le_refl _,fun k hk hkg=>by
    unfold putRow mapBlock
    simp[Array.getElem?_modify,Ne.symm hkg]⟩
   exact gx.gr hg fun k hk=>by rw[hk];exact hb
structure BegW(X:Tr)(n:ByteArray)(ls:List (ByteArray×Int×ByteArray)):Prop where
 is:(walkR X (headN n)).takeWhile (fun x=>preB (headN n) x.1)=ls.map fun e=>(keyW n e.1 e.2.1,e.2.2)
 ok:∀e∈ls,OkW e.1/\(1<=e.2.1/\e.2.1<=1073741824)
 len:(walkR X (headN n)).length<=1000000
def begL(s:ByteArray)(ls:List (ByteArray×Int×ByteArray)):List ByteArray:=(ls.map (·.1)).filter fun x=>preB s x
theorem begL_next(s:ByteArray)(ls:List (ByteArray×Int×ByteArray))(i:Nat)(h:i<ls.length):begL s (ls.take (i+1))=begL s (ls.take i)++if preB s ls[i].1 then[ls[i].1]else[]:=by
 unfold begL
 rw[List.take_succ_eq_append_getElem h,List.map_append,List.filter_append]
 congr 1
 simp only[List.map_cons,List.map_nil,List.filter_cons,List.filter_nil]
theorem begL_le(s:ByteArray)(ls:List (ByteArray×Int×ByteArray)):(begL s ls).length<=ls.length:=by
 unfold begL
 have:=List.length_filter_le (fun x=>preB s x) (ls.map (·.1))
 rw[List.length_map]at this
 exact this
section
variable{w:World}{FP TP PB DB M:Nat}{c:Ch}{sv:Head}{t:Int}{d:Dk}
theorem begin_w(h:FdW w FP TP PB DB M c sv t d)(hMx:MaxAt w){X:Tr}(hl:X.lays c d.pg 3){n:ByteArray}(hn:OkW n){ls:List (ByteArray×Int×ByteArray)}(hb:BegW X n ls)(s:ByteArray):
  Calls Tryz.prog 18 #[.pointer (some ⟨FP,0,none⟩),.string n,.string s] w fun e w'=>∃v,e=.returned (.tuple #[v,.nilIface])/\IsS w' v (squeeze (begL s ls))/\Gr w w':=by
 obtain⟨i0,hi0,hz0,hz1,hz2⟩:=info_parts info_string
 have hp:=h.p
 have hlen:ls.length<=1000000:=by
  have h1:=hb.len
  have h2:=congrArg List.length hb.is
  rw[List.length_map]at h2
  have h3:=(List.takeWhile_sublist (fun x=>preB (headN n) x.1) (l:=walkR X (headN n))).length_le
  omega
 have hpx:=fun(W:World) (g:Gr w W)=>prefix_n (h.pg.gr g) (h.t.gr g) (by omega) (headN n) hl hb.len
 rw[hb.is]at hpx
 have hkc:=key_c [txV n] w.heap.size 1 _ (vals_oneT w n) (fine_in hn.fine fine_no) (by simp)
 have gA:Gr w (w.alloc (.cells #[.int .i64 2,.int .i64 0,.string n] 132)):=(Gr.refl w).alloc _
 have HPX:=Lib.hid hpx
 have HKC:Hid (Calls Tryz.prog 63 #[.slice (some ⟨w.heap.size,0,none⟩) 1 1] (w.alloc (.cells #[.int .i64 2,.int .i64 0,.string n] 132)) (Ret (w.alloc (.cells #[.int .i64 2,.int .i64 0,.string n] 132)) (.tuple #[.string (headN n),.nilIface]))):=Lib.hid hkc
 have HGA:=Lib.hid gA
 have HOK:=Lib.hid hb.ok
 have HMX:=Lib.hid hMx
 have HN:=Lib.hid hn
 have HI0:=Lib.hid (And.intro hi0 hz0)
 clear hpx hkc gA h hb hl hMx hn hi0 hz0
 go_enter Tryz.func18,Tryz.ntmps18
 go_wp2_with fail
 refine HKC.out.mono ?_
 rintro e w2 ⟨rfl,hg2⟩
 have hg02:=HGA.out.trans hg2
 have hp2:=hg02.keeps hp
 have hpx:=HPX.out w2 hg02
 have HP2:=Lib.hid hpx
 have HG2:=Lib.hid hg02
 clear hg2 hg02 hpx
 go_wp2_with fail
 refine HP2.out.mono ?_
 rintro e w3 ⟨v3,rfl,hq3,hg3⟩
 obtain⟨a3,c3,hf3⟩:=hq3.form
 rw[List.length_map]at hf3
 subst hf3
 have HQ3:=Lib.hid hq3
 have HG3:=Lib.hid (HG2.out.trans hg3)
 clear hq3 hg3 hp2
 go_wp2_with fail
 go_loopw [12,39] (fun ov iv w'=>∃i:Nat,i<=ls.length/\iv=.int .i64 i/\OwnS w' w3.heap.size ov (begL s (ls.take i))/\Gr w3 w') (fun _ iv _=>ls.length-(intOf iv).toNat)
 case atStart=>exact⟨0,Nat.zero_le _,rfl,World.ownsRow_nil _ _ _ _,Gr.refl _⟩
 case round=>
  obtain⟨i,hi,rfl,ho,hg⟩:=hrel
  by_cases hlt:i<ls.length
  ·have hil:(i:Int)<(ls.length:Int):=by omega
   obtain⟨B,rfl,hB,hcl⟩:∃B,a3=some ⟨B,0,none⟩/\B<w3.heap.size/\w3.cell? ⟨B,i*2,none⟩=some (.string (keyW n ls[i].1 ls[i].2.1))/\w3.cell? ⟨B,i*2+1,none⟩=some (.string ls[i].2.2):=by
    rcases HQ3.out with⟨_,h2⟩|⟨B,cap,h1,h2,h3,h4⟩
    ·rw[List.map_eq_nil_iff.1 h2]at hlt
     exact absurd hlt (by simp)
    ·rw[List.length_map]at h1
     cases h1
     have h5:=h4 i (by rw[List.length_map];exact hlt)
     simp only[List.getElem_map]at h5
     exact⟨B,rfl,h3,h5⟩
   have hok:=HOK.out ls[i] (List.getElem_mem hlt)
   have hnx:=begL_next s ls i hlt
   have hble:=begL_le s (ls.take i)
   rw[List.length_take]at hble
   obtain⟨⟨wd,r,item⟩,hel⟩:∃e,ls[i]=e:=⟨_,rfl⟩
   rw[hel]at hcl hok hnx
   simp only at hcl hok hnx
   have c0:=hg.keeps hcl.1
   have c1:=hg.keeps hcl.2
   have hrd:readL (keyW n wd r).data.toList=some [txV n,txV wd,nmV r]:=read_key [txV n,txV wd,nmV r] (fine_in HN.out.fine (fine_in hok.1.fine (fine_in (fine_num hok.2) fine_no)))
   have hks:(keyW n wd r).size<4294967281:=by
    have h1:=HN.out.len
    have h2:=hok.1.len
    rw[keyW_size,size_data,size_data]
    omega
   have hrt:=fun(W:World) (g:Gr w W)=>read_t (keyW n wd r) hks W (HMX.out.gr g)
   obtain⟨us,hus⟩:∃us,begL s (ls.take i)=us:=⟨_,rfl⟩
   rw[hus]at ho hnx hble
   obtain⟨K,hK⟩:∃K,keyW n wd r=K:=⟨_,rfl⟩
   rw[hK]at c0 hrd hrt
   have HRT:=Lib.hid hrt
   have HRD:=Lib.hid hrd
   have HNX:=Lib.hid hnx
   have HO:=Lib.hid ho
   have HG:=Lib.hid hg
   have HBLE:=Lib.hid hble
   clear hcl hok hnx hrd hks hrt hK hus ho hg hel hble
   go_wp2_with fail
   have gP:Gr wr (wr.alloc (.cells #[.string K,.string item] 140)):=(Gr.refl wr).alloc _
   have hg5:=HG.out.trans gP
   have HG5:=Lib.hid hg5
   have HGP:=Lib.hid gP
   have hrr:=HRT.out _ (HG3.out.trans hg5)
   refine hrr.mono ?_
   intro e w6 hpost
   unfold ReadPost at hpost
   rw[HRD.out]at hpost
   obtain⟨v6,rfl,hv6,hg6⟩:=hpost
   obtain⟨ao6,b6,cp6,rfl,hao6,hvals⟩:=hv6.vals
   have hao6:=hao6 (by simp)
   subst hao6
   have cw:w6.cell? ⟨b6,5,none⟩=some (.string wd):=(hvals 1 (by simp)).2.2
   have hl3:([txV n,txV wd,nmV r]:List GVal).length=3:=rfl
   rw[hl3]
   have hown6:=ownsRow_gr HO.out (HGP.out.trans hg6)
   have HG6:=Lib.hid (HG5.out.trans hg6)
   have HOW6:=Lib.hid hown6
   clear hrr hv6 hvals hl3 gP hg5 hg6 hown6
   cases hpb:preB s wd with
   |true=>
    rw[hpb,if_pos rfl]at HNX
    have HPB:=Lib.hid hpb
    clear hpb
    go_wp2_with(first
     |(go_at_call 60;refine(Tryz.strings_HasPrefix _ _ _).mono ?_;rintro e w7 ⟨rfl,rfl⟩;rw[hasPrefix_pre,HPB.out])
     |(at_builtin;refine append_one (a0:=w3) rfl _ _ 22 rfl 9 i0 (.string ⟨#[]⟩) 1 16 Tryz.underlying22 HI0.out.1 HI0.out.2 hz1 hz2 rfl (by decide) _ us.length (us.map Value.string) rfl HOW6.out [_] rfl (by simp;rfl) rfl HG6.out (by have:=HBLE.out;omega) (by have:=HBLE.out;omega) ?_;intro v8 w8 hown8 hg8))
    refine⟨⟨i+1,hlt,by go_num,?_,hg8⟩,by simp[intOf];omega⟩
    rw[HNX.out]
    unfold OwnS
    rw[List.length_append,List.map_append]
    exact hown8
   |false=>
    rw[hpb,if_neg (by simp),List.append_nil]at HNX
    have HPB:=Lib.hid hpb
    clear hpb
    go_wp2_with(go_at_call 60;refine(Tryz.strings_HasPrefix _ _ _).mono ?_;rintro e w7 ⟨rfl,rfl⟩;rw[hasPrefix_pre,HPB.out])
    exact⟨⟨i+1,hlt,by go_num,by rw[HNX.out];exact HOW6.out,HG6.out⟩,by simp[intOf];omega⟩
  ·have hil:¬(i:Int)<(ls.length:Int):=by omega
   have hie:ls.take i=ls:=List.take_of_length_le (by omega)
   rw[hie]at ho
   have hbl:=begL_le s ls
   have hco:=compactS_own w3 wr _ _ ho hg (by omega)
   have HCO:=Lib.hid hco
   obtain⟨ao,co,bo,hfo,_,_⟩:=own_open ho
   clear ho hco hie
   subst hfo
   go_wp2_with fail
   refine HCO.out.mono ?_
   rintro e w4 ⟨v4,rfl,hs4,hg4⟩
   have HE:=Lib.hid (And.intro hs4 (HG3.out.trans hg4))
   obtain⟨a4,c4,b4,hf4,_⟩:=hs4
   clear hg4 hg
   subst hf4
   go_wp2_with fail
   go_ret2
   exact⟨_,rfl,HE.out.1,HE.out.2⟩
end
