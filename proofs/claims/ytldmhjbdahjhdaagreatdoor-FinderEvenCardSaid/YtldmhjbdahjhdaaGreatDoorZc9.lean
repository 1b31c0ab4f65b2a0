/-
  Part 9 of the proof.
-/
import Derived.Test.YtldmhjbdahjhdaaGreatDoorZc8
set_option maxRecDepth 100000
set_option maxHeartbeats 100000000
set_option linter.all false
namespace Go.Proofs.YtldmhjbdahjhdaaGreatDoor
section
open Go Go.RowKit
def splitE(leaf:Bool)(c:Ch)(p:Nat)(l:List En):Ch×Option (Option En):=
 if bytesE leaf l<=1024 then(c.write (p:Nat) (pageE leaf l),some none)
 else match allocF c.h with
  |none=>(c,none)
  |some q=>((c.alloc.write (p:Nat) (pageE leaf (l.take (cutE leaf l)))).write (q:Nat) (pageE leaf (l.drop (cutE leaf l))),some (some ⟨((l.drop (cutE leaf l)).head?.map En.key).getD noB,noB,q⟩))
def MoreAt(w w':World)(v:Value):Option (Option En)->Prop
 |none=>v=.tuple #[.pointer none,errV 12]
 |some none=>v=.tuple #[.pointer none,.nilIface]
 |some (some e)=>∃EB,v=.tuple #[.pointer (some ⟨EB,0,none⟩),.nilIface]/\w.heap.size<=EB/\w'.cell? ⟨EB,0,none⟩=some (.string e.key)/\w'.cell? ⟨EB,1,none⟩=some (.string e.item)/\w'.cell? ⟨EB,2,none⟩=some (.int .i64 (e.page:Int))
section
variable{w:World}{PB DB M:Nat}{c:Ch}{sv:Head}{t:Int}{d:Dk}
theorem split_fits(h:PgT w PB DB M c sv t d){TP root:Nat}(ht:TreeAt w TP PB root){leaf:Bool}{p:Nat}{l:List En}{s:Value}(hs:IsE w s l)(hok:∀e∈l,e.ok leaf)(hb:bytesE leaf l<=1024)(hp:InU c p):
  Calls Tryz.prog 254 #[.pointer (some ⟨TP,0,none⟩),nodeV p leaf s] w fun e w'=>e=.returned (.tuple #[.pointer none,.nilIface])/\PgT w' PB DB M (c.write (p:Nat) (pageE leaf l)) sv t d/\PgF PB DB M M w w':=by
 have hl:l.length<=600:=by
  have:=sumE_len leaf l
  unfold bytesE at hb
  omega
 have hby:=fun w' (g:Gr w w')=>bytes_n p leaf s l w' (hs.gr g) hok (by omega)
 have hwr:=fun w' (g:Gr w w')=>write_n (h.gr g) (ht.gr g) (hs.gr g) hok hb hp
 obtain⟨ao,ca,rfl⟩:=hs.form
 unfold nodeV at*
 have hg0:Gr w (w.alloc (.cells #[.int .i64 (p:Int),.bool leaf,.slice ao l.length ca] 200)):=(Gr.refl w).alloc _
 have c0:∀w',Gr (w.alloc (.cells #[.int .i64 (p:Int),.bool leaf,.slice ao l.length ca] 200)) w'->w'.cell? ⟨w.heap.size,0,none⟩=some (.int .i64 (p:Int))/\w'.cell? ⟨w.heap.size,1,none⟩=some (.bool leaf)/\w'.cell? ⟨w.heap.size,2,none⟩=some (.slice ao l.length ca):=fun w' g=>⟨g.keeps (by rw[World.cell?_alloc_new];rfl),g.keeps (by rw[World.cell?_alloc_new];rfl),g.keeps (by rw[World.cell?_alloc_new];rfl)⟩
 obtain⟨k0,k1,k2⟩:=c0 _ (Gr.refl _)
 have hbi:(bytesE leaf l:Int)<=1024:=by omega
 have HW:=Lib.hid hwr
 clear hwr
 go_enter Tryz.func254,Tryz.ntmps254
 go_wp2_with(go_at_call 291;refine(hby _ hg0).mono ?_;rintro e w1 ⟨rfl,hg1⟩;have hg2:=hg0.trans hg1;obtain⟨k0,k1,k2⟩:=c0 _ hg1)
 go_wp2_with(go_at_call 200;refine(HW.out _ hg2).mono ?_;rintro e w2 ⟨rfl,hp2,hf2⟩)
 go_ret2
 exact⟨rfl,hp2,(PgF.of_gr PB DB M hg2).trans hf2⟩
structure CloneAt(w6 W:World)(MB:Nat)(a7:Option Addr)(c7 q:Nat)(leaf:Bool)(m:List En):Prop where
 g:Gr w6 W
 own:OwnE w6 W (.slice a7 m.length c7) m
 ge:w6.heap.size<=MB
 c0:W.cell? ⟨MB,0,none⟩=some (.int .i64 (q:Int))
 c1:W.cell? ⟨MB,1,none⟩=some (.bool leaf)
 c2:W.cell? ⟨MB,2,none⟩=some (.slice a7 m.length c7)
theorem cloneA{w6 w7:World}{a7:Option Addr}{c7 q:Nat}{leaf:Bool}{m:List En}(hg7:Gr w6.drew w7)(ho7:OwnE w6.drew w7 (.slice a7 m.length c7) m):
  CloneAt w6 (w7.alloc (.cells #[.int .i64 (q:Int),.bool leaf,.slice a7 m.length c7] 200)) w7.heap.size a7 c7 q leaf m:=by
 have hg:=gr_undrew hg7
 exact⟨hg.alloc _,(ho7.back (Gr.refl w6).drew).gr ((Gr.refl w7).alloc _),hg.size,by rw[World.cell?_alloc_new];rfl,by rw[World.cell?_alloc_new];rfl,by rw[World.cell?_alloc_new];rfl⟩
theorem cloneB{w6 w7:World}{a7:Option Addr}{c7 q:Nat}{leaf:Bool}{m:List En}(hg7:Gr (w6.alloc (.cells #[.int .i64 0,.bool false,.slice none 0 0] 200)).drew w7)(ho7:OwnE (w6.alloc (.cells #[.int .i64 0,.bool false,.slice none 0 0] 200)).drew w7 (.slice a7 m.length c7) m)
  (z0:w7.cell? ⟨w6.heap.size,0,none⟩=some (.int .i64 0)) (z1:w7.cell? ⟨w6.heap.size,1,none⟩=some (.bool false)) (z2:w7.cell? ⟨w6.heap.size,2,none⟩=some (.slice none 0 0)):
  CloneAt w6 (((w7.setCell ⟨w6.heap.size,0,none⟩ (.int .i64 (q:Int))).setCell ⟨w6.heap.size,1,none⟩ (.bool leaf)).setCell ⟨w6.heap.size,2,none⟩ (.slice a7 m.length c7)) w6.heap.size a7 c7 q leaf m:=by
 have hga:Gr w6 (w6.alloc (.cells #[.int .i64 0,.bool false,.slice none 0 0] 200)).drew:=((Gr.refl w6).alloc _).drew
 have hg:=hga.trans hg7
 have hgx:=((GrX.setCell (S:=fun b=>b=w6.heap.size) (p:=⟨w6.heap.size,0,none⟩) w7 (.int .i64 (q:Int)) rfl).trans (GrX.setCell (S:=fun b=>b=w6.heap.size) (p:=⟨w6.heap.size,1,none⟩) _ (.bool leaf) rfl)).trans (GrX.setCell (S:=fun b=>b=w6.heap.size) (p:=⟨w6.heap.size,2,none⟩) _ (.slice a7 m.length c7) rfl)
 refine⟨hgx.gr hg fun b hb=>by omega,(ho7.back hga).keepX hgx fun b hb e=>?_,Nat.le_refl _,?_,?_,?_⟩
 ·have:=ownBlock_ge ho7 b hb
  have h2:(w6.alloc (.cells #[.int .i64 0,.bool false,.slice none 0 0] 200)).drew.heap.size=w6.heap.size+1:=by simp
  omega
 ·rw[World.cell?_setCell_other _ _ _ _ (by simp),World.cell?_setCell_other _ _ _ _ (by simp),World.cell?_setCell_same _ _ _ z0]
 ·rw[World.cell?_setCell_other _ _ _ _ (by simp),World.cell?_setCell_same _ _ _ ((World.cell?_setCell_other _ _ _ _ (by simp)).trans z1)]
 ·rw[World.cell?_setCell_same _ _ _ ((World.cell?_setCell_other _ _ _ _ (by simp)).trans ((World.cell?_setCell_other _ _ _ _ (by simp)).trans z2))]
theorem cutK_iff(leaf:Bool)(half:Nat):∀(l:List En) (acc i:Nat),i<=cutK leaf half acc l->i<l.length->(acc+sumE leaf (l.take i)<half↔i<cutK leaf half acc l)
 |[],acc,i,_,h=>by simp at h
 |e::l,acc,0,_,_=>by
  unfold cutK
  rw[List.take_zero]
  simp only[sumE,List.map_nil,List.sum_nil,Nat.add_zero]
  split<;>rename_i hc
  ·exact⟨fun _=>Nat.succ_pos _,fun _=>hc⟩
  ·exact⟨fun h=>absurd h hc,fun h=>absurd h (by omega)⟩
 |e::l,acc,i+1,h,hl=>by
  unfold cutK at h⊢
  split at h<;>rename_i hc
  ·rw[if_pos hc]
   have ih:=cutK_iff leaf half l (acc+e.sz leaf) i (by omega) (by simpa using hl)
   rw[List.take_succ_cons,sumE_cons]
   constructor
   ·intro hh
    have:=ih.1 (by omega)
    omega
   ·intro hh
    have:=ih.2 (by omega)
    omega
  ·omega
theorem EntsAt.drop{w:World}{b off:Nat}{l:List En}(h:EntsAt w b off l)(k:Nat):EntsAt w b (off+k*3) (l.drop k):=fun i hi=>by
 rw[List.length_drop]at hi
 have:=h (k+i) (by omega)
 rw[List.getElem_drop,show off+k*3+i*3=off+(k+i)*3 by omega]
 exact this
theorem EntsAt.take{w:World}{b off:Nat}{l:List En}(h:EntsAt w b off l)(k:Nat):EntsAt w b off (l.take k):=fun i hi=>by
 rw[List.length_take]at hi
 rw[List.getElem_take]
 exact h i (by omega)
theorem split_two(h:PgT w PB DB M c sv t d){TP root:Nat}(ht:TreeAt w TP PB root){leaf:Bool}{p:Nat}{l:List En}{B cap:Nat}(hB:B<w.heap.size)(hBn:B≠PB/\B≠DB/\B≠M)(hTn:TP≠PB/\TP≠DB/\TP≠M)(hcap:l.length<=cap)(hE:EntsAt w B 0 l)(hok:∀e∈l,e.ok leaf)(hb:1024<bytesE leaf l)(hb2:bytesE leaf l<=1400)(hp:InU c p):
  Calls Tryz.prog 254 #[.pointer (some ⟨TP,0,none⟩),nodeV p leaf (.slice (some ⟨B,0,none⟩) l.length cap)] w fun e w'=>∃v,e=.returned v/\MoreAt w w' v (splitE leaf c p l).2/\PgT w' PB DB M (splitE leaf c p l).1 sv t d/\PgF PB DB M M w w':=by
 have hl:l.length<=800:=by
  have:=sumE_len leaf l
  unfold bytesE at hb2
  omega
 have hs:IsE w (.slice (some ⟨B,0,none⟩) l.length cap) l:=.inr ⟨B,0,cap,rfl,hB,hE⟩
 have hby:=fun w' (g:Gr w w')=>bytes_n p leaf _ l w' (hs.gr g) hok (by omega)
 unfold nodeV at*
 have hg0:Gr w (w.alloc (.cells #[.int .i64 (p:Int),.bool leaf,.slice (some ⟨B,0,none⟩) l.length cap] 200)):=(Gr.refl w).alloc _
 have c0:∀w',Gr (w.alloc (.cells #[.int .i64 (p:Int),.bool leaf,.slice (some ⟨B,0,none⟩) l.length cap] 200)) w'->w'.cell? ⟨w.heap.size,0,none⟩=some (.int .i64 (p:Int))/\w'.cell? ⟨w.heap.size,1,none⟩=some (.bool leaf)/\w'.cell? ⟨w.heap.size,2,none⟩=some (.slice (some ⟨B,0,none⟩) l.length cap):=fun w' g=>⟨g.keeps (by rw[World.cell?_alloc_new];rfl),g.keeps (by rw[World.cell?_alloc_new];rfl),g.keeps (by rw[World.cell?_alloc_new];rfl)⟩
 obtain⟨k0,k1,k2⟩:=c0 _ (Gr.refl _)
 have hbi:¬(bytesE leaf l:Int)<=1024:=by omega
 obtain⟨NB,hNB⟩:∃NB,w.heap.size=NB:=⟨_,rfl⟩
 obtain⟨cu1,cu2,cu3,cu4⟩:=cutE_bounds hok hb hb2
 obtain⟨Bz,hBz⟩:∃Bz,bytesE leaf l=Bz:=⟨_,rfl⟩
 obtain⟨K,hK⟩:∃K,cutE leaf l=K:=⟨_,rfl⟩
 have hiff:=fun i=>cutK_iff leaf (Bz/2) l 0 i
 have hKK:cutK leaf (Bz/2) 0 l=K:=by rw[<-hK,<-hBz];rfl
 rw[hKK]at hiff
 rw[hK]at cu1 cu2 cu3 cu4
 rw[hBz]at hbi hby hb hb2
 have HK:=Lib.hid hK
 have HBZ:=Lib.hid hBz
 have HIF:=Lib.hid hiff
 have HOK:=Lib.hid hok
 have HNB:=Lib.hid hNB
 clear hK hBz hKK hiff hok
 go_enter Tryz.func254,Tryz.ntmps254
 go_wp2_with(go_at_call 291;refine(hby _ hg0).mono ?_;rintro e w1 ⟨rfl,hg1⟩;have hg2:=hg0.trans hg1;obtain⟨k0,k1,k2⟩:=c0 _ hg1)
 have HG1:=Lib.hid hg1
 clear hg1 k0 k1 k2
 have HG2:=Lib.hid hg2
 have C0:=Lib.hid c0
 rw[HNB.out]at C0
 have hE1:=hE.gr hg2
 go_loopw [6,7] (fun hv kv w'=>∃i:Nat,i<=K/\kv=.int .i64 i/\hv=.int .i64 (sumE leaf (l.take i):Nat)/\Gr w1 w') (fun _ kv _=>K-(RowKit.intOf kv).toNat)
 case atStart=>exact⟨0,Nat.zero_le _,rfl,rfl,Gr.refl _⟩
 case round=>
  obtain⟨i,hi,rfl,rfl,hg⟩:=hrel
  obtain⟨n0,n1,n2⟩:=C0.out _ (HG1.out.trans hg)
  have hil:i<l.length:=by omega
  have hif:=HIF.out i hi hil
  rw[Nat.zero_add]at hif
  obtain⟨c1,c2,c3⟩:=hE1.gr hg i hil
  have hnx:=sumE_take_next leaf l i hil
  have hsz:=En.sz_le (HOK.out l[i] (List.getElem_mem hil))
  have hcs:=size_n p leaf (.slice (some ⟨B,0,none⟩) l.length cap) l[i] (HOK.out l[i] (List.getElem_mem hil))
  unfold nodeV En.val at hcs
  rw[Nat.zero_add]at c1 c2 c3
  generalize l[i].sz leaf=z at*
  generalize l[i].key=ky at*
  generalize l[i].item=it at*
  generalize(l[i].page:Int)=pgi at*
  have hS2:=hnx
  have hSm:sumE leaf (l.take i)<=200000:=by
   have:=sumE_le leaf (l.take i) fun e he=>HOK.out e (List.mem_of_mem_take he)
   have:(l.take i).length<=800:=by rw[List.length_take];omega
   omega
  generalize sumE leaf (l.take i)=S at*
  have HS2:=Lib.hid hnx
  clear hnx hS2
  have hdv:Int.tdiv (Bz:Int) 2=((Bz/2:Nat):Int):=by
   rw[Int.tdiv_eq_ediv_of_nonneg (by omega)]
   omega
  obtain⟨H2,hH2⟩:∃H2,Bz/2=H2:=⟨_,rfl⟩
  rw[hH2]at hif hdv
  have hGW:=HG2.out.trans hg
  have HBY:=Lib.hid hby
  clear hby
  by_cases hlt:i<K
  ·have hh:S<H2:=hif.2 hlt
   have hhi:(S:Int)<(H2:Int):=by omega
   have hil2:(i:Int)<(l.length:Int):=by omega
   go_wp2_with(go_at_call 291;refine(HBY.out _ hGW).mono ?_;rintro e w3 ⟨rfl,hg3⟩;obtain⟨n0,n1,n2⟩:=C0.out _ ((HG1.out.trans hg).trans hg3);(have c1:=hg3.keeps c1);(have c2:=hg3.keeps c2);(have c3:=hg3.keeps c3))
   have hg4:=hGW.trans hg3
   have hgx:=hg.trans hg3
   clear hg3
   go_region_with(go_at_call 292;refine(hcs _).mono ?_;rintro e w5 ⟨rfl,hg5⟩)
   all_goals
    go_wp2_with fail
    refine⟨⟨i+1,by omega,by go_num,?_,hgx.trans (gr_undrew hg5)⟩,by simp[RowKit.intOf];omega⟩
    rw[HS2.out]
    go_num
  ·have hiK:i=K:=by omega
   subst hiK
   have hh:¬S<H2:=fun e=>hlt (hif.1 e)
   have hhi:¬(S:Int)<(H2:Int):=by omega
   have tp:=(ht.gr hGW).p
   go_wp2_with(go_at_call 291;refine(HBY.out _ hGW).mono ?_;rintro e w3 ⟨rfl,hg3⟩;obtain⟨n0,n1,n2⟩:=C0.out _ ((HG1.out.trans hg).trans hg3);(have tp:=hg3.keeps tp))
   have hg4:=hGW.trans hg3
   have hga:=(HG1.out.trans hg).trans hg3
   cases ha:allocF c.h with
   |none=>
    have hv:allocV c=.tuple #[.int .i64 0,.iface 24 (.int .i64 12)]:=by unfold allocV;rw[ha]
    have hal:=alloc_t (h.gr hg4)
    have hca:c.alloc=c:=by unfold Ch.alloc;rw[ha]
    rw[hv,hca]at hal
    have hsp:splitE leaf c p l=(c,none):=by
     unfold splitE
     rw[if_neg (by rw[HBZ.out];omega),ha]
    have HSP:=Lib.hid hsp
    clear hsp
    refine hal.mono ?_
    rintro e w6 ⟨rfl,hp6,hf6⟩
    go_wp2_with fail
    go_ret2
    rw[HSP.out]
    exact⟨_,rfl,rfl,hp6,(PgF.of_gr PB DB M hg4).trans hf6⟩
   |some q=>
    have hv:allocV c=.tuple #[.int .i64 (q:Int),.nilIface]:=by unfold allocV;rw[ha]
    have hal:=alloc_t (h.gr hg4)
    rw[hv]at hal
    refine hal.mono ?_
    rintro e w6 ⟨rfl,hp6,hf6⟩
    have hNP:NB≠PB/\NB≠DB/\NB≠M:=by
     have:=h.lt
     have:=HNB.out
     omega
    have n0:=hf6.keeps hNP.1 hNP.2.1 hNP.2.2 n0
    have n1:=hf6.keeps hNP.1 hNP.2.1 hNP.2.2 n1
    have n2:=hf6.keeps hNP.1 hNP.2.1 hNP.2.2 n2
    have nf:∀o,w6.frozen? ⟨NB,o,none⟩=false:=fun o=>by
     have:=HNB.out
     rw[hf6.2.frozen o (by have:=hga.size;simp at this;omega) (fun e=>e.elim hNP.1 fun e=>e.elim hNP.2.1 hNP.2.2),hga.frozen o (by simp;omega),<-HNB.out]
     simp
    have hE6:=(hE.gr hg4).keepX hf6.2 (fun e=>e.elim hBn.1 fun e=>e.elim hBn.2.1 hBn.2.2)
    have tp6:=(ht.gr hg4).pg hf6 hTn.1 hTn.2.1 hTn.2.2
    go_wp2_with fail
    have hii:(i:Int)<=(l.length:Int):=by omega
    have hci:¬cap=i:=by omega
    have hcl:∀W,Gr w6 W->Calls Tryz.prog 293 #[.slice (some ⟨B,i*3,none⟩) (l.length-i) (cap-i)] W fun ex w'=>∃v',ex=.returned v'/\OwnE W w' v' (l.drop i)/\Gr W w':=fun W g=>
     clone_e (l.drop i) _ W (.inr ⟨B,i*3,cap-i,by rw[List.length_drop],Nat.lt_of_lt_of_le hB (Nat.le_trans (Nat.le_trans hg4.size hf6.size) g.size),by have:=(hE6.gr g).drop i;rwa [Nat.zero_add]at this⟩) (by rw[List.length_drop];omega)
    have HCL:=Lib.hid hcl
    clear hcl
    have hz:∀W',Gr (w6.alloc (.cells #[.int .i64 0,.bool false,.slice none 0 0] 200)).drew W'->(W'.cell? ⟨w6.heap.size,0,none⟩=some (.int .i64 0)/\W'.cell? ⟨w6.heap.size,1,none⟩=some (.bool false)/\W'.cell? ⟨w6.heap.size,2,none⟩=some (.slice none 0 0))/\∀o,W'.frozen? ⟨w6.heap.size,o,none⟩=false:=fun W' g=>by
     have g':=gr_undrew g
     exact⟨⟨g'.keeps (by rw[World.cell?_alloc_new];rfl),g'.keeps (by rw[World.cell?_alloc_new];rfl),g'.keeps (by rw[World.cell?_alloc_new];rfl)⟩,fun o=>(g'.frozen o (by simp)).trans (by simp)⟩
    have HZ:=Lib.hid hz
    clear hz
    have g6:Gr w6 (w6.alloc (.cells #[.int .i64 0,.bool false,.slice none 0 0] 200)):=(Gr.refl w6).alloc _
    have y0:=g6.keeps n0
    have y1:=g6.keeps n1
    have y2:=g6.keeps n2
    clear g6
    have HLD:=Lib.hid (List.length_drop (i:=i) (l:=l))
    go_cut [10] (fun s10 wx=>∃MB a7 c7,s10=.pointer (some ⟨MB,0,none⟩)/\CloneAt w6 wx MB a7 c7 q leaf (List.drop i l))
    case first=>
     go_region_with(go_at_call 293;first
      |( (with_reducible refine(HCL.out w6.drew ?_).mono ?_);(repeat(with_reducible first|exact Gr.refl _|refine Gr.drew ?_|refine Gr.alloc ?_ _));rintro e w7 ⟨v7,rfl,ho7,hg7⟩;obtain⟨a7,c7,rfl⟩:=ho7.form;(have q0:=(gr_undrew hg7).keeps n0);(have q1:=(gr_undrew hg7).keeps n1);(have q2:=(gr_undrew hg7).keeps n2);(have r1:=((Gr.refl w7).alloc (.cells #[.int .i64 0,.bool false,.slice none 0 0] 200)).keeps q1))
      |( (with_reducible refine(HCL.out (w6.alloc (.cells #[.int .i64 0,.bool false,.slice none 0 0] 200)).drew ?_).mono ?_);(repeat(with_reducible first|exact Gr.refl _|refine Gr.drew ?_|refine Gr.alloc ?_ _));rintro e w7 ⟨v7,rfl,ho7,hg7⟩;obtain⟨a7,c7,rfl⟩:=ho7.form;obtain⟨⟨z0,z1,z2⟩,zf⟩:=HZ.out _ hg7;(have q0:=(gr_undrew hg7).keeps y0);(have q1:=(gr_undrew hg7).keeps y1);(have q2:=(gr_undrew hg7).keeps y2)))
     all_goals
      go_wp2_with fail
      go_meet
      rw[<-HLD.out]
      first
        |exact⟨_,_,_,rfl,cloneA hg7 ho7⟩
        |exact⟨_,_,_,rfl,cloneB hg7 ho7 z0 z1 z2⟩
    case rest=>
     obtain⟨MB,a7,c7,rfl,hC⟩:=hcut
     have m0:=hC.g.keeps n0
     have m1:=hC.g.keeps n1
     have m2:=hC.g.keeps n2
     have mf:wc.frozen? ⟨NB,2,none⟩=false:=(hC.g.frozen 2 (lt_of_cell n0)).trans (nf 2)
     have HC:=Lib.hid hC
     have e0:=hC.c0
     have e1:=hC.c1
     have e2:=hC.c2
     clear hC y0 y1 y2 HZ HCL
     have hTN:TP≠NB:=by
      have:=lt_of_cell ht.p
      have:=HNB.out
      omega
     have hMN:MB≠NB:=by
      have:=lt_of_cell n0
      have:=HC.out.ge
      omega
     have gS:GrX (fun b=>b=NB) wc (wc.setCell ⟨NB,2,none⟩ (.slice (some ⟨B,0,none⟩) i cap)):=GrX.setCell (S:=fun b=>b=NB) (p:=⟨NB,2,none⟩) wc _ rfl
     have pS:=(hp6.gr HC.out.g).keepX gS (fun e=>hNP.1 e.symm) (fun e=>hNP.2.1 e.symm) (fun e=>hNP.2.2 e.symm)
     have tS:TreeAt (wc.setCell ⟨NB,2,none⟩ (.slice (some ⟨B,0,none⟩) i cap)) TP PB root:=⟨gS.keeps hTN (tp6.gr HC.out.g).p,gS.keeps hTN (tp6.gr HC.out.g).r⟩
     have hBN:B≠NB:=by
      have:=HNB.out
      omega
     have iS:IsE (wc.setCell ⟨NB,2,none⟩ (.slice (some ⟨B,0,none⟩) i cap)) (.slice (some ⟨B,0,none⟩) i cap) (l.take i):=by
      refine .inr ⟨B,0,cap,?_,?_,((hE6.gr HC.out.g).keepX gS hBN).take i⟩
      · rw[List.length_take,Nat.min_eq_left (Nat.le_of_lt cu2)]
      · have:=HC.out.g.size
        have:=gS.2.2.2.1
        have:=hg4.size
        have:=hf6.size
        omega
     have okT:∀e∈l.take i,e.ok leaf:=fun e he=>HOK.out e (List.mem_of_mem_take he)
     have okD:∀e∈l.drop i,e.ok leaf:=fun e he=>HOK.out e (List.mem_of_mem_drop he)
     obtain⟨u1,u2,u3,u4,u5⟩:=alloc_fr (pg:=d.pg) h.f ha
     have hpA:InU c.alloc p:=u1.inU hp (by simp)
     have hw8:=write_n pS tS iS okT cu3 hpA
     have ownS:=HC.out.own.keepX gS (fun b hb e=>by
      have:=ownBlock_ge HC.out.own b hb
      have:=lt_of_cell n0
      omega)
     have s0:=gS.keeps hMN e0
     have s1:=gS.keeps hMN e1
     have s2:=gS.keeps hMN e2
     have HPS:=Lib.hid pS
     have HTS:=Lib.hid tS
     have hMP:MB≠PB/\MB≠DB/\MB≠M:=by
      have:=hp6.lt
      have:=HC.out.ge
      omega
     have HGS:=Lib.hid gS
     unfold nodeV at hw8
     clear pS tS gS e0 e1 e2
     go_wp2_with(refine hw8.mono ?_;rintro e w8 ⟨rfl,hp8,hf8⟩)
     have s0:=hf8.keeps hMP.1 hMP.2.1 hMP.2.2 s0
     have s1:=hf8.keeps hMP.1 hMP.2.1 hMP.2.2 s1
     have s2:=hf8.keeps hMP.1 hMP.2.1 hMP.2.2 s2
     have own8:=ownS.keepX hf8.2 (fun b hb e=>by
      have:=ownBlock_ge ownS b hb
      have:=hp6.lt
      omega)
     have F8:PgF PB DB M M w w8:=by
      have x1:=((PgF.of_gr PB DB M hg4).trans hf6).trans (PgF.of_gr PB DB M HC.out.g)
      exact(x1.own HGS.out (fun j e=>by have:=HNB.out;omega)).trans hf8
     cases hld:l.drop i with
     |nil=>
      have:=congrArg List.length hld
      rw[List.length_drop,List.length_nil]at this
      omega
     |cons e9 r9=>
      rw[hld]at own8 okD s2
      obtain⟨A,c9,e9',_,_,hA,hEn,_⟩:∃A cap,(.slice a7 (e9::r9).length c7:Value)=.slice (some ⟨A,0,none⟩) (e9::r9).length cap/\(e9::r9).length<=cap/\w6.heap.size<=A/\A<w8.heap.size/\EntsAt w8 A 0 (e9::r9)/\∀o,w8.frozen? ⟨A,o,none⟩=false:=own8.at'.resolve_left (fun h=>by simpa using h.2)
      obtain⟨rfl,rfl⟩:a7=some ⟨A,0,none⟩/\c7=c9:=by
        injection e9' with e1 e2 e3
        exact⟨e1,e3⟩
      have q1:=(hEn 0 (by simp)).1
      have hspl:splitE leaf c p l=(((c.alloc.write (p:Nat) (pageE leaf (l.take i))).write (q:Nat) (pageE leaf (e9::r9))),some (some ⟨e9.key,noB,q⟩)):=by
        unfold splitE
        rw[if_neg (by rw[HBZ.out];omega),ha]
        simp only[HK.out,hld]
        rfl
      have HSP:=Lib.hid hspl
      have hA8:InU (c.alloc.write (p:Nat) (pageE leaf (l.take i))) q:=by
        obtain⟨v1,v2,v3⟩:=write_fr (pg:=d.pg) u1.fine hpA (pageE_size okT cu3)
        exact v1.inU u2 (by
          intro e
          have:q=p:=by simpa using e
          rw[this,hp.2.2]at u3
          exact Bool.noConfusion u3)
      have T8:TreeAt w8 TP PB root:=HTS.out.pg hf8 hTn.1 hTn.2.1 hTn.2.2
      have hb9:bytesE leaf (e9::r9)<=1024:=by rw[<-hld];exact cu4
      obtain⟨L,hL⟩:∃L,(e9::r9).length=L:=⟨_,rfl⟩
      have hL0:0<L:=by rw[<-hL];simp
      have hLi:(0:Int)<(L:Int):=by omega
      have is8:=own8.isE
      rw[hL]at is8 s2
      have hwm:=fun W (g:Gr w8 W)=>write_n (hp8.gr g) (T8.gr g) (is8.gr g) okD hb9 hA8
      unfold nodeV at hwm
      have HWM:=Lib.hid hwm
      clear hwm hspl is8 hL
      have q1':w8.cell? ⟨A,0,none⟩=some (.string e9.key):=q1
      have hAP:A≠PB/\A≠DB/\A≠M:=by
        have:=hp6.lt
        omega
      generalize pageE leaf (e9::r9)=P9 at*
      generalize e9.key=k9 at*
      have Y0:w8.drew.cell? ⟨MB,0,none⟩=some (.int .i64 (q:Int)):=s0
      have Y1:w8.drew.cell? ⟨MB,1,none⟩=some (.bool leaf):=s1
      have Y2:w8.drew.cell? ⟨MB,2,none⟩=some (.slice (some ⟨A,0,none⟩) L c7):=s2
      have Y3:w8.drew.cell? ⟨A,0,none⟩=some (.string k9):=q1'
      have Gc:Gr w8 w8.drew:=(Gr.refl w8).drew
      have ga:Gr w8 (w8.alloc (.cells #[.string k9,.string ⟨#[]⟩,.int .i64 (q:Int)] 206)):=(Gr.refl w8).alloc _
      have b0:=ga.keeps s0
      have b1:=ga.keeps s1
      have b2:=ga.keeps s2
      have HGA:=Lib.hid ga
      have HF8:=Lib.hid F8
      have HP8:=Lib.hid hp8
      have hn8:w8.heap.size≠PB/\w8.heap.size≠DB/\w8.heap.size≠M:=by
        have:=hp8.lt
        omega
      have hfin1:∀w9,PgT w9 PB DB M ((c.alloc.write (p:Nat) (pageE leaf (l.take i))).write (q:Nat) P9) sv t d->PgF PB DB M M w8.drew w9->∃v,(Ending.returned (.tuple #[.pointer (some ⟨w9.heap.size,0,none⟩),.nilIface]):Ending)=.returned v/\MoreAt w (w9.alloc (.cells #[.string k9,.string ⟨#[]⟩,.int .i64 (q:Int)] 206)) v (splitE leaf c p l).2/\PgT (w9.alloc (.cells #[.string k9,.string ⟨#[]⟩,.int .i64 (q:Int)] 206)) PB DB M (splitE leaf c p l).1 sv t d/\PgF PB DB M M w (w9.alloc (.cells #[.string k9,.string ⟨#[]⟩,.int .i64 (q:Int)] 206)):=by
        intro w9 x1 x2
        rw[HSP.out]
        have x3:=HF8.out.trans ((PgF.of_gr PB DB M Gc).trans x2)
        have x4:Gr w9 (w9.alloc (.cells #[.string k9,.string ⟨#[]⟩,.int .i64 (q:Int)] 206)):=(Gr.refl w9).alloc _
        exact⟨_,rfl,⟨w9.heap.size,rfl,x3.size,by rw[World.cell?_alloc_new];rfl,by rw[World.cell?_alloc_new];rfl,by rw[World.cell?_alloc_new];rfl⟩,x1.gr x4,x3.trans (PgF.of_gr PB DB M x4)⟩
      have hfin2:∀w9,PgT w9 PB DB M ((c.alloc.write (p:Nat) (pageE leaf (l.take i))).write (q:Nat) P9) sv t d->PgF PB DB M M (w8.alloc (.cells #[.string k9,.string ⟨#[]⟩,.int .i64 (q:Int)] 206)).drew w9->∃v,(Ending.returned (.tuple #[.pointer (some ⟨w8.heap.size,0,none⟩),.nilIface]):Ending)=.returned v/\MoreAt w w9 v (splitE leaf c p l).2/\PgT w9 PB DB M (splitE leaf c p l).1 sv t d/\PgF PB DB M M w w9:=by
        intro w9 x1 x2
        rw[HSP.out]
        have x3:=(PgF.of_gr PB DB M HGA.out.drew).trans x2
        exact⟨_,rfl,⟨w8.heap.size,rfl,HF8.out.size,x2.keeps hn8.1 hn8.2.1 hn8.2.2 (by rw[World.cell?_drew,World.cell?_alloc_new];rfl),x2.keeps hn8.1 hn8.2.1 hn8.2.2 (by rw[World.cell?_drew,World.cell?_alloc_new];rfl),x2.keeps hn8.1 hn8.2.1 hn8.2.2 (by rw[World.cell?_drew,World.cell?_alloc_new];rfl)⟩,x1,HF8.out.trans x3⟩
      have FIN1:=Lib.hid hfin1
      have FIN2:=Lib.hid hfin2
      clear hfin1 hfin2
      clear ga F8 hp8
      go_region_with(go_at_call 200;first
        |( (with_reducible refine(HWM.out w8.drew ?_).mono ?_);(with_reducible exact Gc);rintro e w9 ⟨rfl,hp9,hf9⟩;(have t2:=hf9.keeps hMP.1 hMP.2.1 hMP.2.2 Y2);(have t3:=hf9.keeps hAP.1 hAP.2.1 hAP.2.2 Y3))
        |( (with_reducible refine(HWM.out (w8.alloc (.cells #[.string k9,.string ⟨#[]⟩,.int .i64 (q:Int)] 206)).drew ?_).mono ?_);(with_reducible exact HGA.out.drew);rintro e w9 ⟨rfl,hp9,hf9⟩))
      all_goals
        go_wp2_with fail
        go_ret2
        first
          |exact FIN1.out _ hp9 hf9
          |exact FIN2.out _ hp9 hf9
end
section
variable{w:World}{PB DB M:Nat}{c:Ch}{sv:Head}{t:Int}{d:Dk}
theorem split_n(h:PgT w PB DB M c sv t d){TP root:Nat}(ht:TreeAt w TP PB root)(hTn:TP≠PB/\TP≠DB/\TP≠M){leaf:Bool}{p:Nat}{l:List En}{s:Value}{a0:World}(hs:OwnE a0 w s l)(ha:PB<a0.heap.size/\DB<a0.heap.size/\M<a0.heap.size)
  (hok:∀e∈l,e.ok leaf) (hb:bytesE leaf l<=1400) (hp:InU c p):
  Calls Tryz.prog 254 #[.pointer (some ⟨TP,0,none⟩),nodeV p leaf s] w fun e w'=>∃v,e=.returned v/\MoreAt w w' v (splitE leaf c p l).2/\PgT w' PB DB M (splitE leaf c p l).1 sv t d/\PgF PB DB M M w w':=by
 by_cases hf:bytesE leaf l<=1024
 ·have e:splitE leaf c p l=(c.write (p:Nat) (pageE leaf l),some none):=by
   unfold splitE
   rw[if_pos hf]
  rw[e]
  exact(split_fits h ht hs.isE hok hf hp).mono fun _ _ ⟨h1,h2,h3⟩=>⟨_,h1,rfl,h2,h3⟩
 ·rcases hs.at' with⟨_,rfl⟩|⟨B,cap,rfl,h2,h3,h4,h5,_⟩
  ·exact absurd (bytes_nil leaf) hf
  ·exact split_two h ht h4 (by omega) hTn h2 h5 hok (by omega) hb hp
end
section
variable{X:Type}
theorem splitL_E{en:ByteArray×X->En}(hkey:∀x,(en x).key=x.1)(leaf:Bool)(c:Ch)(p:Nat)(l old:List (ByteArray×X)):
  (splitL en leaf c p l old).1=(splitE leaf c p (l.map en)).1/\
  (∀m,(splitL en leaf c p l old).2.2=some (some m)->(splitE leaf c p (l.map en)).2=some (some ⟨m.1,noB,m.2.1⟩))/\
  ((splitL en leaf c p l old).2.2=some none->(splitE leaf c p (l.map en)).2=some none)/\((splitL en leaf c p l old).2.2=none->(splitE leaf c p (l.map en)).2=none):=by
 have hk:∀(l:List (ByteArray×X)),((l.map en).head?.map En.key).getD noB=keyOf l:=fun l=>by
  unfold keyOf
  cases l with
  |nil=>rfl
  |cons x r=>simp[hkey]
 unfold splitL splitE
 split
 ·exact⟨rfl,fun m hm=>(by simp at hm),fun _=>rfl,fun hm=>(by simp at hm)⟩
 ·cases allocF c.h with
  |none=>exact⟨rfl,fun m hm=>(by simp at hm),fun hm=>(by simp at hm),fun _=>rfl⟩
  |some q=>
   refine⟨rfl,fun m hm=>?_,fun hm=>(by simp at hm),fun hm=>(by simp at hm)⟩
   have e:some (some (keyOf (l.drop (cutE leaf (l.map en))),(q,l.drop (cutE leaf (l.map en)))))=some (some m):=hm
   injection e with e
   injection e with e
   subst e
   show some (some _)=some (some _)
   rw[<-List.map_drop,hk]
end
theorem MoreAt.form{w w':World}{v:Value}{o:Option (Option En)}(h:MoreAt w w' v o):∃a b,v=.tuple #[a,b]:=by
 rcases o with _|_|e
 ·exact⟨_,_,h⟩
 ·exact⟨_,_,h⟩
 ·obtain⟨EB,h1,_⟩:=h
  exact⟨_,_,h1⟩
theorem MoreAt.mono{w w0 w':World}{v:Value}{o:Option (Option En)}(h:MoreAt w w' v o)(hle:w0.heap.size<=w.heap.size):MoreAt w0 w' v o:=by
 rcases o with _|_|e
 ·exact h
 ·exact h
 ·obtain⟨EB,h1,h2,h3⟩:=h
  exact⟨EB,h1,Nat.le_trans hle h2,h3⟩
theorem okE_set{leaf:Bool}{l:List En}{k:Nat}{e:En}(h:∀x∈l,x.ok leaf)(he:e.ok leaf):∀x∈l.set k e,x.ok leaf:=fun x hx=>by
 rcases List.mem_or_eq_of_mem_set hx with hx|hx
 ·exact h x hx
 ·rw[hx];exact he
theorem okE_insert{leaf:Bool}{l:List En}{k:Nat}{e:En}(h:∀x∈l,x.ok leaf)(he:e.ok leaf):∀x∈l.insertIdx k e,x.ok leaf:=fun x hx=>by
 by_cases hk:k<=l.length
 ·rcases(List.mem_insertIdx hk).1 hx with hx|hx
  ·rw[hx];exact he
  ·exact h x hx
 ·rw[List.insertIdx_of_length_lt (by omega)]at hx
  exact h x hx
theorem ownE_set{a0 w:World}{l:List En}{B cap:Nat}(h:OwnE a0 w (.slice (some ⟨B,0,none⟩) l.length cap) l){k:Nat}(hk:k<l.length)(e:En):
  OwnE a0 (w.setCells B (k*3) e.cells) (.slice (some ⟨B,0,none⟩) l.length cap) (l.set k e):=by
 rcases h.row.2 with⟨_,e2⟩|⟨B',cap',cur,hv,hB,hh,hnc,hc,hsz,ht⟩
 ·omega
 obtain⟨rfl,rfl⟩:B=B'/\cap=cap':=by
  injection hv with e1 e2 e3
  injection e1 with e1
  injection e1 with e1
  exact⟨e1,e3⟩
 have hlt:B<w.heap.size:=(Array.getElem?_eq_some_iff.1 hh).1
 have hcl:=cellsE_len l
 have h3:e.cells.length=3:=rfl
 rw[setCells_row B e.cells (k*3) cur w hh (by rw[h3];omega)]
 have hsz2:(cur.toList.take (k*3)++e.cells++cur.toList.drop (k*3+e.cells.length)).toArray.size=cap*3:=by
  simp only[List.size_toArray,List.length_append,List.length_take,List.length_drop,h3,Array.length_toList,hsz]
  omega
 obtain⟨ct,_⟩:=cellsE_take l k (by omega)
 obtain⟨_,cd⟩:=cellsE_take l (k+1) (by omega)
 refine row_put hB hlt hc hnc (by rw[List.length_set]) hsz2 ?_ hh
 show(cur.toList.take (k*3)++e.cells++cur.toList.drop (k*3+e.cells.length)).take (l.length*3)=_
 have t1:cur.toList.take (k*3)=cellsE (l.take k):=by
  rw[<-ct,<-ht,List.take_take,Nat.min_eq_left (by omega)]
 have t2:(cellsE (l.take k)).length=k*3:=by rw[cellsE_len,List.length_take,Nat.min_eq_left (by omega)]
 have t3:(cur.toList.drop (k*3+3)).take (l.length*3-(k*3+3))=cellsE (l.drop (k+1)):=by
  rw[<-cd,<-ht,List.drop_take,show(k+1)*3=k*3+3 by omega]
 rw[List.set_eq_take_append_cons_drop,if_pos hk,cellsE_append,t1,List.append_assoc,List.take_append,t2,List.take_of_length_le (by omega),List.take_append,h3,List.take_of_length_le (l:=e.cells) (by rw[h3];omega),show l.length*3-k*3-3=l.length*3-(k*3+3)by omega,t3]
 rfl
section
variable{w:World}{PB DB M:Nat}{c:Ch}{sv:Head}{t:Int}{d:Dk}
theorem put_leaf(h:PgT w PB DB M c sv t d){TP root:Nat}(ht:TreeAt w TP PB root)(hTn:TP≠PB/\TP≠DB/\TP≠M){p:Nat}{l:List En}(hp:HasN c d.pg true p l)(hok:∀e∈l,e.ok true)(hb:bytesE true l<=1024)(key item:ByteArray)(hk:key.size<=60)(hi:item.size<=100):
  Calls Tryz.prog 201 #[.pointer (some ⟨TP,0,none⟩),.int .i64 (p:Int),.agg #[.string key,.string item,.int .i64 0]] w fun e w'=>∃v,e=.returned v/\MoreAt w w' v (splitE true c p (if hitE (keysE l) key then l.set (searchE (keysE l) key) ⟨key,item,0⟩else l.insertIdx (searchE (keysE l) key) ⟨key,item,0⟩)).2/\
   PgT w' PB DB M (splitE true c p (if hitE (keysE l) key then l.set (searchE (keysE l) key) ⟨key,item,0⟩else l.insertIdx (searchE (keysE l) key) ⟨key,item,0⟩)).1 sv t d/\PgF PB DB M M w w':=by
 have hrd:=fun W (g:Gr w W)=>read_n (h.gr g).s (ht.gr g) hp hok hb
 have HRD:=Lib.hid hrd
 clear hrd
 obtain⟨R,hR⟩:∃R,(if hitE (keysE l) key then l.set (searchE (keysE l) key) ⟨key,item,0⟩else l.insertIdx (searchE (keysE l) key) ⟨key,item,0⟩)=R:=⟨_,rfl⟩
 rw[hR]
 go_enter Tryz.func201,Tryz.ntmps201
 go_wp2_with fail
 have hg0:Gr w (w.alloc (.cells #[.string key,.string item,.int .i64 0] 206)):=(Gr.refl w).alloc _
 have hrd:=HRD.out _ hg0
 have f0:(w.alloc (.cells #[.string key,.string item,.int .i64 0] 206)).cell? ⟨w.heap.size,0,none⟩=some (.string key):=by rw[World.cell?_alloc_new];rfl
 have f1:(w.alloc (.cells #[.string key,.string item,.int .i64 0] 206)).cell? ⟨w.heap.size,1,none⟩=some (.string item):=by rw[World.cell?_alloc_new];rfl
 have f2:(w.alloc (.cells #[.string key,.string item,.int .i64 0] 206)).cell? ⟨w.heap.size,2,none⟩=some (.int .i64 0):=by rw[World.cell?_alloc_new];rfl
 have HG0:=Lib.hid hg0
 have hEBW:Hid (w.heap.size<(w.alloc (.cells #[.string key,.string item,.int .i64 0] 206)).heap.size):=Lib.hid (by simp)
 obtain⟨WB,hWB⟩:∃WB,w.alloc (.cells #[.string key,.string item,.int .i64 0] 206)=WB:=⟨_,rfl⟩
 rw[hWB]at hrd f0 f1 f2 HG0 hEBW⊢
 clear hWB
 have HEB:∃EB,w.heap.size=EB:=⟨_,rfl⟩
 obtain⟨EB,hEB⟩:=HEB
 rw[hEB]at f0 f1 f2⊢
 have hkl:(keysE l).length=l.length:=by unfold keysE;rw[List.length_map]
 have hse:=searchE_le (keysE l) key
 rw[hkl]at hse
 refine hrd.mono ?_
 rintro e w1 ⟨s',rfl,ho1,hg1⟩
 obtain⟨ao,ca,rfl⟩:=ho1.form
 have hl:l.length<=600:=by
  have:=sumE_len true l
  unfold bytesE at hb
  omega
 have hfn:=fun W (g:Gr w1 W)=>find_n p true l (.slice ao l.length ca) key W (ho1.isE.gr g) (by omega)
 simp only[if_true]at hfn
 have hga:Gr w1 (w1.alloc (.cells #[.int .i64 (p:Int),.bool true,.slice ao l.length ca] 200)):=(Gr.refl w1).alloc _
 unfold nodeV at*
 have HFN:=Lib.hid hfn
 have f0:=hg1.keeps f0
 have f1:=hg1.keeps f1
 have f2:=hg1.keeps f2
 have f0:=hga.keeps f0
 have f1:=hga.keeps f1
 have f2:=hga.keeps f2
 have k0:(w1.alloc (.cells #[.int .i64 (p:Int),.bool true,.slice ao l.length ca] 200)).cell? ⟨w1.heap.size,0,none⟩=some (.int .i64 (p:Int)):=by rw[World.cell?_alloc_new];rfl
 have k1:(w1.alloc (.cells #[.int .i64 (p:Int),.bool true,.slice ao l.length ca] 200)).cell? ⟨w1.heap.size,1,none⟩=some (.bool true):=by rw[World.cell?_alloc_new];rfl
 have k2:(w1.alloc (.cells #[.int .i64 (p:Int),.bool true,.slice ao l.length ca] 200)).cell? ⟨w1.heap.size,2,none⟩=some (.slice ao l.length ca):=by rw[World.cell?_alloc_new];rfl
 have kf:∀o,(w1.alloc (.cells #[.int .i64 (p:Int),.bool true,.slice ao l.length ca] 200)).frozen? ⟨w1.heap.size,o,none⟩=false:=fun o=>by simp
 clear hrd hfn
 go_wp2_with fail
 obtain⟨NB,hNB⟩:∃NB,w1.heap.size=NB:=⟨_,rfl⟩
 have hEN:EB<NB:=by
  rw[<-hNB]
  exact Nat.lt_of_lt_of_le (by rw[<-hEB];exact hEBW.out) hg1.size
 rw[hNB]at k0 k1 k2 kf⊢
 by_cases hh:hitE (keysE l) key=true
 ·have hlt:searchE (keysE l) key<l.length:=by rw[<-hkl];exact hitE_lt hh
  rw[hh]at HFN
  rw[if_pos hh]at hR
  rcases ho1.at' with⟨_,e2⟩|⟨B,cap,e3,h2,h3,h4,h5,h6⟩
  ·rw[e2]at hlt
   exact absurd hlt (by simp)
  obtain⟨rfl,rfl⟩:ao=some ⟨B,0,none⟩/\ca=cap:=by
   injection e3 with e1 e2 e3
   exact⟨e1,e3⟩
  generalize searchE (keysE l) key=K at*
  refine(HFN.out _ hga).mono ?_
  rintro e w2 ⟨rfl,hg2⟩
  have hg3:=hga.trans hg2
  have f0:=hg2.keeps f0
  have f1:=hg2.keeps f1
  have f2:=hg2.keeps f2
  have k0:=hg2.keeps k0
  have k1:=hg2.keeps k1
  have k2:=hg2.keeps k2
  have ho2:=ho1.gr hg3
  have hKl:(K:Int)<(l.length:Int):=by omega
  obtain⟨b0,b1,b2⟩:=(h5.gr hg3) K hlt
  rw[Nat.zero_add]at b0 b1 b2
  have bf:∀o,w2.frozen? ⟨B,o,none⟩=false:=fun o=>(hg3.frozen o h4).trans (h6 o)
  generalize l[K].key=x0 at*
  generalize l[K].item=x1 at*
  generalize(l[K].page:Int)=x2 at*
  have hos:=Lib.hid (ownE_set ho2 hlt ⟨key,item,0⟩)
  clear h5 h6
  go_wp2_with fail
  have hgx:GrX (fun b=>b=B) w2 (((w2.setCell ⟨B,K*3,none⟩ (.string key)).setCell ⟨B,K*3+1,none⟩ (.string item)).setCell ⟨B,K*3+2,none⟩ (.int .i64 0)):=((GrX.setCell (S:=fun b=>b=B) (p:=⟨B,K*3,none⟩) w2 _ rfl).trans (GrX.setCell (S:=fun b=>b=B) (p:=⟨B,K*3+1,none⟩) _ _ rfl)).trans (GrX.setCell (S:=fun b=>b=B) (p:=⟨B,K*3+2,none⟩) _ _ rfl)
  have hos3:OwnE WB (((w2.setCell ⟨B,K*3,none⟩ (.string key)).setCell ⟨B,K*3+1,none⟩ (.string item)).setCell ⟨B,K*3+2,none⟩ (.int .i64 0)) (.slice (some ⟨B,0,none⟩) l.length ca) (l.set K ⟨key,item,0⟩):=hos.out
  have hgw:Gr w (((w2.setCell ⟨B,K*3,none⟩ (.string key)).setCell ⟨B,K*3+1,none⟩ (.string item)).setCell ⟨B,K*3+2,none⟩ (.int .i64 0)):=hgx.gr ((HG0.out.trans hg1).trans hg3) (fun b hb=>by rw[hb];exact Nat.le_trans HG0.out.size h3)
  generalize((w2.setCell ⟨B,K*3,none⟩ (.string key)).setCell ⟨B,K*3+1,none⟩ (.string item)).setCell ⟨B,K*3+2,none⟩ (.int .i64 0)=w3 at*
  have hsp:=split_n (h.gr hgw) (ht.gr hgw) hTn hos3 (by have:=h.lt;have:=HG0.out.size;omega) (okE_set hok ⟨hk,hi,by show 0<2000;omega,fun _=>rfl,fun e=>by cases e⟩) (by
   have:=sumE_set (leaf:=true) (y:=⟨key,item,0⟩) l K
   have h9:(⟨key,item,0⟩:En).sz true<=162:=En.sz_le ⟨hk,hi,by show 0<2000;omega,fun _=>rfl,fun e=>by cases e⟩
   unfold bytesE at hb⊢
   omega) hp.1
  unfold nodeV at hsp
  refine hsp.mono ?_
  rintro e w4 ⟨v,rfl,hm,hp4,hf4⟩
  obtain⟨v1,v2,rfl⟩:=hm.form
  go_wp2_with fail
  go_ret2
  rw[hR]at hm hp4
  exact⟨_,rfl,hm.mono hgw.size,hp4,(PgF.of_gr PB DB M hgw).trans hf4⟩
 ·have hh2:hitE (keysE l) key=false:=by simpa using hh
  rw[hh2]at HFN
  rw[if_neg hh]at hR
  generalize searchE (keysE l) key=K at*
  refine(HFN.out _ hga).mono ?_
  rintro e w2 ⟨rfl,hg2⟩
  have hg3:=hga.trans hg2
  have f0:=hg2.keeps f0
  have f1:=hg2.keeps f1
  have f2:=hg2.keeps f2
  have k0:=hg2.keeps k0
  have k1:=hg2.keeps k1
  have k2:=hg2.keeps k2
  have ho2:=ho1.gr hg3
  go_wp2_with fail
  have hv1:OneE (w2.alloc (.cells #[.string key,.string item,.int .i64 0] 206)) w2.heap.size ⟨key,item,0⟩:=⟨by show(w2.heap.push _)[w2.heap.size]?=_;rw[Array.getElem?_push_size];rfl⟩
  have g2a:Gr w2 (w2.alloc (.cells #[.string key,.string item,.int .i64 0] 206)):=(Gr.refl w2).alloc _
  have hin:=insert_e WB _ _ l K w2.heap.size ⟨key,item,0⟩ (ho2.gr g2a) hse ((hg1.trans hg3).trans g2a) (by omega) hv1 (fun e=>by have:=ownBlock_lt ho2 _ e;omega)
  have NB2:=lt_of_cell k0
  refine hin.mono ?_
  rintro e w3 ⟨v3,rfl,ho3,hg4,hx3,hto⟩
  have hNo:(Value.slice ao l.length ca).ownBlock≠some NB:=fun e=>by
   have:=ownBlock_lt ho1 _ e
   omega
  have k0:=hx3.keeps hNo (g2a.keeps k0)
  have k1:=hx3.keeps hNo (g2a.keeps k1)
  have k2:=hx3.keeps hNo (g2a.keeps k2)
  have kfz:w3.frozen? ⟨NB,2,none⟩=false:=by
   rw[hx3.frozen 2 (Nat.lt_of_lt_of_le NB2 g2a.size) hNo,g2a.frozen 2 NB2,hg2.frozen 2 (by rw[<-hNB];simp)]
   exact kf 2
  obtain⟨a3,c3,rfl⟩:=ho3.form
  go_wp2_with fail
  have hgs:GrX (fun b=>b=NB) w3 (w3.setCell ⟨NB,2,none⟩ (.slice a3 (l.insertIdx K ⟨key,item,0⟩).length c3)):=GrX.setCell (S:=fun b=>b=NB) (p:=⟨NB,2,none⟩) w3 _ rfl
  have hvN:∀b,(Value.slice a3 (l.insertIdx K ⟨key,item,0⟩).length c3).ownBlock=some b->¬b=NB:=fun b hb e=>by
   rcases hto b hb with h1|h1
   ·exact hNo (by rw[h1,e])
   ·have:=g2a.size
    omega
  have hos3:=ho3.keepX hgs hvN
  have hgw:Gr w (w3.setCell ⟨NB,2,none⟩ (.slice a3 (l.insertIdx K ⟨key,item,0⟩).length c3)):=hgs.gr (HG0.out.trans hg4) (fun b hb=>by
   have:=HG0.out.size
   have:=hg1.size
   omega)
  rw[hR]at hos3 hgw
  have hRok:∀e∈R,e.ok true:=by
   rw[<-hR]
   exact okE_insert hok ⟨hk,hi,by show 0<2000;omega,fun _=>rfl,fun e=>by cases e⟩
  have hRb:bytesE true R<=1400:=by
   rw[<-hR]
   have:=sumE_insert (leaf:=true) (y:=⟨key,item,0⟩) l K
   have h9:(⟨key,item,0⟩:En).sz true<=162:=En.sz_le ⟨hk,hi,by show 0<2000;omega,fun _=>rfl,fun e=>by cases e⟩
   unfold bytesE at hb⊢
   omega
  generalize w3.setCell ⟨NB,2,none⟩ (.slice a3 R.length c3)=w5 at*
  have hsp:=split_n (h.gr hgw) (ht.gr hgw) hTn hos3 (by have:=h.lt;have:=HG0.out.size;omega) hRok hRb hp.1
  unfold nodeV at hsp
  refine hsp.mono ?_
  rintro e w4 ⟨v,rfl,hm,hp4,hf4⟩
  obtain⟨v1,v2,rfl⟩:=hm.form
  go_wp2_with fail
  go_ret2
  exact⟨_,rfl,hm.mono hgw.size,hp4,(PgF.of_gr PB DB M hgw).trans hf4⟩
end
def cutW(w:World)(n:Nat):World:={w with heap:=w.heap.extract 0 n}
theorem cutW_size{w:World}{n:Nat}(h:n<=w.heap.size):(cutW w n).heap.size=n:=by
 unfold cutW
 simp
 omega
theorem cutW_gr{w:World}{n:Nat}(h:n<=w.heap.size):Gr (cutW w n) w:=by
 refine⟨rfl,rfl,rfl,by rw[cutW_size h];exact h,fun k hk=>?_⟩
 rw[cutW_size h]at hk
 unfold cutW
 show _=(w.heap.extract 0 n)[k]?
 rw[Array.getElem?_extract,if_pos (by omega),Nat.zero_add]
theorem OwnE.base{a0 a1 w:World}{v:Value}{l:List En}(h:OwnE a0 w v l)(e:a1.heap.size=a0.heap.size):OwnE a1 w v l:=by
 unfold OwnE
 rw[e]
 exact h
theorem insert_o(a0 w:World)(v:Value)(l:List En)(k vb:Nat)(e:En)(h:OwnE a0 w v l)(hk:k<=l.length)(hg:a0.heap.size<=w.heap.size)(hl:l.length<=10000)(hv:OneE w vb e)(hvb:v.ownBlock≠some vb):
  Calls Tryz.prog 253 #[v,.int .i64 k,.slice (some ⟨vb,0,none⟩) 1 1] w fun ex w'=>
   ∃v',ex=.returned v'/\OwnE a0 w' v' (l.insertIdx k e)/\GrX (fun b=>v.ownBlock=some b) w w'/\OwnTo v v' w:=
 (insert_e (cutW w a0.heap.size) w v l k vb e (h.base (cutW_size hg)) hk (cutW_gr hg) hl hv hvb).mono fun _ _ ⟨v',h1,h2,_,h4,h5⟩=>⟨v',h1,h2.base (cutW_size hg).symm,h4,h5⟩
theorem delete_o(a0 w:World)(v:Value)(l:List En)(k:Nat)(h:OwnE a0 w v l)(hk:k<l.length)(hg:a0.heap.size<=w.heap.size)(hl:l.length<=10000):
  Calls Tryz.prog 255 #[v,.int .i64 k,.int .i64 ((k:Int)+1)] w fun ex w'=>
   ∃v',ex=.returned v'/\OwnE a0 w' v' (l.eraseIdx k)/\GrX (fun b=>v.ownBlock=some b) w w'/\v'.ownBlock=v.ownBlock:=
 (delete_e (cutW w a0.heap.size) w v l k (h.base (cutW_size hg)) hk (cutW_gr hg) hl).mono fun _ _ ⟨v',h1,h2,_,h4,h5⟩=>⟨v',h1,h2.base (cutW_size hg).symm,h4,h5⟩
theorem TreeAt.keepX{S:Nat->Prop}{w w':World}{TP PB root:Nat}(h:TreeAt w TP PB root)(g:GrX S w w')(hs:¬S TP):TreeAt w' TP PB root:=⟨g.keeps hs h.p,g.keeps hs h.r⟩
def nodeRes(c1:Ch)(p:Nat)(l:List En)(K:Nat):Option (Option En)->Ch×Option (Option En)
 |none=>(c1,none)
 |some none=>splitE false c1 p l
 |some (some m)=>splitE false c1 p (l.insertIdx (K+1) m)
section
variable{w:World}{PB DB M:Nat}{c:Ch}{sv:Head}{t:Int}{d:Dk}
theorem put_node(h:PgT w PB DB M c sv t d){TP root:Nat}(ht:TreeAt w TP PB root)(hTn:TP≠PB/\TP≠DB/\TP≠M){p:Nat}{l:List En}(hp:HasN c d.pg false p l)(hok:∀e∈l,e.ok false)(hb:bytesE false l<=1024)(key item:ByteArray)
  {K:Nat} (hK:downE (keysE l) key=K) (hlt:K<l.length) {c1:Ch} {o:Option (Option En)} (hp1:InU c1 p) (ho:∀m,o=some (some m)->m.ok false)
  (hsub:∀W,Gr w W->Calls Tryz.prog 201 #[.pointer (some ⟨TP,0,none⟩),.int .i64 (l[K].page:Int),.agg #[.string key,.string item,.int .i64 0]] W fun e w'=>∃v,e=.returned v/\MoreAt W w' v o/\PgT w' PB DB M c1 sv t d/\PgF PB DB M M W w'):
  Calls Tryz.prog 201 #[.pointer (some ⟨TP,0,none⟩),.int .i64 (p:Int),.agg #[.string key,.string item,.int .i64 0]] w fun e w'=>∃v,e=.returned v/\MoreAt w w' v (nodeRes c1 p l K o).2/\PgT w' PB DB M (nodeRes c1 p l K o).1 sv t d/\PgF PB DB M M w w':=by
 have hrd:=fun W (g:Gr w W)=>read_n (h.gr g).s (ht.gr g) hp hok hb
 have HRD:=Lib.hid hrd
 clear hrd
 have HSUB:=Lib.hid hsub
 clear hsub
 go_enter Tryz.func201,Tryz.ntmps201
 go_wp2_with fail
 have hg0:Gr w (w.alloc (.cells #[.string key,.string item,.int .i64 0] 206)):=(Gr.refl w).alloc _
 have hrd:=HRD.out _ hg0
 have f0:(w.alloc (.cells #[.string key,.string item,.int .i64 0] 206)).cell? ⟨w.heap.size,0,none⟩=some (.string key):=by rw[World.cell?_alloc_new];rfl
 have f1:(w.alloc (.cells #[.string key,.string item,.int .i64 0] 206)).cell? ⟨w.heap.size,1,none⟩=some (.string item):=by rw[World.cell?_alloc_new];rfl
 have f2:(w.alloc (.cells #[.string key,.string item,.int .i64 0] 206)).cell? ⟨w.heap.size,2,none⟩=some (.int .i64 0):=by rw[World.cell?_alloc_new];rfl
 have HG0:=Lib.hid hg0
 have hEBW:Hid (w.heap.size<(w.alloc (.cells #[.string key,.string item,.int .i64 0] 206)).heap.size):=Lib.hid (by simp)
 obtain⟨WB,hWB⟩:∃WB,w.alloc (.cells #[.string key,.string item,.int .i64 0] 206)=WB:=⟨_,rfl⟩
 rw[hWB]at hrd f0 f1 f2 HG0 hEBW⊢
 clear hWB
 have HEB:∃EB,w.heap.size=EB:=⟨_,rfl⟩
 obtain⟨EB,hEB⟩:=HEB
 rw[hEB]at f0 f1 f2⊢
 have hkl:(keysE l).length=l.length:=by unfold keysE;rw[List.length_map]
 refine hrd.mono ?_
 rintro e w1 ⟨s',rfl,ho1,hg1⟩
 obtain⟨ao,ca,rfl⟩:=ho1.form
 have hl:l.length<=600:=by
  have:=sumE_len false l
  unfold bytesE at hb
  omega
 have hfn:=fun W (g:Gr w1 W)=>find_n p false l (.slice ao l.length ca) key W (ho1.isE.gr g) (by omega)
 simp only[Bool.false_eq_true,if_false]at hfn
 have hga:Gr w1 (w1.alloc (.cells #[.int .i64 (p:Int),.bool false,.slice ao l.length ca] 200)):=(Gr.refl w1).alloc _
 unfold nodeV at*
 have HFN:=Lib.hid hfn
 have f0:=hg1.keeps f0
 have f1:=hg1.keeps f1
 have f2:=hg1.keeps f2
 have f0:=hga.keeps f0
 have f1:=hga.keeps f1
 have f2:=hga.keeps f2
 have k0:(w1.alloc (.cells #[.int .i64 (p:Int),.bool false,.slice ao l.length ca] 200)).cell? ⟨w1.heap.size,0,none⟩=some (.int .i64 (p:Int)):=by rw[World.cell?_alloc_new];rfl
 have k1:(w1.alloc (.cells #[.int .i64 (p:Int),.bool false,.slice ao l.length ca] 200)).cell? ⟨w1.heap.size,1,none⟩=some (.bool false):=by rw[World.cell?_alloc_new];rfl
 have k2:(w1.alloc (.cells #[.int .i64 (p:Int),.bool false,.slice ao l.length ca] 200)).cell? ⟨w1.heap.size,2,none⟩=some (.slice ao l.length ca):=by rw[World.cell?_alloc_new];rfl
 have kf:∀o,(w1.alloc (.cells #[.int .i64 (p:Int),.bool false,.slice ao l.length ca] 200)).frozen? ⟨w1.heap.size,o,none⟩=false:=fun o=>by simp
 clear hrd hfn
 go_wp2_with fail
 obtain⟨NB,hNB⟩:∃NB,w1.heap.size=NB:=⟨_,rfl⟩
 have hEN:EB<NB:=by
  rw[<-hNB]
  exact Nat.lt_of_lt_of_le (by rw[<-hEB];exact hEBW.out) hg1.size
 rw[hNB]at k0 k1 k2 kf⊢
 rw[hK]at HFN
 generalize hitE (keysE l) key=hit at*
 rcases ho1.at' with⟨_,e2⟩|⟨B,cap,e3,h2,h3,h4,h5,h6⟩
 ·rw[e2]at hlt
  exact absurd hlt (by simp)
 obtain⟨rfl,rfl⟩:ao=some ⟨B,0,none⟩/\ca=cap:=by
  injection e3 with e1 e2 e3
  exact⟨e1,e3⟩
 refine(HFN.out _ hga).mono ?_
 rintro e w2 ⟨rfl,hg2⟩
 have hg3:=hga.trans hg2
 have f0:=hg2.keeps f0
 have f1:=hg2.keeps f1
 have f2:=hg2.keeps f2
 have k0:=hg2.keeps k0
 have k1:=hg2.keeps k1
 have k2:=hg2.keeps k2
 have ho2:=ho1.gr hg3
 have hKl:(K:Int)<(l.length:Int):=by omega
 obtain⟨_,_,b2⟩:=(h5.gr hg3) K hlt
 rw[Nat.zero_add]at b2
 have hg4:=(HG0.out.trans hg1).trans hg3
 go_wp2_with fail
 have hsub:=HSUB.out _ hg4.drew
 generalize(l[K].page:Int)=pgi at*
 have HSB:=Lib.hid hsub
 have HRK:=Lib.hid hK
 clear hsub hK
 go_cut [11,12] (fun s11 s12 wx=>∃x y,s11=x/\s12=y/\MoreAt w2 wx (.tuple #[x,y]) o/\PgT wx PB DB M c1 sv t d/\PgF PB DB M M w2 wx)
 case first=>
  go_region_with(go_at_call 201;refine HSB.out.mono ?_;rintro e w3 ⟨v,rfl,hm,hp3,hf3⟩;obtain⟨v1,v2,rfl⟩:=hm.form)
  all_goals
   go_wp2_with fail
   go_meet
   exact⟨_,_,rfl,rfl,hm.mono (Nat.le_refl _),hp3,(PgF.of_gr PB DB M (Gr.refl w2).drew).trans hf3⟩
 case rest=>
  obtain⟨x,y,rfl,rfl,hm,hp3,hf3⟩:=hcut
  have hNB2:NB<w2.heap.size:=lt_of_cell k0
  have hNP:NB≠PB/\NB≠DB/\NB≠M:=by
   have:=h.lt
   have:=HG0.out.size
   have:=hg1.size
   omega
  have k0:=hf3.keeps hNP.1 hNP.2.1 hNP.2.2 k0
  have k1:=hf3.keeps hNP.1 hNP.2.1 hNP.2.2 k1
  have k2:=hf3.keeps hNP.1 hNP.2.1 hNP.2.2 k2
  have hwb:PB<WB.heap.size/\DB<WB.heap.size/\M<WB.heap.size:=by
   have:=h.lt
   have:=HG0.out.size
   omega
  have kfz:wc.frozen? ⟨NB,2,none⟩=false:=by
   rw[hf3.2.frozen 2 hNB2 (fun e=>e.elim hNP.1 fun e=>e.elim hNP.2.1 hNP.2.2),hg2.frozen 2 (by rw[<-hNB];simp)]
   exact kf 2
  have hB3:∀b,(Value.slice (some ⟨B,0,none⟩) l.length ca).ownBlock=some b->¬(b=PB\/b=DB\/b=M):=fun b hb e=>by
   have:=ownBlock_ge ho2 b hb
   omega
  have ho3:=ho2.keepX hf3.2 hB3
  have F3:=(PgF.of_gr PB DB M hg4).trans hf3
  have T3:TreeAt wc TP PB root:=(ht.gr hg4).pg hf3 hTn.1 hTn.2.1 hTn.2.2
  have HO:=Lib.hid ho
  clear ho
  rcases o with _|_|m
  ·have hm2:(Value.tuple #[u11,u12])=.tuple #[.pointer none,errV 12]:=hm
   injection hm2 with hm2
   obtain⟨rfl,rfl⟩:u11=.pointer none/\u12=errV 12:=by simpa using hm2
   have hev:errV 12=.iface 24 (.int .i64 12):=rfl
   rw[hev]
   go_wp2_with fail
   go_ret2
   exact⟨_,rfl,rfl,hp3,F3⟩
  ·have hm2:(Value.tuple #[u11,u12])=.tuple #[.pointer none,.nilIface]:=hm
   injection hm2 with hm2
   obtain⟨rfl,rfl⟩:u11=.pointer none/\u12=.nilIface:=by simpa using hm2
   have hsp:=split_n hp3 T3 hTn ho3 hwb hok (by omega) hp1
   unfold nodeV at hsp
   have HSP:=Lib.hid hsp
   clear hsp
   go_wp2_with(refine HSP.out.mono ?_;rintro e w4 ⟨v,rfl,hm4,hp4,hf4⟩;obtain⟨v1,v2,rfl⟩:=hm4.form)
   go_ret2
   exact⟨_,rfl,hm4.mono F3.size,hp4,F3.trans hf4⟩
  ·obtain⟨EC,hm2,hec,y0,y1,y2⟩:=hm
   injection hm2 with hm2
   obtain⟨rfl,rfl⟩:u11=.pointer (some ⟨EC,0,none⟩)/\u12=.nilIface:=by simpa using hm2
   go_wp2_with fail
   have hmo:=HO.out m rfl
   have hg5:Gr wc (wc.alloc (.cells #[.string m.key,.string m.item,.int .i64 (m.page:Int)] 206)):=(Gr.refl wc).alloc _
   have hv1:OneE (wc.alloc (.cells #[.string m.key,.string m.item,.int .i64 (m.page:Int)] 206)).drew wc.heap.size m:=⟨by show(wc.heap.push _)[wc.heap.size]?=_;rw[Array.getElem?_push_size];rfl⟩
   have hWB:WB.heap.size<=(wc.alloc (.cells #[.string m.key,.string m.item,.int .i64 (m.page:Int)] 206)).drew.heap.size:=by
    have:=hg1.size
    have:=hg3.size
    have:=hf3.size
    have:=hg5.drew.size
    omega
   have hin:=insert_o WB _ _ l (K+1) wc.heap.size m (ho3.gr hg5.drew) (by omega) hWB (by omega) hv1 (fun e=>by have:=ownBlock_lt ho3 _ e;omega)
   have hK1:((K+1:Nat):Int)=(K:Int)+1:=by omega
   rw[hK1]at hin
   have HIN:=Lib.hid hin
   have j0:=hg5.keeps k0
   have j1:=hg5.keeps k1
   have j2:=hg5.keeps k2
   have jf:(wc.alloc (.cells #[.string m.key,.string m.item,.int .i64 (m.page:Int)] 206)).frozen? ⟨NB,2,none⟩=false:=(hg5.frozen 2 (lt_of_cell k0)).trans kfz
   have HG5:=Lib.hid hg5
   have hNo:¬((Value.slice (some ⟨B,0,none⟩) l.length ca).ownBlock=some NB):=fun e=>by
    have:=ownBlock_lt ho1 _ e
    omega
   clear hin hK1 hg5 hv1
   have hwr:IntKind.i64.wrap ((K:Int)+1)=(K:Int)+1:=IntWalk.i64_in _ (by omega)
   have hTS:=T3.gr HG5.out.drew
   have hPS:=hp3.gr HG5.out.drew
   have hFS:=F3.trans (PgF.of_gr PB DB M HG5.out.drew)
   have hwz:w.heap.size<=WB.heap.size:=HG0.out.size
   have hTPw:=lt_of_cell ht.p
   have hWN:WB.heap.size<=NB:=by
    have:=hg1.size
    omega
   have hTB:∀b,(Value.slice (some ⟨B,0,none⟩) l.length ca).ownBlock=some b->WB.heap.size<=b:=fun b hb=>ownBlock_ge ho2 b hb
   have hNW:NB<(wc.alloc (.cells #[.string m.key,.string m.item,.int .i64 (m.page:Int)] 206)).drew.heap.size:=Nat.lt_of_lt_of_le hNB2 (Nat.le_trans hf3.size HG5.out.size)
   have hRok:=okE_insert (k:=K+1) hok hmo
   have hRb:bytesE false (l.insertIdx (K+1) m)<=1400:=by
    have:=sumE_insert (leaf:=false) (y:=m) l (K+1)
    have h9:m.sz false<=162:=En.sz_le hmo
    unfold bytesE at hb⊢
    omega
   have HNR:Hid (nodeRes c1 p l K (some (some m))=splitE false c1 p (l.insertIdx (K+1) m)):=rfl
   generalize l.insertIdx (K+1) m=R at*
   have hFIN:∀w5 a5 c5,OwnE WB w5 (.slice a5 R.length c5) R->GrX (fun b=>(Value.slice (some ⟨B,0,none⟩) l.length ca).ownBlock=some b) (wc.alloc (.cells #[.string m.key,.string m.item,.int .i64 (m.page:Int)] 206)).drew w5->OwnTo (Value.slice (some ⟨B,0,none⟩) l.length ca) (.slice a5 R.length c5) (wc.alloc (.cells #[.string m.key,.string m.item,.int .i64 (m.page:Int)] 206)).drew->
     Calls Tryz.prog 254 #[.pointer (some ⟨TP,0,none⟩),.agg #[.int .i64 (p:Int),.bool false,.slice a5 R.length c5]] (w5.setCell ⟨NB,2,none⟩ (.slice a5 R.length c5)) fun e w'=>∃v1 v2,e=.returned (.tuple #[v1,v2])/\MoreAt w w' (.tuple #[v1,v2]) (nodeRes c1 p l K (some (some m))).2/\PgT w' PB DB M (nodeRes c1 p l K (some (some m))).1 sv t d/\PgF PB DB M M w w':=by
    intro w5 a5 c5 x1 x2 x3
    have gS:GrX (fun b=>b=NB) w5 (w5.setCell ⟨NB,2,none⟩ (.slice a5 R.length c5)):=GrX.setCell (S:=fun b=>b=NB) (p:=⟨NB,2,none⟩) w5 _ rfl
    have y1:=x1.keepX gS (fun b hb e=>by
     rcases x3 b hb with h1|h1
     ·exact hNo (by rw[h1,e])
     ·omega)
    have y2:=((hPS.keepX x2 (fun e=>by have:=hTB _ e;omega) (fun e=>by have:=hTB _ e;omega) (fun e=>by have:=hTB _ e;omega)).keepX gS (fun e=>hNP.1 e.symm) (fun e=>hNP.2.1 e.symm) (fun e=>hNP.2.2 e.symm))
    have y3:=(hTS.keepX x2 (fun e=>by have:=hTB _ e;omega)).keepX gS (fun e=>by omega)
    have y4:=(hFS.own x2 (fun j e=>by have:=hTB _ e;omega)).own gS (fun j e=>by omega)
    rw[HNR.out]
    exact(split_n y2 y3 hTn y1 hwb hRok hRb hp1).mono fun e w' ⟨v,z1,z2,z3,z4⟩=>by
     obtain⟨v1,v2,rfl⟩:=z2.form
     exact⟨v1,v2,z1,z2.mono y4.size,z3,y4.trans z4⟩
   have FIN:=Lib.hid hFIN
   clear hFIN hTS hPS hFS hTB hRok hRb HNR
   go_region_with(go_at_call 253;refine HIN.out.mono ?_;rintro e w5 ⟨v5,rfl,ho5,hx5,hto⟩;obtain⟨a5,c5,rfl⟩:=ho5.form;(have q2:=hx5.keeps hNo j2);(have qf:w5.frozen? ⟨NB,2,none⟩=false:=(hx5.frozen 2 (Nat.lt_of_lt_of_le hNB2 (Nat.le_trans hf3.size HG5.out.size)) hNo).trans jf);(have q0:=hx5.keeps hNo j0);(have q1:=hx5.keeps hNo j1))
   all_goals
    go_wp2_with(refine(FIN.out _ _ _ ho5 hx5 hto).mono ?_;rintro e w9 ⟨v1,v2,rfl,z2,z3,z4⟩)
    go_ret2
    exact⟨_,rfl,z2,z3,z4⟩
end
def moreE{d:Nat}(o:Option (Option (ByteArray×T d))):Option (Option En):=o.map (Option.map enN)
theorem splitL_res{X:Type}{en:ByteArray×X->En}(hkey:∀x,(en x).key=x.1)(leaf:Bool)(c:Ch)(p:Nat)(l old:List (ByteArray×X)):
  splitE leaf c p (l.map en)=((splitL en leaf c p l old).1,(splitL en leaf c p l old).2.2.map (Option.map fun m=>⟨m.1,noB,m.2.1⟩)):=by
 obtain⟨h1,h2,h3,h4⟩:=splitL_E hkey leaf c p l old
 refine Prod.ext h1.symm ?_
 show(splitE leaf c p (l.map en)).2=_
 rcases hr:(splitL en leaf c p l old).2.2 with _|_|m
 ·exact h4 hr
 ·exact h3 hr
 ·exact h2 m hr
theorem keysE_L(l:List (ByteArray×ByteArray)):keysE (l.map enL)=l.map Prod.fst:=by
 unfold keysE
 rw[List.map_map]
 rfl
theorem keysE_N{d:Nat}(l:List (ByteArray×T d)):keysE (l.map enN)=l.map Prod.fst:=by
 unfold keysE
 rw[List.map_map]
 rfl
theorem putL_E(l:List (ByteArray×ByteArray))(key item:ByteArray):(putL l key item).map enL=if hitE (keysE (l.map enL)) key then(l.map enL).set (searchE (keysE (l.map enL)) key) ⟨key,item,0⟩else(l.map enL).insertIdx (searchE (keysE (l.map enL)) key) ⟨key,item,0⟩:=by
 rw[keysE_L]
 unfold putL
 split
 ·rw[List.map_set]
  rfl
 ·rw[map_insertIdx']
  rfl
section
variable{PB DB M:Nat}{sv:Head}{t:Int}{dk:Dk}
theorem put_t{TP root:Nat}(hTn:TP≠PB/\TP≠DB/\TP≠M)(key item:ByteArray)(hk:key.size<=60)(hi:item.size<=100):∀{d:Nat} {c:Ch} {x:T d} {w:World},PgT w PB DB M c sv t dk->TreeAt w TP PB root->x.lays c dk.pg->x.okT->x.pages.Nodup->
  Calls Tryz.prog 201 #[.pointer (some ⟨TP,0,none⟩),.int .i64 (x.pg:Int),.agg #[.string key,.string item,.int .i64 0]] w fun e w'=>∃v,e=.returned v/\MoreAt w w' v (moreE (putT c x key item).2.2)/\PgT w' PB DB M (putT c x key item).1 sv t dk/\PgF PB DB M M w w'
 |0,c,x,w,h,ht,hl,ho,hn=>by
  obtain⟨p,l⟩:Nat×List (ByteArray×ByteArray):=x
  have hp:=put_leaf h ht hTn (p:=p) (l:=l.map enL) hl ho.2.2 ho.2.1 key item hk hi
  rw[<-putL_E,splitL_res (fun _=>rfl) true c p (putL l key item) l]at hp
  have e:putT c (d:=0) (p,l) key item=splitL enL true c p (putL l key item) l:=by
   refine(putT.eq_1 c key item ((p,l):Nat×List (ByteArray×ByteArray))).trans ?_
   rfl
  rw[e]
  exact hp
 |d+1,c,t0,w,h,ht,hl,ho,hn=>by
  obtain⟨p,l⟩:Nat×List (ByteArray×T d):=t0
  have hne:l.map Prod.fst≠[]:=fun e=>ho.1.1 (by
   have:l=[]:=List.map_eq_nil_iff.1 e
   show l.map enN=[]
   rw[this]
   rfl)
  have hdl:=downE_lt hne key
  rw[List.length_map]at hdl
  obtain⟨K,hK⟩:∃K,downE (l.map Prod.fst) key=K:=⟨_,rfl⟩
  rw[hK]at hdl
  obtain⟨x,hx⟩:∃x,l[K]?=some x:=⟨_,List.getElem?_eq_getElem hdl⟩
  have hxe:l[K]=x:=by
   rw[List.getElem?_eq_getElem hdl]at hx
   exact Option.some.inj hx
  have hxm:x∈l:=List.mem_of_getElem? hx
  have hnd:(p::l.flatMap fun y=>y.2.pages).Nodup:=hn
  obtain⟨n1,n2⟩:=List.nodup_cons.1 hnd
  have hlx:x.2.lays c dk.pg:=hl.2 x hxm
  have hox:x.2.okT:=ho.2 x hxm
  have hnx:x.2.pages.Nodup:=by
   obtain⟨l1,l2,hle,_⟩:=at_split hx
   rw[hle,List.flatMap_append,List.flatMap_cons]at n2
   exact(List.nodup_append.1 (List.nodup_append.1 n2).2.1).1
  have hpx:p∉x.2.pages:=fun e=>n1 (List.mem_flatMap.2 ⟨x,hxm,e⟩)
  have ih:=putT_ok (pg:=dk.pg) hk hi h.f hlx hox hnx
  have iw:=fun W (g:Gr w W)=>put_t hTn key item hk hi (h.gr g) (ht.gr g) hlx hox hnx
  have heq:putT c (d:=d+1) (p,l) key item=match putT c x.2 key item with
   |( c1,u,none)=>(c1,(p,l.set K (x.1,u)),none)
   |( c1,u,some none)=>splitL (X:=T d) enN false c1 p (l.set K (x.1,u)) (l.set K (x.1,u))
   |( c1,u,some (some m))=>splitL (X:=T d) enN false c1 p ((l.set K (x.1,u)).insertIdx (K+1) m) (l.set K (x.1,u)):=by
   refine(putT.eq_2 c key item d ((p,l):Nat×List (ByteArray×T d))).trans ?_
   simp only[hK,hx]
   rfl
  rw[heq]
  rcases hr:putT c x.2 key item with⟨c1,u,r⟩
  rw[hr]at ih iw
  have hpu:InU c1 p:=ih.fr.inU hl.1.1 hpx
  have hpg:u.pg=x.2.pg:=ih.page
  have hmo:=ih.more
  have hlen:K<(l.map enN).length:=by rw[List.length_map];exact hdl
  have hpe:(l.map enN)[K]=enN x:=by rw[List.getElem_map,hxe]
  have hmap:(l.set K (x.1,u)).map enN=l.map enN:=by
   rw[List.map_set]
   have:enN (x.1,u)=enN x:=by
     unfold enN
     rw[hpg]
   rw[this,<-hpe,List.set_getElem_self]
  have hnode:=put_node h ht hTn (p:=p) (l:=l.map enN) hl.1 ho.1.2.2 ho.1.2.1 key item (K:=K) (by rw[keysE_N];exact hK) hlen (c1:=c1) (o:=moreE r) hpu (fun m hm=>by
   rcases r with _|_|m'
   · cases hm
   · cases hm
   · obtain rfl:enN m'=m:=by
       have h1:some (some (enN m'))=some (some m):=hm
       simpa using h1
     obtain⟨q1,q2,q3,_,_⟩:=hmo m' rfl
     have:=T.lays_used q1 _ (T.pg_mem m'.2)
     exact⟨q3,by show(0:Nat)<=100;omega,this.2.1,fun e=>(by cases e),fun _=>rfl⟩) (by
   rw[hpe]
   exact iw)
  rcases r with _|_|m
  ·exact hnode
  ·have e2:nodeRes c1 p (l.map enN) K (moreE (d:=d) (some none))=splitE false c1 p ((l.set K (x.1,u)).map enN):=by rw[hmap];rfl
   rw[e2,splitL_res (en:=enN (d:=d)) (fun _=>rfl) false c1 p (l.set K (x.1,u)) (l.set K (x.1,u))]at hnode
   exact hnode
  ·have e2:nodeRes c1 p (l.map enN) K (moreE (some (some m)))=splitE false c1 p (((l.set K (x.1,u)).insertIdx (K+1) m).map enN):=by rw[map_insertIdx',hmap];rfl
   rw[e2,splitL_res (en:=enN (d:=d)) (fun _=>rfl) false c1 p ((l.set K (x.1,u)).insertIdx (K+1) m) (l.set K (x.1,u))]at hnode
   exact hnode
end
