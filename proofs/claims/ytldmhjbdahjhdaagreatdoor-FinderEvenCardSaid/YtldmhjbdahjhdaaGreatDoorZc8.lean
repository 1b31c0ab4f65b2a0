/-
  Part 8 of the proof.
-/
import Derived.Test.YtldmhjbdahjhdaaGreatDoorZc7
set_option maxRecDepth 100000
set_option maxHeartbeats 100000000
set_option linter.all false
namespace Go.Proofs.YtldmhjbdahjhdaaGreatDoor
section
open Go Go.RowKit
section
variable{w:World}{PB DB M n:Nat}{c:Ch}{sv:Head}{t:Int}{d:Dk}
theorem page_read(h:PgS w PB DB M n c sv t d){leaf:Bool}{p:Nat}{l:List En}(hp:HasN c d.pg leaf p l):
  Calls Tryz.prog 170 #[.pointer (some ⟨PB,0,none⟩),.int .i64 (p:Int)] w (Ret w (.tuple #[.string (pageE leaf l),.nilIface])):=by
 have hr:=read_s h (p:Int)
 have hu:inUse c.h (p:Int)=true:=inUse_iff.2 ⟨p,rfl,hp.1.1,hp.1.2.1,hp.1.2.2⟩
 rw[hu,if_pos rfl,Int.toNat_natCast,hp.2]at hr
 exact hr
theorem read_n(h:PgS w PB DB M n c sv t d){TP root:Nat}(ht:TreeAt w TP PB root){leaf:Bool}{p:Nat}{l:List En}(hp:HasN c d.pg leaf p l)(hok:∀e∈l,e.ok leaf)(hb:bytesE leaf l<=1024):
  Calls Tryz.prog 120 #[.pointer (some ⟨TP,0,none⟩),.int .i64 (p:Int)] w fun e w'=>∃s',e=.returned (.tuple #[nodeV p leaf s',.nilIface])/\OwnE w w' s' l/\Gr w w':=by
 have hg0:Gr w (w.alloc (.cells #[.int .i64 0,.bool false,.slice none 0 0] 200)):=(Gr.refl w).alloc _
 have hrd:=page_read (h.gr hg0) hp
 have tp:=(ht.gr hg0).p
 have hsz:=pageE_size hok hb
 have hl2:=sumE_len leaf l
 have hl:l.length<=600:=by unfold bytesE at hb;omega
 have hd:(pageE leaf l).data.toList=kindE leaf::(two8 (l.length:Int)++(leftE leaf l 0).data.toList):=by
  rw[leftE_data]
  unfold pageE txtE kindE
  simp
 rw[two8_nat _ (by omega)]at hd
 have z0:0<(pageE leaf l).size:=by omega
 have z1:1<(pageE leaf l).size:=by omega
 have z2:2<(pageE leaf l).size:=by omega
 have g0:(pageE leaf l)[0]=kindE leaf:=get_at _ 0 z0 _ hd (by simp)
 have g1:(pageE leaf l)[1]=(l.length/256).toUInt8:=get_at _ 1 z1 _ hd (by simp)
 have g2:(pageE leaf l)[2]=l.length.toUInt8:=get_at _ 2 z2 _ hd (by simp)
 have gx:(pageE leaf l).extract 3 (pageE leaf l).size=leftE leaf l 0:=by
  have:=ext_rest (pageE leaf l) [kindE leaf,(l.length/256).toUInt8,l.length.toUInt8] (leftE leaf l 0).data.toList hd
  rw[eta_ba]at this
  exact this
 rw[hsz]at gx
 have ho:=or_byte_i (l.length/256).toUInt8.toNat l.length.toUInt8.toNat (l.length/256).toUInt8.toNat_lt l.length.toUInt8.toNat_lt
 have hm:256*(((l.length/256).toUInt8.toNat:Nat):Int)+((l.length.toUInt8.toNat:Nat):Int)=(l.length:Int):=by
  rw[u8_of,u8_of]
  omega
 rw[hm]at ho
 have HM:=Lib.hid hm
 clear hm hd hl2
 generalize(l.length/256).toUInt8=q1 at*
 generalize l.length.toUInt8=q2 at*
 generalize pageE leaf l=S at*
 have hwa:wrap64 ((q1.toNat:Int)*256)=(q1.toNat:Int)*256:=by
  have:=q1.toNat_lt
  unfold wrap64
  omega
 have hwb:wrap64 (q1.toNat:Int)=(q1.toNat:Int):=by
  have:=q1.toNat_lt
  unfold wrap64
  omega
 have hwc:wrap64 (q2.toNat:Int)=(q2.toNat:Int):=by
  have:=q2.toNat_lt
  unfold wrap64
  omega
 have HRD:=Lib.hid hrd
 have HG0:=Lib.hid hg0
 clear hrd h ht hp hg0
 cases leaf with
 |true=>
  have gk:(kindE true).toNat=1:=rfl
  generalize kindE true=q0 at*
  go_enter Tryz.func120,Tryz.ntmps120
  go_wp2_with fail
  refine HRD.out.mono ?_
  rintro e w1 ⟨rfl,hg1⟩
  have hR:∀w',Gr (w.alloc (.cells #[.int .i64 0,.bool false,.slice none 0 0] 200)) w'->(w'.cell? ⟨w.heap.size,0,none⟩=some (.int .i64 0)/\w'.cell? ⟨w.heap.size,1,none⟩=some (.bool false)/\w'.cell? ⟨w.heap.size,2,none⟩=some (.slice none 0 0))/\∀o,w'.frozen? ⟨w.heap.size,o,none⟩=false:=fun w' g=>
   ⟨⟨g.keeps (by rw[World.cell?_alloc_new];rfl),g.keeps (by rw[World.cell?_alloc_new];rfl),g.keeps (by rw[World.cell?_alloc_new];rfl)⟩,fun o=>(g.frozen o (by simp)).trans (by simp)⟩
  have hga:Gr w1 (w1.alloc (.cells #[.int .i64 (p:Int),.bool true,.slice none 0 0] 200)):=(Gr.refl w1).alloc _
  have hR1:=hR _ (hg1.trans hga)
  have k0:(w1.alloc (.cells #[.int .i64 (p:Int),.bool true,.slice none 0 0] 200)).cell? ⟨w1.heap.size,0,none⟩=some (.int .i64 (p:Int)):=by rw[World.cell?_alloc_new];rfl
  have k1:(w1.alloc (.cells #[.int .i64 (p:Int),.bool true,.slice none 0 0] 200)).cell? ⟨w1.heap.size,1,none⟩=some (.bool true):=by rw[World.cell?_alloc_new];rfl
  have k2:(w1.alloc (.cells #[.int .i64 (p:Int),.bool true,.slice none 0 0] 200)).cell? ⟨w1.heap.size,2,none⟩=some (.slice none 0 0):=by rw[World.cell?_alloc_new];rfl
  have kf:∀o,(w1.alloc (.cells #[.int .i64 (p:Int),.bool true,.slice none 0 0] 200)).frozen? ⟨w1.heap.size,o,none⟩=false:=fun o=>by simp
  have hlt1:w1.heap.size<(w1.alloc (.cells #[.int .i64 (p:Int),.bool true,.slice none 0 0] 200)).heap.size:=by simp
  have hgw:=(HG0.out.trans hg1).trans hga
  have hRN:w.heap.size<w1.heap.size:=by have:=hg1.size;simp at this;omega
  clear hR hg1 hga
  go_wp2_with fail
  go_region
  go_wp2_with fail
  obtain⟨NB,hNB⟩:∃NB,w1.heap.size=NB:=⟨_,rfl⟩
  obtain⟨RB,hRB⟩:∃RB,w.heap.size=RB:=⟨_,rfl⟩
  have HS:Hid (w.heap.size=RB):=Lib.hid hRB
  rw[hNB]at k0 k1 k2 kf hlt1 hRN⊢
  rw[hRB]at hR1 hRN⊢
  generalize w1.alloc (.cells #[.int .i64 (p:Int),.bool true,.slice none 0 0] 200)=W0 at*
  have HI:Hid ((W0.cell? ⟨NB,0,none⟩=some (.int .i64 (p:Int))/\W0.cell? ⟨NB,1,none⟩=some (.bool true)/\W0.cell? ⟨NB,2,none⟩=some (.slice none 0 0)/\∀o,W0.frozen? ⟨NB,o,none⟩=false)/\((W0.cell? ⟨RB,0,none⟩=some (.int .i64 0)/\W0.cell? ⟨RB,1,none⟩=some (.bool false)/\W0.cell? ⟨RB,2,none⟩=some (.slice none 0 0))/\∀o,W0.frozen? ⟨RB,o,none⟩=false)/\NB<W0.heap.size/\Gr w W0):=Lib.hid ⟨⟨k0,k1,k2,kf⟩,hR1,hlt1,hgw⟩
  clear k0 k1 k2 kf hR1 hlt1 hgw hNB hRB g0 g1 g2 ho hwa hwb hwc gk z0 z1 z2
  go_loopw [6,42] (fun sv iv w'=>∃(i:Nat) (v:Value),i<=l.length/\iv=.int .i64 i/\sv=.string (leftE true l i)/\(w'.cell? ⟨NB,0,none⟩=some (.int .i64 (p:Int))/\w'.cell? ⟨NB,1,none⟩=some (.bool true)/\w'.cell? ⟨NB,2,none⟩=some v/\∀o,w'.frozen? ⟨NB,o,none⟩=false)/\((w'.cell? ⟨RB,0,none⟩=some (.int .i64 0)/\w'.cell? ⟨RB,1,none⟩=some (.bool false)/\w'.cell? ⟨RB,2,none⟩=some (.slice none 0 0))/\∀o,w'.frozen? ⟨RB,o,none⟩=false)/\NB<w'.heap.size/\Gr w w'/\OwnE w w' v (l.take i)/\v.ownBlock≠some NB/\v.ownBlock≠some RB) (fun _ iv _=>l.length-(RowKit.intOf iv).toNat)
  case atStart=>
   obtain⟨h1,h2,h3,h4⟩:=HI.out
   exact⟨0,.slice none 0 0,Nat.zero_le _,rfl,by first|rfl|rw[gx],h1,h2,h3,h4.drew,OwnE.nil _ _,by simp[Value.ownBlock],by simp[Value.ownBlock]⟩
  case round=>
   obtain⟨i,v,hi,rfl,rfl,⟨k0,k1,k2,kf⟩,⟨⟨r0,r1,r2⟩,rf⟩,hNl,hg,ho,hn1,hn2⟩:=hrel
   have HO:=Lib.hid ho
   have HG:=Lib.hid hg
   have HN1:=Lib.hid hn1
   have HN2:=Lib.hid hn2
   have hNW:RB<NB:=hRN
   clear ho hg hn1 hn2
   by_cases hlt:i<l.length
   ·have hil:(i:Int)<(l.length:Int):=by omega
    have hnx:=leftE_next true l i hlt
    have htz:=leftE_size true l i hok hb
    have HTE:Hid (l.take (i+1)=l.take i++[l[i]]):=Lib.hid (List.take_succ_eq_append_getElem hlt)
    have hoke:=hok _ (List.getElem_mem hlt)
    have hll:(l.take i).length<=100000:=by rw[List.length_take];omega
    generalize l[i]=en at*
    obtain⟨ky,it,pgi⟩:=en
    generalize leftE true l i=T0 at*
    generalize hT1:leftE true l (i+1)=T1 at*
    have HT1:=Lib.hid hT1
    clear hT1
    obtain⟨kz,hkz⟩:∃kz,ky.size=kz:=⟨_,rfl⟩
    obtain⟨iz,hiz⟩:∃iz,it.size=iz:=⟨_,rfl⟩
    have hk60:kz<=60:=by rw[<-hkz];exact hoke.key
    have hi100:iz<=100:=by rw[<-hiz];exact hoke.item
    have hp0:pgi=0:=hoke.isL rfl
    have e1:En.txt ⟨ky,it,pgi⟩ true=[kz.toUInt8,iz.toUInt8]++(ky.data.toList++it.data.toList):=by rw[<-hkz,<-hiz];rfl
    have hkl:ky.data.toList.length=kz:=by rw[<-size_data,hkz]
    have hill:it.data.toList.length=iz:=by rw[<-size_data,hiz]
    rw[e1]at hnx
    have hT0:T0.size=2+kz+iz+T1.size:=by
     rw[size_data,hnx]
     simp only[List.length_append,List.length_cons,List.length_nil,hkl,hill,<-size_data]
     omega
    have y0:0<T0.size:=by omega
    have y1:1<T0.size:=by omega
    have t0:T0[0]=kz.toUInt8:=get_at _ 0 y0 _ hnx (by simp)
    have t1:T0[1]=iz.toUInt8:=get_at _ 1 y1 _ hnx (by simp)
    have f1:T0.extract 2 (2+kz)=ky:=by
     have:=ext_part T0 [kz.toUInt8,iz.toUInt8] ky.data.toList (it.data.toList++T1.data.toList) (by rw[hnx];simp)
     rw[hkl,eta_ba]at this
     exact this
    have f2:T0.extract (2+kz) (2+kz+iz)=it:=by
     have:=ext_part T0 ([kz.toUInt8,iz.toUInt8]++ky.data.toList) it.data.toList T1.data.toList (by rw[hnx];simp)
     rw[List.length_append,hkl,hill,eta_ba]at this
     exact this
    have f3:T0.extract (2+kz+iz) T0.size=T1:=by
     have:=ext_rest T0 ([kz.toUInt8,iz.toUInt8]++(ky.data.toList++it.data.toList)) T1.data.toList hnx
     rw[List.length_append,List.length_append,hkl,hill,eta_ba]at this
     rw[show 2+kz+iz=[kz.toUInt8,iz.toUInt8].length+(kz+iz)by simp;omega]
     exact this
    have hq1:(kz.toUInt8).toNat=kz:=by simp;omega
    have hq2:(iz.toUInt8).toNat=iz:=by simp;omega
    generalize kz.toUInt8=q1 at*
    generalize iz.toUInt8=q2 at*
    rw[hT0]at f3 htz
    obtain⟨T1z,hT1z⟩:∃T1z,T1.size=T1z:=⟨_,rfl⟩
    rw[hT1z]at f3 htz hT0
    clear hT1z
    clear hnx e1 hkl hill hkz hiz hoke
    have hgb:Gr wr (wr.alloc (.cells #[.string ⟨#[]⟩,.string ⟨#[]⟩,.int .i64 0] 206)):=(Gr.refl wr).alloc _
    have e0:(wr.alloc (.cells #[.string ⟨#[]⟩,.string ⟨#[]⟩,.int .i64 0] 206)).cell? ⟨wr.heap.size,0,none⟩=some (.string ⟨#[]⟩):=by rw[World.cell?_alloc_new];rfl
    have e1:(wr.alloc (.cells #[.string ⟨#[]⟩,.string ⟨#[]⟩,.int .i64 0] 206)).cell? ⟨wr.heap.size,1,none⟩=some (.string ⟨#[]⟩):=by rw[World.cell?_alloc_new];rfl
    have e2:(wr.alloc (.cells #[.string ⟨#[]⟩,.string ⟨#[]⟩,.int .i64 0] 206)).cell? ⟨wr.heap.size,2,none⟩=some (.int .i64 0):=by rw[World.cell?_alloc_new];rfl
    have ef:∀o,(wr.alloc (.cells #[.string ⟨#[]⟩,.string ⟨#[]⟩,.int .i64 0] 206)).frozen? ⟨wr.heap.size,o,none⟩=false:=fun o=>by simp
    have m1:=hgb.keeps k1
    clear hgb
    go_wp2_with fail
    generalize hW1:wr.alloc (.cells #[.string ⟨#[]⟩,.string ⟨#[]⟩,.int .i64 0] 206)=W1 at*
    have HW1:=Lib.hid hW1
    clear hW1
    go_region
    have HF3:=Lib.hid f3
    have hl3:(l.take i++[(⟨ky,it,0⟩:En)]).length=i+1:=by rw[List.length_append,List.length_take,List.length_singleton];omega
    have HL3:=Lib.hid hl3
    clear hl3
    obtain⟨EB,hEB⟩:∃EB,wr.heap.size=EB:=⟨_,rfl⟩
    have hEN:EB≠NB:=by omega
    have hER:EB≠RB:=by omega
    have hgx:GrX (fun b=>b=EB) wr (((W1.setCell ⟨EB,0,none⟩ (.string ky)).setCell ⟨EB,1,none⟩ (.string it)).drew):=by
     have a1:GrX (fun b=>b=EB) wr W1:=by rw[<-HW1.out];exact GrX.of_gr ((Gr.refl wr).alloc _)
     exact((a1.trans (GrX.setCell (S:=fun b=>b=EB) (p:=⟨EB,0,none⟩) W1 _ rfl)).trans (GrX.setCell (S:=fun b=>b=EB) (p:=⟨EB,1,none⟩) _ _ rfl)).trans (GrX.drew _)
    have hsz2:wr.heap.size<(((W1.setCell ⟨EB,0,none⟩ (.string ky)).setCell ⟨EB,1,none⟩ (.string it)).drew).heap.size:=by
     rw[<-HW1.out]
     show wr.heap.size<((((wr.alloc _).setCell _ _).setCell _ _)).heap.size
     simp
    rw[hEB]at e0 e1 e2 ef⊢
    have y0:(((W1.setCell ⟨EB,0,none⟩ (.string ky)).setCell ⟨EB,1,none⟩ (.string it)).drew).cell? ⟨EB,0,none⟩=some (.string ky):=by
     show((W1.setCell ⟨EB,0,none⟩ (.string ky)).setCell ⟨EB,1,none⟩ (.string it)).cell? ⟨EB,0,none⟩=_
     rw[World.cell?_setCell_other _ _ _ _ (by simp),World.cell?_setCell_same _ _ _ e0]
    have y1:(((W1.setCell ⟨EB,0,none⟩ (.string ky)).setCell ⟨EB,1,none⟩ (.string it)).drew).cell? ⟨EB,1,none⟩=some (.string it):=by
     show((W1.setCell ⟨EB,0,none⟩ (.string ky)).setCell ⟨EB,1,none⟩ (.string it)).cell? ⟨EB,1,none⟩=_
     rw[World.cell?_setCell_same _ _ _ ((World.cell?_setCell_other _ _ _ _ (by simp)).trans e1)]
    have y2:(((W1.setCell ⟨EB,0,none⟩ (.string ky)).setCell ⟨EB,1,none⟩ (.string it)).drew).cell? ⟨EB,2,none⟩=some (.int .i64 0):=by
     show((W1.setCell ⟨EB,0,none⟩ (.string ky)).setCell ⟨EB,1,none⟩ (.string it)).cell? ⟨EB,2,none⟩=_
     rw[World.cell?_setCell_other _ _ _ _ (by simp),World.cell?_setCell_other _ _ _ _ (by simp)]
     exact e2
    generalize((W1.setCell ⟨EB,0,none⟩ (.string ky)).setCell ⟨EB,1,none⟩ (.string it)).drew=W2 at*
    have hvn:∀b,v.ownBlock=some b->¬b=EB:=fun b hb e=>by
     have:=ownBlock_lt HO.out b hb
     omega
    have HO2:=Lib.hid (HO.out.keepX hgx hvn)
    have HG2:Hid (Gr w W2):=Lib.hid (hgx.gr HG.out fun b hb=>by rw[hb,<-hEB];exact HG.out.size)
    have n0:=hgx.keeps hEN.symm k0
    have n1:=hgx.keeps hEN.symm k1
    have n2:=hgx.keeps hEN.symm k2
    have nf:∀o,W2.frozen? ⟨NB,o,none⟩=false:=fun o=>(hgx.frozen o hNl hEN.symm).trans (kf o)
    have hRl:RB<wr.heap.size:=by omega
    have x0:=hgx.keeps hER.symm r0
    have x1:=hgx.keeps hER.symm r1
    have x2:=hgx.keeps hER.symm r2
    have xf:∀o,W2.frozen? ⟨RB,o,none⟩=false:=fun o=>(hgx.frozen o hRl hER.symm).trans (rf o)
    have hN2:NB<W2.heap.size:=by omega
    have hR2:RB<W2.heap.size:=by omega
    clear e0 e1 e2 ef m1 k0 k1 k2 kf r0 r1 r2 rf hgx HO HG HW1 t0 t1 f1 f2 f3
    have m2:=((Gr.refl W2).alloc (.cells #[.string ky,.string it,.int .i64 0] 206)).keeps n2
    go_wp2_with(at_builtin;(refine append_ent (a0:=w) (w:=W2) rfl _ _ rfl v (l.take i) ⟨ky,it,0⟩ rfl HO2.out _ rfl rfl hll HG2.out ?_);intro v3 w3 ho3 hg3 hm3;(have p2:=hm3.keeps HN1.out n2);(have pf:∀o,w3.frozen? ⟨NB,o,none⟩=false:=fun o=>(World.frozen?_of_block (hm3.2 NB hN2 HN1.out).2).trans (nf o));(obtain⟨ao3,c3,rfl⟩:=ho3.form);rw[HL3.out]at ho3 hm3⊢;(have HO3:=Lib.hid ho3);clear ho3)
    have p0:=hm3.keeps HN1.out n0
    have p1:=hm3.keeps HN1.out n1
    have s0:=hm3.keeps HN2.out x0
    have s1:=hm3.keeps HN2.out x1
    have s2:=hm3.keeps HN2.out x2
    have sf:∀o,w3.frozen? ⟨RB,o,none⟩=false:=fun o=>(World.frozen?_of_block (hm3.2 RB hR2 HN2.out).2).trans (xf o)
    have hne1:(⟨NB,0,none⟩:Addr)≠⟨NB,2,none⟩:=by simp
    have hne2:(⟨NB,1,none⟩:Addr)≠⟨NB,2,none⟩:=by simp
    have hne3:∀o,(⟨RB,o,none⟩:Addr)≠⟨NB,2,none⟩:=fun o e=>by
     have:=congrArg Addr.block e
     simp at this
     omega
    have hgs:GrX (fun b=>b=NB) w3 (w3.setCell ⟨NB,2,none⟩ (.slice ao3 (i+1) c3)):=GrX.setCell (S:=fun b=>b=NB) (p:=⟨NB,2,none⟩) w3 _ rfl
    have hO4:OwnE w (w3.setCell ⟨NB,2,none⟩ (.slice ao3 (i+1) c3)) (.slice ao3 (i+1) c3) (l.take i++[(⟨ky,it,0⟩:En)]):=HO3.out.keepX hgs fun b hb e=>(hm3.2 NB hN2 HN1.out).1 (by rw[hb,e])
    have hRNe:RB≠NB:=by omega
    subst hp0
    have hNw:w.heap.size<=NB:=by have:=HS.out;omega
    have u0:(w3.setCell ⟨NB,2,none⟩ (.slice ao3 (i+1) c3)).cell? ⟨NB,0,none⟩=some (.int .i64 (p:Int)):=by rw[World.cell?_setCell_other _ _ _ _ (by simp)];exact p0
    have u1:(w3.setCell ⟨NB,2,none⟩ (.slice ao3 (i+1) c3)).cell? ⟨NB,1,none⟩=some (.bool true):=by rw[World.cell?_setCell_other _ _ _ _ (by simp)];exact p1
    have u2:(w3.setCell ⟨NB,2,none⟩ (.slice ao3 (i+1) c3)).cell? ⟨NB,2,none⟩=some (.slice ao3 (i+1) c3):=World.cell?_setCell_same _ _ _ p2
    have uf:∀o,(w3.setCell ⟨NB,2,none⟩ (.slice ao3 (i+1) c3)).frozen? ⟨NB,o,none⟩=false:=fun o=>by rw[World.frozen?_setCell];exact pf o
    have uz:∀o,(w3.setCell ⟨NB,2,none⟩ (.slice ao3 (i+1) c3)).frozen? ⟨RB,o,none⟩=false:=fun o=>by rw[World.frozen?_setCell];exact sf o
    have v0:=hgs.keeps hRNe s0
    have v1:=hgs.keeps hRNe s1
    have v2:=hgs.keeps hRNe s2
    have ug:Gr w (w3.setCell ⟨NB,2,none⟩ (.slice ao3 (i+1) c3)):=hg3.setCell hNw _
    have us:NB<(w3.setCell ⟨NB,2,none⟩ (.slice ao3 (i+1) c3)).heap.size:=by
     have:=hm3.1
     have:=hgs.2.2.2.1
     omega
    have hl1:i+1<=l.length:=by omega
    have ut:(.string (T0.extract (2+kz+iz) (2+kz+iz+T1z)):Value)=.string (leftE true l (i+1)):=by rw[HF3.out,HT1.out]
    have hx1:=(hm3.2 NB hN2 HN1.out).1
    have hx2:=(hm3.2 RB hR2 HN2.out).1
    have hO5:OwnE w (w3.setCell ⟨NB,2,none⟩ (.slice ao3 (i+1) c3)) (.slice ao3 (i+1) c3) (l.take (i+1)):=by
     rw[HTE.out]
     exact hO4
    exact⟨⟨i+1,.slice ao3 (i+1) c3,hl1,by go_num,ut,⟨u0,u1,u2,uf⟩,⟨⟨v0,v1,v2⟩,uz⟩,us,ug,hO5,hx1,hx2⟩,by simp[RowKit.intOf];omega⟩
   ·have hii:i=l.length:=by omega
    subst hii
    rw[List.take_length]at HO
    obtain⟨ao,ca,rfl⟩:=HO.out.form
    have hO3:OwnE w (((wr.setCell ⟨RB,0,none⟩ (.int .i64 (p:Int))).setCell ⟨RB,1,none⟩ (.bool true)).setCell ⟨RB,2,none⟩ (.slice ao l.length ca)) (.slice ao l.length ca) l:=HO.out.keepX (((GrX.setCell (S:=fun b=>b=RB) (p:=⟨RB,0,none⟩) wr _ rfl).trans (GrX.setCell (S:=fun b=>b=RB) (p:=⟨RB,1,none⟩) _ _ rfl)).trans (GrX.setCell (S:=fun b=>b=RB) (p:=⟨RB,2,none⟩) _ _ rfl)) fun b hb e=>HN2.out (by rw[hb,e])
    have hRw:w.heap.size<=RB:=Nat.le_of_eq HS.out
    have hG3:Gr w (((wr.setCell ⟨RB,0,none⟩ (.int .i64 (p:Int))).setCell ⟨RB,1,none⟩ (.bool true)).setCell ⟨RB,2,none⟩ (.slice ao l.length ca)):=((HG.out.setCell hRw _).setCell hRw _).setCell hRw _
    have w0:(((wr.setCell ⟨RB,0,none⟩ (.int .i64 (p:Int))).setCell ⟨RB,1,none⟩ (.bool true)).setCell ⟨RB,2,none⟩ (.slice ao l.length ca)).cell? ⟨RB,0,none⟩=some (.int .i64 (p:Int)):=by
     rw[World.cell?_setCell_other _ _ _ _ (by simp),World.cell?_setCell_other _ _ _ _ (by simp),World.cell?_setCell_same _ _ _ r0]
    have w1:(((wr.setCell ⟨RB,0,none⟩ (.int .i64 (p:Int))).setCell ⟨RB,1,none⟩ (.bool true)).setCell ⟨RB,2,none⟩ (.slice ao l.length ca)).cell? ⟨RB,1,none⟩=some (.bool true):=by
     rw[World.cell?_setCell_other _ _ _ _ (by simp),World.cell?_setCell_same _ _ _ ((World.cell?_setCell_other _ _ _ _ (by simp)).trans r1)]
    have w2:(((wr.setCell ⟨RB,0,none⟩ (.int .i64 (p:Int))).setCell ⟨RB,1,none⟩ (.bool true)).setCell ⟨RB,2,none⟩ (.slice ao l.length ca)).cell? ⟨RB,2,none⟩=some (.slice ao l.length ca):=by
     rw[World.cell?_setCell_same _ _ _ ((World.cell?_setCell_other _ _ _ _ (by simp)).trans ((World.cell?_setCell_other _ _ _ _ (by simp)).trans r2))]
    have HO3:=Lib.hid hO3
    have HG3:=Lib.hid hG3
    have HW0:=Lib.hid w0
    have HW1:=Lib.hid w1
    have HW2:=Lib.hid w2
    clear hO3 hG3 w0 w1 w2
    go_wp2_with fail
    have w0:=HW0.out
    have w1:=HW1.out
    have w2:=HW2.out
    generalize(((wr.setCell ⟨RB,0,none⟩ (.int .i64 (p:Int))).setCell ⟨RB,1,none⟩ (.bool true)).setCell ⟨RB,2,none⟩ (.slice ao l.length ca))=W9 at*
    refine bodyPost_ret (v:=.tuple #[nodeV p true (.slice ao l.length ca),.nilIface]) (by simp[results,Tryz.results120,go_sem,nodeV,w0,w1,w2]) rfl ⟨_,rfl,HO3.out,HG3.out⟩
 |false=>
  have gk:(kindE false).toNat=2:=rfl
  generalize kindE false=q0 at*
  go_enter Tryz.func120,Tryz.ntmps120
  go_wp2_with fail
  refine HRD.out.mono ?_
  rintro e w1 ⟨rfl,hg1⟩
  have hR:∀w',Gr (w.alloc (.cells #[.int .i64 0,.bool false,.slice none 0 0] 200)) w'->(w'.cell? ⟨w.heap.size,0,none⟩=some (.int .i64 0)/\w'.cell? ⟨w.heap.size,1,none⟩=some (.bool false)/\w'.cell? ⟨w.heap.size,2,none⟩=some (.slice none 0 0))/\∀o,w'.frozen? ⟨w.heap.size,o,none⟩=false:=fun w' g=>
   ⟨⟨g.keeps (by rw[World.cell?_alloc_new];rfl),g.keeps (by rw[World.cell?_alloc_new];rfl),g.keeps (by rw[World.cell?_alloc_new];rfl)⟩,fun o=>(g.frozen o (by simp)).trans (by simp)⟩
  have hga:Gr w1 (w1.alloc (.cells #[.int .i64 (p:Int),.bool false,.slice none 0 0] 200)):=(Gr.refl w1).alloc _
  have hR1:=hR _ (hg1.trans hga)
  have k0:(w1.alloc (.cells #[.int .i64 (p:Int),.bool false,.slice none 0 0] 200)).cell? ⟨w1.heap.size,0,none⟩=some (.int .i64 (p:Int)):=by rw[World.cell?_alloc_new];rfl
  have k1:(w1.alloc (.cells #[.int .i64 (p:Int),.bool false,.slice none 0 0] 200)).cell? ⟨w1.heap.size,1,none⟩=some (.bool false):=by rw[World.cell?_alloc_new];rfl
  have k2:(w1.alloc (.cells #[.int .i64 (p:Int),.bool false,.slice none 0 0] 200)).cell? ⟨w1.heap.size,2,none⟩=some (.slice none 0 0):=by rw[World.cell?_alloc_new];rfl
  have kf:∀o,(w1.alloc (.cells #[.int .i64 (p:Int),.bool false,.slice none 0 0] 200)).frozen? ⟨w1.heap.size,o,none⟩=false:=fun o=>by simp
  have hlt1:w1.heap.size<(w1.alloc (.cells #[.int .i64 (p:Int),.bool false,.slice none 0 0] 200)).heap.size:=by simp
  have hgw:=(HG0.out.trans hg1).trans hga
  have hRN:w.heap.size<w1.heap.size:=by have:=hg1.size;simp at this;omega
  clear hR hg1 hga
  go_wp2_with fail
  go_region
  go_wp2_with fail
  obtain⟨NB,hNB⟩:∃NB,w1.heap.size=NB:=⟨_,rfl⟩
  obtain⟨RB,hRB⟩:∃RB,w.heap.size=RB:=⟨_,rfl⟩
  have HS:Hid (w.heap.size=RB):=Lib.hid hRB
  rw[hNB]at k0 k1 k2 kf hlt1 hRN⊢
  rw[hRB]at hR1 hRN⊢
  generalize w1.alloc (.cells #[.int .i64 (p:Int),.bool false,.slice none 0 0] 200)=W0 at*
  have HI:Hid ((W0.cell? ⟨NB,0,none⟩=some (.int .i64 (p:Int))/\W0.cell? ⟨NB,1,none⟩=some (.bool false)/\W0.cell? ⟨NB,2,none⟩=some (.slice none 0 0)/\∀o,W0.frozen? ⟨NB,o,none⟩=false)/\((W0.cell? ⟨RB,0,none⟩=some (.int .i64 0)/\W0.cell? ⟨RB,1,none⟩=some (.bool false)/\W0.cell? ⟨RB,2,none⟩=some (.slice none 0 0))/\∀o,W0.frozen? ⟨RB,o,none⟩=false)/\NB<W0.heap.size/\Gr w W0):=Lib.hid ⟨⟨k0,k1,k2,kf⟩,hR1,hlt1,hgw⟩
  clear k0 k1 k2 kf hR1 hlt1 hgw hNB hRB g0 g1 g2 ho hwa hwb hwc gk z0 z1 z2
  go_loopw [6,42] (fun sv iv w'=>∃(i:Nat) (v:Value),i<=l.length/\iv=.int .i64 i/\sv=.string (leftE false l i)/\(w'.cell? ⟨NB,0,none⟩=some (.int .i64 (p:Int))/\w'.cell? ⟨NB,1,none⟩=some (.bool false)/\w'.cell? ⟨NB,2,none⟩=some v/\∀o,w'.frozen? ⟨NB,o,none⟩=false)/\((w'.cell? ⟨RB,0,none⟩=some (.int .i64 0)/\w'.cell? ⟨RB,1,none⟩=some (.bool false)/\w'.cell? ⟨RB,2,none⟩=some (.slice none 0 0))/\∀o,w'.frozen? ⟨RB,o,none⟩=false)/\NB<w'.heap.size/\Gr w w'/\OwnE w w' v (l.take i)/\v.ownBlock≠some NB/\v.ownBlock≠some RB) (fun _ iv _=>l.length-(RowKit.intOf iv).toNat)
  case atStart=>
   obtain⟨h1,h2,h3,h4⟩:=HI.out
   exact⟨0,.slice none 0 0,Nat.zero_le _,rfl,by first|rfl|rw[gx],h1,h2,h3,h4.drew,OwnE.nil _ _,by simp[Value.ownBlock],by simp[Value.ownBlock]⟩
  case round=>
   obtain⟨i,v,hi,rfl,rfl,⟨k0,k1,k2,kf⟩,⟨⟨r0,r1,r2⟩,rf⟩,hNl,hg,ho,hn1,hn2⟩:=hrel
   have HO:=Lib.hid ho
   have HG:=Lib.hid hg
   have HN1:=Lib.hid hn1
   have HN2:=Lib.hid hn2
   have hNW:RB<NB:=hRN
   clear ho hg hn1 hn2
   by_cases hlt:i<l.length
   ·have hil:(i:Int)<(l.length:Int):=by omega
    have hnx:=leftE_next false l i hlt
    have htz:=leftE_size false l i hok hb
    have HTE:Hid (l.take (i+1)=l.take i++[l[i]]):=Lib.hid (List.take_succ_eq_append_getElem hlt)
    have hoke:=hok _ (List.getElem_mem hlt)
    have hll:(l.take i).length<=100000:=by rw[List.length_take];omega
    generalize l[i]=en at*
    obtain⟨ky,it,pgi⟩:=en
    generalize leftE false l i=T0 at*
    generalize hT1:leftE false l (i+1)=T1 at*
    have HT1:=Lib.hid hT1
    clear hT1
    obtain⟨kz,hkz⟩:∃kz,ky.size=kz:=⟨_,rfl⟩
    have hk60:kz<=60:=by rw[<-hkz];exact hoke.key
    have hp2000:pgi<2000:=hoke.page
    have hit:it=noB:=hoke.node rfl
    subst hit
    have e1:En.txt ⟨ky,noB,pgi⟩ false=[kz.toUInt8,(pgi/256).toUInt8,pgi.toUInt8]++ky.data.toList:=by
     rw[<-hkz]
     unfold En.txt En.head
     simp only[Bool.false_eq_true,if_false]
     rw[two8_nat _ (by omega)]
     simp[noB]
    have hkl:ky.data.toList.length=kz:=by rw[<-size_data,hkz]
    rw[e1]at hnx
    have hT0:T0.size=3+kz+T1.size:=by
     rw[size_data,hnx]
     simp only[List.length_append,List.length_cons,List.length_nil,hkl,<-size_data]
    have y0:0<T0.size:=by omega
    have y1:1<T0.size:=by omega
    have y2:2<T0.size:=by omega
    have t0:T0[0]=kz.toUInt8:=get_at _ 0 y0 _ hnx (by simp)
    have t1:T0[1]=(pgi/256).toUInt8:=get_at _ 1 y1 _ hnx (by simp)
    have t2:T0[2]=pgi.toUInt8:=get_at _ 2 y2 _ hnx (by simp)
    have f1:T0.extract 3 (3+kz)=ky:=by
     have:=ext_part T0 [kz.toUInt8,(pgi/256).toUInt8,pgi.toUInt8] ky.data.toList T1.data.toList (by rw[hnx];simp)
     rw[hkl,eta_ba]at this
     exact this
    have f3:T0.extract (3+kz) T0.size=T1:=by
     have:=ext_rest T0 ([kz.toUInt8,(pgi/256).toUInt8,pgi.toUInt8]++ky.data.toList) T1.data.toList hnx
     rw[List.length_append,hkl,eta_ba]at this
     exact this
    have hq1:(kz.toUInt8).toNat=kz:=by simp;omega
    have ho2:=or_byte_i (pgi/256).toUInt8.toNat pgi.toUInt8.toNat (pgi/256).toUInt8.toNat_lt pgi.toUInt8.toNat_lt
    have hm2:256*(((pgi/256).toUInt8.toNat:Nat):Int)+((pgi.toUInt8.toNat:Nat):Int)=(pgi:Int):=by
     rw[u8_of,u8_of]
     omega
    rw[hm2]at ho2
    clear hm2
    generalize kz.toUInt8=q1 at*
    generalize(pgi/256).toUInt8=q2 at*
    generalize pgi.toUInt8=q3 at*
    have hwa:wrap64 ((q2.toNat:Int)*256)=(q2.toNat:Int)*256:=by
     have:=q2.toNat_lt
     unfold wrap64
     omega
    have hwb:wrap64 (q2.toNat:Int)=(q2.toNat:Int):=by
     have:=q2.toNat_lt
     unfold wrap64
     omega
    have hwc:wrap64 (q3.toNat:Int)=(q3.toNat:Int):=by
     have:=q3.toNat_lt
     unfold wrap64
     omega
    rw[hT0]at f3 htz
    obtain⟨T1z,hT1z⟩:∃T1z,T1.size=T1z:=⟨_,rfl⟩
    rw[hT1z]at f3 htz hT0
    clear hT1z
    clear hnx e1 hkl hkz hoke
    have hgb:Gr wr (wr.alloc (.cells #[.string ⟨#[]⟩,.string ⟨#[]⟩,.int .i64 0] 206)):=(Gr.refl wr).alloc _
    have e0:(wr.alloc (.cells #[.string ⟨#[]⟩,.string ⟨#[]⟩,.int .i64 0] 206)).cell? ⟨wr.heap.size,0,none⟩=some (.string ⟨#[]⟩):=by rw[World.cell?_alloc_new];rfl
    have e1:(wr.alloc (.cells #[.string ⟨#[]⟩,.string ⟨#[]⟩,.int .i64 0] 206)).cell? ⟨wr.heap.size,1,none⟩=some (.string ⟨#[]⟩):=by rw[World.cell?_alloc_new];rfl
    have e2:(wr.alloc (.cells #[.string ⟨#[]⟩,.string ⟨#[]⟩,.int .i64 0] 206)).cell? ⟨wr.heap.size,2,none⟩=some (.int .i64 0):=by rw[World.cell?_alloc_new];rfl
    have ef:∀o,(wr.alloc (.cells #[.string ⟨#[]⟩,.string ⟨#[]⟩,.int .i64 0] 206)).frozen? ⟨wr.heap.size,o,none⟩=false:=fun o=>by simp
    have m1:=hgb.keeps k1
    clear hgb
    go_wp2_with fail
    generalize hW1:wr.alloc (.cells #[.string ⟨#[]⟩,.string ⟨#[]⟩,.int .i64 0] 206)=W1 at*
    have HW1:=Lib.hid hW1
    clear hW1
    go_region
    have HF3:=Lib.hid f3
    have hl3:(l.take i++[(⟨ky,noB,pgi⟩:En)]).length=i+1:=by rw[List.length_append,List.length_take,List.length_singleton];omega
    have HL3:=Lib.hid hl3
    clear hl3
    obtain⟨EB,hEB⟩:∃EB,wr.heap.size=EB:=⟨_,rfl⟩
    have hEN:EB≠NB:=by omega
    have hER:EB≠RB:=by omega
    have hgx:GrX (fun b=>b=EB) wr (((W1.setCell ⟨EB,2,none⟩ (.int .i64 (pgi:Int))).setCell ⟨EB,0,none⟩ (.string ky)).drew):=by
     have a1:GrX (fun b=>b=EB) wr W1:=by rw[<-HW1.out];exact GrX.of_gr ((Gr.refl wr).alloc _)
     exact((a1.trans (GrX.setCell (S:=fun b=>b=EB) (p:=⟨EB,2,none⟩) W1 _ rfl)).trans (GrX.setCell (S:=fun b=>b=EB) (p:=⟨EB,0,none⟩) _ _ rfl)).trans (GrX.drew _)
    have hsz2:wr.heap.size<(((W1.setCell ⟨EB,2,none⟩ (.int .i64 (pgi:Int))).setCell ⟨EB,0,none⟩ (.string ky)).drew).heap.size:=by
     rw[<-HW1.out]
     show wr.heap.size<((((wr.alloc _).setCell _ _).setCell _ _)).heap.size
     simp
    rw[hEB]at e0 e1 e2 ef⊢
    have y0:(((W1.setCell ⟨EB,2,none⟩ (.int .i64 (pgi:Int))).setCell ⟨EB,0,none⟩ (.string ky)).drew).cell? ⟨EB,0,none⟩=some (.string ky):=by
     show((W1.setCell ⟨EB,2,none⟩ (.int .i64 (pgi:Int))).setCell ⟨EB,0,none⟩ (.string ky)).cell? ⟨EB,0,none⟩=_
     rw[World.cell?_setCell_same _ _ _ ((World.cell?_setCell_other _ _ _ _ (by simp)).trans e0)]
    have y1:(((W1.setCell ⟨EB,2,none⟩ (.int .i64 (pgi:Int))).setCell ⟨EB,0,none⟩ (.string ky)).drew).cell? ⟨EB,1,none⟩=some ((.string noB)):=by
     show((W1.setCell ⟨EB,2,none⟩ (.int .i64 (pgi:Int))).setCell ⟨EB,0,none⟩ (.string ky)).cell? ⟨EB,1,none⟩=_
     rw[World.cell?_setCell_other _ _ _ _ (by simp),World.cell?_setCell_other _ _ _ _ (by simp)]
     exact e1
    have y2:(((W1.setCell ⟨EB,2,none⟩ (.int .i64 (pgi:Int))).setCell ⟨EB,0,none⟩ (.string ky)).drew).cell? ⟨EB,2,none⟩=some (.int .i64 (pgi:Int)):=by
     show((W1.setCell ⟨EB,2,none⟩ (.int .i64 (pgi:Int))).setCell ⟨EB,0,none⟩ (.string ky)).cell? ⟨EB,2,none⟩=_
     rw[World.cell?_setCell_other _ _ _ _ (by simp),World.cell?_setCell_same _ _ _ e2]
    generalize((W1.setCell ⟨EB,2,none⟩ (.int .i64 (pgi:Int))).setCell ⟨EB,0,none⟩ (.string ky)).drew=W2 at*
    have hvn:∀b,v.ownBlock=some b->¬b=EB:=fun b hb e=>by
     have:=ownBlock_lt HO.out b hb
     omega
    have HO2:=Lib.hid (HO.out.keepX hgx hvn)
    have HG2:Hid (Gr w W2):=Lib.hid (hgx.gr HG.out fun b hb=>by rw[hb,<-hEB];exact HG.out.size)
    have n0:=hgx.keeps hEN.symm k0
    have n1:=hgx.keeps hEN.symm k1
    have n2:=hgx.keeps hEN.symm k2
    have nf:∀o,W2.frozen? ⟨NB,o,none⟩=false:=fun o=>(hgx.frozen o hNl hEN.symm).trans (kf o)
    have hRl:RB<wr.heap.size:=by omega
    have x0:=hgx.keeps hER.symm r0
    have x1:=hgx.keeps hER.symm r1
    have x2:=hgx.keeps hER.symm r2
    have xf:∀o,W2.frozen? ⟨RB,o,none⟩=false:=fun o=>(hgx.frozen o hRl hER.symm).trans (rf o)
    have hN2:NB<W2.heap.size:=by omega
    have hR2:RB<W2.heap.size:=by omega
    clear e0 e1 e2 ef m1 k0 k1 k2 kf r0 r1 r2 rf hgx HO HG HW1 t0 t1 t2 f1 f3
    have m2:=((Gr.refl W2).alloc (.cells #[.string ky,Value.string noB,.int .i64 (pgi:Int)] 206)).keeps n2
    go_wp2_with(at_builtin;(refine append_ent (a0:=w) (w:=W2) rfl _ _ rfl v (l.take i) ⟨ky,noB,pgi⟩ rfl HO2.out _ rfl rfl hll HG2.out ?_);intro v3 w3 ho3 hg3 hm3;(have p2:=hm3.keeps HN1.out n2);(have pf:∀o,w3.frozen? ⟨NB,o,none⟩=false:=fun o=>(World.frozen?_of_block (hm3.2 NB hN2 HN1.out).2).trans (nf o));(obtain⟨ao3,c3,rfl⟩:=ho3.form);rw[HL3.out]at ho3 hm3⊢;(have HO3:=Lib.hid ho3);clear ho3)
    have p0:=hm3.keeps HN1.out n0
    have p1:=hm3.keeps HN1.out n1
    have s0:=hm3.keeps HN2.out x0
    have s1:=hm3.keeps HN2.out x1
    have s2:=hm3.keeps HN2.out x2
    have sf:∀o,w3.frozen? ⟨RB,o,none⟩=false:=fun o=>(World.frozen?_of_block (hm3.2 RB hR2 HN2.out).2).trans (xf o)
    have hne1:(⟨NB,0,none⟩:Addr)≠⟨NB,2,none⟩:=by simp
    have hne2:(⟨NB,1,none⟩:Addr)≠⟨NB,2,none⟩:=by simp
    have hne3:∀o,(⟨RB,o,none⟩:Addr)≠⟨NB,2,none⟩:=fun o e=>by
     have:=congrArg Addr.block e
     simp at this
     omega
    have hgs:GrX (fun b=>b=NB) w3 (w3.setCell ⟨NB,2,none⟩ (.slice ao3 (i+1) c3)):=GrX.setCell (S:=fun b=>b=NB) (p:=⟨NB,2,none⟩) w3 _ rfl
    have hO4:OwnE w (w3.setCell ⟨NB,2,none⟩ (.slice ao3 (i+1) c3)) (.slice ao3 (i+1) c3) (l.take i++[(⟨ky,noB,pgi⟩:En)]):=HO3.out.keepX hgs fun b hb e=>(hm3.2 NB hN2 HN1.out).1 (by rw[hb,e])
    have hRNe:RB≠NB:=by omega
    have hNw:w.heap.size<=NB:=by have:=HS.out;omega
    have u0:(w3.setCell ⟨NB,2,none⟩ (.slice ao3 (i+1) c3)).cell? ⟨NB,0,none⟩=some (.int .i64 (p:Int)):=by rw[World.cell?_setCell_other _ _ _ _ (by simp)];exact p0
    have u1:(w3.setCell ⟨NB,2,none⟩ (.slice ao3 (i+1) c3)).cell? ⟨NB,1,none⟩=some (.bool false):=by rw[World.cell?_setCell_other _ _ _ _ (by simp)];exact p1
    have u2:(w3.setCell ⟨NB,2,none⟩ (.slice ao3 (i+1) c3)).cell? ⟨NB,2,none⟩=some (.slice ao3 (i+1) c3):=World.cell?_setCell_same _ _ _ p2
    have uf:∀o,(w3.setCell ⟨NB,2,none⟩ (.slice ao3 (i+1) c3)).frozen? ⟨NB,o,none⟩=false:=fun o=>by rw[World.frozen?_setCell];exact pf o
    have uz:∀o,(w3.setCell ⟨NB,2,none⟩ (.slice ao3 (i+1) c3)).frozen? ⟨RB,o,none⟩=false:=fun o=>by rw[World.frozen?_setCell];exact sf o
    have v0:=hgs.keeps hRNe s0
    have v1:=hgs.keeps hRNe s1
    have v2:=hgs.keeps hRNe s2
    have ug:Gr w (w3.setCell ⟨NB,2,none⟩ (.slice ao3 (i+1) c3)):=hg3.setCell hNw _
    have us:NB<(w3.setCell ⟨NB,2,none⟩ (.slice ao3 (i+1) c3)).heap.size:=by
     have:=hm3.1
     have:=hgs.2.2.2.1
     omega
    have hl1:i+1<=l.length:=by omega
    have ut:(.string (T0.extract (3+kz) (3+kz+T1z)):Value)=.string (leftE false l (i+1)):=by rw[HF3.out,HT1.out]
    have hx1:=(hm3.2 NB hN2 HN1.out).1
    have hx2:=(hm3.2 RB hR2 HN2.out).1
    have hO5:OwnE w (w3.setCell ⟨NB,2,none⟩ (.slice ao3 (i+1) c3)) (.slice ao3 (i+1) c3) (l.take (i+1)):=by
     rw[HTE.out]
     exact hO4
    exact⟨⟨i+1,.slice ao3 (i+1) c3,hl1,by go_num,ut,⟨u0,u1,u2,uf⟩,⟨⟨v0,v1,v2⟩,uz⟩,us,ug,hO5,hx1,hx2⟩,by simp[RowKit.intOf];omega⟩
   ·have hii:i=l.length:=by omega
    subst hii
    rw[List.take_length]at HO
    obtain⟨ao,ca,rfl⟩:=HO.out.form
    have hO3:OwnE w (((wr.setCell ⟨RB,0,none⟩ (.int .i64 (p:Int))).setCell ⟨RB,1,none⟩ (.bool false)).setCell ⟨RB,2,none⟩ (.slice ao l.length ca)) (.slice ao l.length ca) l:=HO.out.keepX (((GrX.setCell (S:=fun b=>b=RB) (p:=⟨RB,0,none⟩) wr _ rfl).trans (GrX.setCell (S:=fun b=>b=RB) (p:=⟨RB,1,none⟩) _ _ rfl)).trans (GrX.setCell (S:=fun b=>b=RB) (p:=⟨RB,2,none⟩) _ _ rfl)) fun b hb e=>HN2.out (by rw[hb,e])
    have hRw:w.heap.size<=RB:=Nat.le_of_eq HS.out
    have hG3:Gr w (((wr.setCell ⟨RB,0,none⟩ (.int .i64 (p:Int))).setCell ⟨RB,1,none⟩ (.bool false)).setCell ⟨RB,2,none⟩ (.slice ao l.length ca)):=((HG.out.setCell hRw _).setCell hRw _).setCell hRw _
    have w0:(((wr.setCell ⟨RB,0,none⟩ (.int .i64 (p:Int))).setCell ⟨RB,1,none⟩ (.bool false)).setCell ⟨RB,2,none⟩ (.slice ao l.length ca)).cell? ⟨RB,0,none⟩=some (.int .i64 (p:Int)):=by
     rw[World.cell?_setCell_other _ _ _ _ (by simp),World.cell?_setCell_other _ _ _ _ (by simp),World.cell?_setCell_same _ _ _ r0]
    have w1:(((wr.setCell ⟨RB,0,none⟩ (.int .i64 (p:Int))).setCell ⟨RB,1,none⟩ (.bool false)).setCell ⟨RB,2,none⟩ (.slice ao l.length ca)).cell? ⟨RB,1,none⟩=some (.bool false):=by
     rw[World.cell?_setCell_other _ _ _ _ (by simp),World.cell?_setCell_same _ _ _ ((World.cell?_setCell_other _ _ _ _ (by simp)).trans r1)]
    have w2:(((wr.setCell ⟨RB,0,none⟩ (.int .i64 (p:Int))).setCell ⟨RB,1,none⟩ (.bool false)).setCell ⟨RB,2,none⟩ (.slice ao l.length ca)).cell? ⟨RB,2,none⟩=some (.slice ao l.length ca):=by
     rw[World.cell?_setCell_same _ _ _ ((World.cell?_setCell_other _ _ _ _ (by simp)).trans ((World.cell?_setCell_other _ _ _ _ (by simp)).trans r2))]
    have HO3:=Lib.hid hO3
    have HG3:=Lib.hid hG3
    have HW0:=Lib.hid w0
    have HW1:=Lib.hid w1
    have HW2:=Lib.hid w2
    clear hO3 hG3 w0 w1 w2
    go_wp2_with fail
    have w0:=HW0.out
    have w1:=HW1.out
    have w2:=HW2.out
    generalize(((wr.setCell ⟨RB,0,none⟩ (.int .i64 (p:Int))).setCell ⟨RB,1,none⟩ (.bool false)).setCell ⟨RB,2,none⟩ (.slice ao l.length ca))=W9 at*
    refine bodyPost_ret (v:=.tuple #[nodeV p false (.slice ao l.length ca),.nilIface]) (by simp[results,Tryz.results120,go_sem,nodeV,w0,w1,w2]) rfl ⟨_,rfl,HO3.out,HG3.out⟩
end
end
section
open Go Go.RowKit Go.Maps
theorem MapAt.small{w:World}{M n:Nat}{F:Int->Option ByteArray}(h:MapAt w M n F)(hF:fineF F):MapAt w M 2000 F:=by
 obtain⟨D,h1,h2⟩:=h
 obtain⟨es,clock,e1,e2,e3,rfl⟩:=h1
 obtain⟨D',k1,k2⟩:=MapAt.keys ⟨_,⟨es,clock,e1,e2,Nat.le_refl _,rfl⟩,h2⟩ hF
 have hsz:Maps.size D'=(ksF F).length:=by
  obtain⟨es',rfl,_⟩:=k1.entries keyI
  have:=k2.length_eq
  simp only[intKeys,List.length_map]at this
  exact this.symm
 have hl:=ksF_len F
 obtain⟨es2,c2,f1,f2,f3,rfl⟩:=k1
 rw[e1]at f1
 have hes:es=es2:=by
  have:=Option.some.inj f1
  injection this
 subst hes
 have h5:es.size<=2000:=by
  have h6:=hsz
  unfold Maps.size at h6
  simp only[length_read]at h6
  omega
 exact⟨_,⟨es,clock,e1,e2,h5,rfl⟩,h2⟩
theorem PgS.small{w:World}{PB DB M n:Nat}{c:Ch}{sv:Head}{t:Int}{d:Dk}(h:PgS w PB DB M n c sv t d)(hc:c.fine):PgS w PB DB M 2000 c sv t d:=by
 obtain⟨⟨n',h1,h2⟩,h3,h4,h5⟩:=h
 exact⟨⟨2000,Nat.le_refl _,⟨h2.disk,h2.head,h2.map,h2.saved,h2.down,h2.times,h2.free,h2.dirty.small hc.dirty,h2.ne⟩⟩,h3,h4,h5⟩
structure PgT(w:World)(PB DB M:Nat)(c:Ch)(sv:Head)(t:Int)(d:Dk):Prop where
 s:PgS w PB DB M 2000 c sv t d
 f:c.fine
section
variable{w:World}{PB DB M:Nat}{c:Ch}{sv:Head}{t:Int}{d:Dk}
theorem PgT.gr{w':World}(h:PgT w PB DB M c sv t d)(g:Gr w w'):PgT w' PB DB M c sv t d:=⟨h.s.gr g,h.f⟩
theorem PgT.lt(h:PgT w PB DB M c sv t d):PB<w.heap.size/\DB<w.heap.size/\M<w.heap.size:=h.s.lt
theorem alloc_t(h:PgT w PB DB M c sv t d):Calls Tryz.prog 199 #[.pointer (some ⟨PB,0,none⟩)] w fun e w'=>e=.returned (allocV c)/\PgT w' PB DB M c.alloc sv t d/\PgF PB DB M M w w':=
 (alloc_s h.s (by omega)).mono fun _ _ ⟨h1,h2,h3⟩=>⟨h1,⟨h2.small h.f.alloc_fine,h.f.alloc_fine⟩,h3⟩
theorem free_t(h:PgT w PB DB M c sv t d){k:Nat}(hk:InU c k):Calls Tryz.prog 204 #[.pointer (some ⟨PB,0,none⟩),.int .i64 (k:Int)] w fun e w'=>e=.returned .nilIface/\PgT w' PB DB M (c.free (k:Nat)) sv t d/\PgF PB DB M M w w':=
 (free_s h.s (k:Int)).mono fun _ _ ⟨h1,h2,h3⟩=>⟨by rw[h1,hk.inUse];rfl,⟨h2.small (h.f.free_fine _),h.f.free_fine _⟩,h3⟩
theorem pwrite_t(h:PgT w PB DB M c sv t d){k:Nat}(hk:InU c k)(s:ByteArray)(hs:s.size=1024):Calls Tryz.prog 251 #[.pointer (some ⟨PB,0,none⟩),.int .i64 (k:Int),.string s] w fun e w'=>e=.returned .nilIface/\PgT w' PB DB M (c.write (k:Nat) s) sv t d/\PgF PB DB M M w w':=
 (write_s h.s (by omega) (k:Int) s hs).mono fun _ _ ⟨h1,h2,h3⟩=>⟨by rw[h1,hk.inUse];rfl,⟨h2.small (h.f.write_fine _ hs),h.f.write_fine _ hs⟩,h3⟩
end
end
section
open Go Go.RowKit
theorem gr_undrew{w w':World}(h:Gr w.drew w'):Gr w w':=((Gr.refl w).drew).trans h
section
variable{w:World}{PB DB M:Nat}{c:Ch}{sv:Head}{t:Int}{d:Dk}
theorem start_n(h:PgT w PB DB M c sv t d){TP root:Nat}(ht:TreeAt w TP PB root)(hr:root<8):
  Calls Tryz.prog 119 #[.pointer (some ⟨TP,0,none⟩)] w (Ret w (.int .i64 (c.h.roots root))):=by
 have hs:=fun w' (g:Gr w w')=>root_s (h.s.gr g) root hr
 have h0:=ht.p
 have h1:=ht.r
 go_enter Tryz.func119,Tryz.ntmps119
 go_wp2_with fail
 go_region_with(go_at_call 83;refine(hs _ (by repeat(with_reducible first|exact Gr.refl _|refine Gr.drew ?_))).mono ?_;rintro e w1 ⟨rfl,hg1⟩)
 all_goals
  go_wp2_with fail
  go_ret
  exact Ret.mk rfl (gr_undrew hg1)
theorem sum_n(h:PgT w PB DB M c sv t d){TP root:Nat}(ht:TreeAt w TP PB root)(hr:root<8):
  Calls Tryz.prog 143 #[.pointer (some ⟨TP,0,none⟩)] w (Ret w (.int .i64 (c.h.notes root))):=by
 have hs:=fun w' (g:Gr w w')=>root_s (h.s.gr g) root hr
 have h0:=ht.p
 have h1:=ht.r
 go_enter Tryz.func143,Tryz.ntmps143
 go_wp2_with fail
 go_region_with(go_at_call 83;refine(hs _ (by repeat(with_reducible first|exact Gr.refl _|refine Gr.drew ?_))).mono ?_;rintro e w1 ⟨rfl,hg1⟩)
 all_goals
  go_wp2_with fail
  go_ret
  exact Ret.mk rfl (gr_undrew hg1)
theorem write_n(h:PgT w PB DB M c sv t d){TP root:Nat}(ht:TreeAt w TP PB root){leaf:Bool}{p:Nat}{l:List En}{s:Value}(hs:IsE w s l)(hok:∀e∈l,e.ok leaf)(hb:bytesE leaf l<=1024)(hp:InU c p):
  Calls Tryz.prog 200 #[.pointer (some ⟨TP,0,none⟩),nodeV p leaf s] w fun e w'=>e=.returned .nilIface/\PgT w' PB DB M (c.write (p:Nat) (pageE leaf l)) sv t d/\PgF PB DB M M w w':=by
 have htx:=fun w' (g:Gr w w')=>text_n p leaf l s w' (hs.gr g) hok hb
 obtain⟨ao,ca,rfl⟩:=hs.form
 have hpz:=pageE_size hok hb
 have hw:=fun w' (g:Gr w w')=>pwrite_t (h.gr g) hp (pageE leaf l) hpz
 unfold nodeV at*
 have hg0:Gr w (w.alloc (.cells #[.int .i64 (p:Int),.bool leaf,.slice ao l.length ca] 200)):=(Gr.refl w).alloc _
 have c0:∀w',Gr (w.alloc (.cells #[.int .i64 (p:Int),.bool leaf,.slice ao l.length ca] 200)) w'->w'.cell? ⟨w.heap.size,0,none⟩=some (.int .i64 (p:Int))/\w'.cell? ⟨w.heap.size,1,none⟩=some (.bool leaf)/\w'.cell? ⟨w.heap.size,2,none⟩=some (.slice ao l.length ca):=fun w' g=>⟨g.keeps (by rw[World.cell?_alloc_new];rfl),g.keeps (by rw[World.cell?_alloc_new];rfl),g.keeps (by rw[World.cell?_alloc_new];rfl)⟩
 obtain⟨k0,k1,k2⟩:=c0 _ (Gr.refl _)
 have tp:=(ht.gr hg0).p
 have HW:=Lib.hid hw
 clear hw
 go_enter Tryz.func200,Tryz.ntmps200
 go_wp2_with fail
 go_region_with(first
  |( go_at_call 252;refine(htx _ ?_).mono ?_;(with_reducible exact hg0.drew);rintro e w1 ⟨rfl,hg1⟩;have hg2:=hg0.trans (gr_undrew hg1);obtain⟨k0,k1,k2⟩:=c0 _ (gr_undrew hg1);have tp:=(ht.gr hg2).p)
  |( go_at_call 251;refine(HW.out _ ?_).mono ?_;(with_reducible first|exact hg2|exact hg2.drew);rintro e w2 ⟨rfl,hp2,hf2⟩))
 all_goals
  go_wp2_with fail
  go_ret
  first
    |exact⟨rfl,hp2,(PgF.of_gr PB DB M hg2).trans hf2⟩
    |exact⟨rfl,hp2,(PgF.of_gr PB DB M hg2.drew).trans hf2⟩
end
def errV(n:Nat):Value:=if n=0 then .nilIface else .iface 24 (.int .i64 (n:Int))
theorem PgF.own{T:Nat->Prop}{PB DB M:Nat}{w w1 w2:World}(h:PgF PB DB M M w w1)(k:GrX T w1 w2)(ht:∀j,T j->w.heap.size<=j):PgF PB DB M M w w2:=
 ⟨.inl rfl,k.1.trans h.2.1,k.2.1.trans h.2.2.1,k.2.2.1.trans h.2.2.2.1,Nat.le_trans h.size k.2.2.2.1,fun j hj hs=>(k.block (Nat.lt_of_lt_of_le hj h.size) (fun e=>by have:=ht j e;omega)).trans (h.2.block hj hs)⟩
def setS(c:Ch)(i:Nat)(p more:Int):Ch×Nat:=if 0<=c.h.notes i+more/\c.h.notes i+more<65536 then(⟨c.h.setRoot i p (c.h.notes i+more),c.F⟩,0)else(c,2)
section
variable{w:World}{PB DB M:Nat}{c:Ch}{sv:Head}{t:Int}{d:Dk}
theorem PgT.keepX{S:Nat->Prop}{w':World}(h:PgT w PB DB M c sv t d)(g:GrX S w w')(h1:¬S PB)(h2:¬S DB)(h3:¬S M):PgT w' PB DB M c sv t d:=by
 obtain⟨n',hn,hp⟩:=h.s.pg
 exact⟨⟨⟨n',hn,hp.keepX g h1 h3⟩,h.s.dk.keepX g h2,h.s.ne1,h.s.ne2⟩,h.f⟩
theorem setRoot_t(h:PgT w PB DB M c sv t d){i:Nat}(hi:i<8){k m:Int}(hk:0<=k/\k<2000):Calls Tryz.prog 202 #[.pointer (some ⟨PB,0,none⟩),.int .i64 i,.int .i64 k,.int .i64 m] w fun e w'=>
  e=.returned (errV (if 0<=m/\m<65536 then 0 else 2))/\PgT w' PB DB M (if 0<=m/\m<65536 then⟨c.h.setRoot i k m,c.F⟩else c) sv t d/\PgF PB DB M M w w':=by
 by_cases hm:0<=m/\m<65536
 ·simp only[if_pos hm]
  have hf:(⟨c.h.setRoot i k m,c.F⟩:Ch).fine:=⟨fine_set h.f.head i hk hm,h.f.dirty⟩
  exact(setRoot_s h.s i k m hi hk hm).mono fun _ _ ⟨h1,h2,h3⟩=>⟨h1,⟨h2.small hf,hf⟩,h3⟩
 ·simp only[if_neg hm]
  obtain⟨n',_,hp⟩:=h.s.pg
  exact(setRoot_bad_pg PB DB M n' c.h sv c.F false t (i:Int) k m (by omega) w hp).mono fun _ _ ⟨h1,h2⟩=>⟨h1,h.gr h2,PgF.of_gr _ _ _ h2⟩
theorem setRoot_s2(h:PgT w PB DB M c sv t d){i:Nat}(hi:i<8){p more:Int}(hp:0<=p/\p<2000):Calls Tryz.prog 202 #[.pointer (some ⟨PB,0,none⟩),.int .i64 i,.int .i64 p,.int .i64 (c.h.notes i+more)] w fun e w'=>
  e=.returned (errV (setS c i p more).2)/\PgT w' PB DB M (setS c i p more).1 sv t d/\PgF PB DB M M w w':=by
 refine(setRoot_t h hi hp).mono ?_
 intro e w' hh
 unfold setS
 by_cases hm:0<=c.h.notes i+more/\c.h.notes i+more<65536
 ·simp only[if_pos hm]at hh⊢
  exact hh
 ·simp only[if_neg hm]at hh⊢
  exact hh
theorem set_n(h:PgT w PB DB M c sv t d){TP root:Nat}(ht:TreeAt w TP PB root)(hTn:TP≠PB/\TP≠DB/\TP≠M)(hr:root<8){p more:Int}(hp:0<=p/\p<2000)(hm:-1000000<=more/\more<=1000000):
  Calls Tryz.prog 145 #[.pointer (some ⟨TP,0,none⟩),.int .i64 p,.int .i64 more] w fun e w'=>e=.returned (errV (setS c root p more).2)/\PgT w' PB DB M (setS c root p more).1 sv t d/\PgF PB DB M M w w':=by
 have hs:=fun w' (g:Gr w w')=>sum_n (h.gr g) (ht.gr g) hr
 have hw:=fun w' (g:Gr w w')=>setRoot_s2 (h.gr g) (i:=root) hr (p:=p) (more:=more) hp
 have hnt:=h.f.head.note root hr
 have h0:=ht.p
 have h1:=ht.r
 have k1:∀w1,Gr w w1->w1.cell? ⟨TP,0,none⟩=some (.pointer (some ⟨PB,0,none⟩))/\w1.cell? ⟨TP,1,none⟩=some (.int .i64 (root:Int)):=fun w1 g=>⟨(ht.gr g).p,(ht.gr g).r⟩
 generalize errV (setS c root p more).2=E at*
 generalize(setS c root p more).1=C at*
 generalize c.h.notes root=nt at*
 have hkf:∀(w1 w2:World) {o:Nat} {v:Value},PgF PB DB M M w1 w2->w1.cell? ⟨TP,o,none⟩=some v->w2.cell? ⟨TP,o,none⟩=some v:=fun w1 w2 _ _ hf hc=>hf.keeps hTn.1 hTn.2.1 hTn.2.2 hc
 have KF:=Lib.hid hkf
 clear hkf
 have HW:=Lib.hid hw
 have HS:=Lib.hid hs
 have K1:=Lib.hid k1
 clear hw hs k1 h ht
 go_enter Tryz.func145,Tryz.ntmps145
 go_wp2_with fail
 have hwr:IntKind.i64.wrap (nt+more)=nt+more:=IntWalk.i64_in _ (by omega)
 have Y1:w.drew.cell? ⟨TP,0,none⟩=some (.pointer (some ⟨PB,0,none⟩)):=h0
 have Y2:w.drew.cell? ⟨TP,1,none⟩=some (.int .i64 (root:Int)):=h1
 have Gc:Gr w w.drew:=(Gr.refl w).drew
 go_region_held3(fun w'=>w'.cell? ⟨TP,0,none⟩=some (.pointer (some ⟨PB,0,none⟩))/\w'.cell? ⟨TP,1,none⟩=some (.int .i64 (root:Int))) (first|exact⟨Y1,Y2⟩|exact⟨h0,h1⟩|(refine⟨?_,?_⟩<;>assumption)) (first
  |(go_at_call 143;refine(HS.out _ Gc).mono ?_;rintro e w1 ⟨rfl,hg1⟩;have Gc:=Gc.trans hg1;obtain⟨Y1,Y2⟩:=K1.out _ Gc)
  |(go_at_call 202;refine(HW.out _ Gc).mono ?_;rintro e w2 ⟨rfl,hp2,hf2⟩;have Y1:=KF.out _ _ hf2 Y1;have Y2:=KF.out _ _ hf2 Y2))
 all_goals
  go_wp2_with fail
  go_ret
  exact⟨rfl,hp2,(PgF.of_gr PB DB M Gc).trans hf2⟩
end
