/-
  Part 10 of the proof.
-/
import Derived.Test.YtldmhjbdahjhdaaGreatDoorZc9
import Derived.Laws.EntriesVeiled
set_option maxRecDepth 100000
set_option maxHeartbeats 100000000
set_option linter.all false
namespace Go.Proofs.YtldmhjbdahjhdaaGreatDoor
section
open Go Go.RowKit
structure WkS(w:World)(FT FF FM FO FW TP:Nat)(from_:ByteArray):Prop where
 ft:w.cell? ⟨FT,0,none⟩=some (.pointer (some ⟨TP,0,none⟩))
 ff:w.cell? ⟨FF,0,none⟩=some (.string from_)
 fm:w.cell? ⟨FM,0,none⟩=some (.int .i64 (-1))
 fw:w.cell? ⟨FW,0,none⟩=some (.func (.func 168) #[] #[.pointer (some ⟨FT,0,none⟩),.pointer (some ⟨FF,0,none⟩),.pointer (some ⟨FM,0,none⟩),.pointer (some ⟨FO,0,none⟩),.pointer (some ⟨FW,0,none⟩)])
 ne:FO≠FT/\FO≠FF/\FO≠FM/\FO≠FW
theorem WkS.keepX{S:Nat->Prop}{w w':World}{FT FF FM FO FW TP:Nat}{s:ByteArray}(h:WkS w FT FF FM FO FW TP s)(g:GrX S w w')(h1:¬S FT)(h2:¬S FF)(h3:¬S FM)(h4:¬S FW):WkS w' FT FF FM FO FW TP s:=
 ⟨g.keeps h1 h.ft,g.keeps h2 h.ff,g.keeps h3 h.fm,g.keeps h4 h.fw,h.ne⟩
theorem WkS.gr{w w':World}{FT FF FM FO FW TP:Nat}{s:ByteArray}(h:WkS w FT FF FM FO FW TP s)(g:Gr w w'):WkS w' FT FF FM FO FW TP s:=⟨g.keeps h.ft,g.keeps h.ff,g.keeps h.fm,g.keeps h.fw,h.ne⟩
structure OutS(n:Nat)(w:World)(FO:Nat)(v:Value)(out:List GPair):Prop where
 c:w.cell? ⟨FO,0,none⟩=some v
 f:w.frozen? ⟨FO,0,none⟩=false
 o:OwnQ n w v out
theorem OutS.gr{n:Nat}{w w':World}{FO:Nat}{v:Value}{out:List GPair}(h:OutS n w FO v out)(g:Gr w w'):OutS n w' FO v out:=⟨g.keeps h.c,(g.frozen 0 (lt_of_cell h.c)).trans h.f,h.o.gr g⟩
def WkP(n:Nat)(w w':World)(FO:Nat)(v:Value)(out:List GPair):Prop:=∃v',OutS n w' FO v' out/\GrX (fun b=>b=FO\/v.ownBlock=some b) w w'/\OwnTo v v' w
theorem GrX.ownS{S T:Nat->Prop}{w w1 w2:World}(h:GrX S w w1)(k:GrX T w1 w2)(ht:∀j,T j->S j\/w.heap.size<=j):GrX S w w2:=
 ⟨k.1.trans h.1,k.2.1.trans h.2.1,k.2.2.1.trans h.2.2.1,Nat.le_trans h.2.2.2.1 k.2.2.2.1,fun j hj hs=>(k.block (Nat.lt_of_lt_of_le hj h.2.2.2.1) (fun e=>(ht j e).elim hs fun e=>by omega)).trans (h.block hj hs)⟩
def pairE(e:En):GPair:=(e.key,e.item)
section
variable{w:World}{PB DB M:Nat}{c:Ch}{sv:Head}{t:Int}{d:Dk}
theorem walk_leaf(h:PgT w PB DB M c sv t d){TP root:Nat}(ht:TreeAt w TP PB root){p:Nat}{l:List En}(hp:HasN c d.pg true p l)(hok:∀e∈l,e.ok true)(hb:bytesE true l<=1024){FT FF FM FO FW:Nat}{s:ByteArray}(hw:WkS w FT FF FM FO FW TP s)
  {n:Nat} {v:Value} {out:List GPair} (ho:OutS n w FO v out) (hn:FT<n/\FF<n/\FM<n/\FO<n/\FW<n) (hnw:n<=w.heap.size) (hlen:out.length+600<=100000000):
  Calls Tryz.prog 168 #[.int .i64 (p:Int),.pointer (some ⟨FT,0,none⟩),.pointer (some ⟨FF,0,none⟩),.pointer (some ⟨FM,0,none⟩),.pointer (some ⟨FO,0,none⟩),.pointer (some ⟨FW,0,none⟩)] w fun e w'=>e=.returned .nilIface/\WkP n w w' FO v (out++(l.drop (searchE (keysE l) s)).map pairE):=by
 have hrd:=read_n h.s ht hp hok hb
 obtain⟨K,hK⟩:∃K,searchE (keysE l) s=K:=⟨_,rfl⟩
 have hKl:K<=l.length:=by
  have:=searchE_le (keysE l) s
  have h2:(keysE l).length=l.length:=by unfold keysE;rw[List.length_map]
  omega
 have hl:l.length<=600:=by
  have:=sumE_len true l
  unfold bytesE at hb
  omega
 rw[hK]
 obtain⟨RR,hRR⟩:∃RR,out++(l.drop K).map pairE=RR:=⟨_,rfl⟩
 rw[hRR]
 have HRR:=Lib.hid hRR
 clear hRR
 have ft:=hw.ft
 have ff:=hw.ff
 have fm:=hw.fm
 have fo:=ho.c
 have HRD:=Lib.hid hrd
 have HW:=Lib.hid hw
 have HO:=Lib.hid ho
 clear hrd
 go_enter Tryz.func168,Tryz.ntmps168
 go_wp2_with fail
 refine HRD.out.mono ?_
 rintro e w1 ⟨s',rfl,ho1,hg1⟩
 obtain⟨ao,ca,rfl⟩:=ho1.form
 have hfn:=fun W (g:Gr w1 W)=>find_n p true l (.slice ao l.length ca) s W (ho1.isE.gr g) (by omega)
 simp only[if_true,hK]at hfn
 unfold nodeV at*
 have HFN:=Lib.hid hfn
 clear hfn
 replace ft:=hg1.keeps ft
 replace ff:=hg1.keeps ff
 replace fm:=hg1.keeps fm
 replace fo:=hg1.keeps fo
 have hga:Gr w1 (w1.alloc (.cells #[.int .i64 (p:Int),.bool true,.slice ao l.length ca] 200)):=(Gr.refl w1).alloc _
 replace ft:=hga.keeps ft
 replace ff:=hga.keeps ff
 replace fm:=hga.keeps fm
 replace fo:=hga.keeps fo
 have k0:(w1.alloc (.cells #[.int .i64 (p:Int),.bool true,.slice ao l.length ca] 200)).cell? ⟨w1.heap.size,0,none⟩=some (.int .i64 (p:Int)):=by rw[World.cell?_alloc_new];rfl
 have k1:(w1.alloc (.cells #[.int .i64 (p:Int),.bool true,.slice ao l.length ca] 200)).cell? ⟨w1.heap.size,1,none⟩=some (.bool true):=by rw[World.cell?_alloc_new];rfl
 have k2:(w1.alloc (.cells #[.int .i64 (p:Int),.bool true,.slice ao l.length ca] 200)).cell? ⟨w1.heap.size,2,none⟩=some (.slice ao l.length ca):=by rw[World.cell?_alloc_new];rfl
 go_wp2_with fail
 obtain⟨NB,hNB⟩:∃NB,w1.heap.size=NB:=⟨_,rfl⟩
 rw[hNB]at k0 k1 k2⊢
 refine(HFN.out _ hga).mono ?_
 rintro e w2 ⟨rfl,hg3⟩
 replace ft:=hg3.keeps ft
 replace ff:=hg3.keeps ff
 replace fm:=hg3.keeps fm
 replace fo:=hg3.keeps fo
 replace k0:=hg3.keeps k0
 replace k1:=hg3.keeps k1
 replace k2:=hg3.keeps k2
 have hKi:(K:Int)<=(l.length:Int):=by omega
 have hNw:w.heap.size<=NB:=by
  rw[<-hNB]
  exact hg1.size
 have hgw:=(hg1.trans hga).trans hg3
 have hL0:Hid (∃v',OutS n w2 FO v' (out++((l.drop K).take 0).map pairE)/\GrX (fun b=>b=FO\/v.ownBlock=some b) w2 w2/\OwnTo v v' w2):=Lib.hid ⟨v,by
  rw[List.take_zero,List.map_nil,List.append_nil]
  exact HO.out.gr hgw,GrX.refl _ _,fun b hb=>.inl hb⟩
 have HGW:=Lib.hid hgw
 have HK:=Lib.hid hK
 have ho2:=ho1.gr (hga.trans hg3)
 have HO2:=Lib.hid ho2
 have HNW:=Lib.hid hNw
 clear hgw hK ho2 hNw hNB
 rcases Nat.lt_or_ge K l.length with hKl2|hKl2
 ·rcases ho1.at' with⟨_,e2⟩|⟨B,cap,e3,h2,h3,h4,h5,h6⟩
  ·rw[e2]at hKl2
   exact absurd hKl2 (by simp)
  obtain⟨rfl,rfl⟩:ao=some ⟨B,0,none⟩/\ca=cap:=by
   injection e3 with e1 e2 e3
   exact⟨e1,e3⟩
  have hcK:¬ca=K:=by omega
  have H5:=Lib.hid (h5.gr (hga.trans hg3))
  have hBn:n<=B:=by omega
  have hvB:∀b,v.ownBlock=some b->b<w.heap.size:=fun b hb=>ownP_lt HO.out.o b hb
  have HVB:=Lib.hid hvB
  clear h5 h6 hvB e3
  go_wp2_with fail
  have hBw2:B<w2.heap.size:=by
   have:=hga.size
   have:=hg3.size
   omega
  have hm:((l.length-K:Nat):Int)=((l.length-K:Nat):Int):=rfl
  go_loopw [35] (fun iv w'=>∃(i:Nat),i<=l.length-K/\iv=.int .i64 i/\∃v',OutS n w' FO v' (out++((l.drop K).take i).map pairE)/\GrX (fun b=>b=FO\/v.ownBlock=some b) w2 w'/\OwnTo v v' w2) (fun iv _=>l.length-K-(RowKit.intOf iv).toNat)
  case atStart=>exact⟨0,Nat.zero_le _,rfl,hL0.out⟩
  case round=>
   obtain⟨i,hi,rfl,v',hO,hG,hT⟩:=hrel
   by_cases hlt:i<l.length-K
   ·have hlti:(i:Int)<((l.length-K:Nat):Int):=by omega
    have hS:∀j,(j<n/\j≠FO)\/w.heap.size<=j->¬(j=FO\/v.ownBlock=some j):=fun j hj e=>by
     rcases e with e|e
     ·omega
     ·have h8:=HVB.out j e
      have h9:=ownP_ge HO.out.o j e
      omega
    have hne:=HW.out.ne
    replace fm:=hG.keeps (hS FM (.inl ⟨hn.2.2.1,fun e=>hne.2.2.1 e.symm⟩)) fm
    replace k1:=hG.keeps (hS NB (.inr HNW.out)) k1
    obtain⟨b0,b1,b2⟩:=(H5.out.keepX hG (hS B (.inr h3))) (K+i) (by omega)
    rw[show 0+(K+i)*3=K*3+i*3 by omega]at b0 b1 b2
    replace fo:=hO.c
    have ff':=hO.f
    have HTE:Hid ((l.drop K).take (i+1)=(l.drop K).take i++[l[K+i]]):=Lib.hid (by
     rw[List.take_succ_eq_append_getElem (by rw[List.length_drop];exact hlt),List.getElem_drop])
    generalize l[K+i]=en at*
    obtain⟨ky,it,pgi⟩:=en
    have HOO:=Lib.hid hO
    have HG:=Lib.hid hG
    have HT:=Lib.hid hT
    have HS:=Lib.hid hS
    clear hO hG hT hS hne hm
    have hgb:Gr wr (wr.alloc (.cells #[.string ky,.string it,.int .i64 (pgi:Int)] 206)):=(Gr.refl wr).alloc _
    replace fm:=hgb.keeps fm
    replace k1:=hgb.keeps k1
    replace fo:=hgb.keeps fo
    replace ff':=(hgb.frozen 0 (lt_of_cell HOO.out.c)).trans ff'
    have e0:(wr.alloc (.cells #[.string ky,.string it,.int .i64 (pgi:Int)] 206)).cell? ⟨wr.heap.size,0,none⟩=some (.string ky):=by rw[World.cell?_alloc_new];rfl
    have e1:(wr.alloc (.cells #[.string ky,.string it,.int .i64 (pgi:Int)] 206)).cell? ⟨wr.heap.size,1,none⟩=some (.string it):=by rw[World.cell?_alloc_new];rfl
    have e2:(wr.alloc (.cells #[.string ky,.string it,.int .i64 (pgi:Int)] 206)).cell? ⟨wr.heap.size,2,none⟩=some (.int .i64 (pgi:Int)):=by rw[World.cell?_alloc_new];rfl
    obtain⟨P0,hP0⟩:∃P0,out++((l.drop K).take i).map pairE=P0:=⟨_,rfl⟩
    have hlo:P0.length<=100000000:=by
     rw[<-hP0,List.length_append,List.length_map,List.length_take,List.length_drop]
     omega
    rw[hP0]at HOO
    obtain⟨P1,hP1⟩:∃P1,P0++[(ky,it)]=P1:=⟨_,rfl⟩
    have HP0:=Lib.hid hP0
    have HP1:=Lib.hid hP1
    clear hP0 hP1
    have HO1:=Lib.hid ((HOO.out.gr hgb).o)
    have hnW:n<=(wr.alloc (.cells #[.string ky,.string it,.int .i64 (pgi:Int)] 206)).heap.size:=by
     have h7:=HGW.out.size
     have h8:=HG.out.2.2.2.1
     have h9:=hgb.size
     omega
    have hFOn:FO<n:=hn.2.2.2.1
    have hvF:¬v'.ownBlock=some FO:=fun e=>by
     have:=ownP_ge HOO.out.o FO e
     omega
    go_wp2_with(at_builtin;(refine append_pair (n:=n) (w:=wr.alloc (.cells #[.string ky,.string it,.int .i64 (pgi:Int)] 206)) rfl _ _ rfl v' P0 (ky,it) rfl HO1.out (wr.heap.size+1) (by simp) rfl hlo hnW ?_);intro v3 w3 ho3 hx3 hv3;rw[HP1.out]at ho3;(have fo3:=hx3.keeps hvF fo);(have ff3:w3.frozen? ⟨FO,0,none⟩=false:=(hx3.frozen 0 (lt_of_cell fo) hvF).trans ff');(obtain⟨a3,c3,rfl⟩:=ho3.form);(have HO3:=Lib.hid ho3);(have HX3:=Lib.hid hx3);(have HV3:=Lib.hid hv3);clear ho3 hx3 hv3)
    have hpe:pairE ⟨ky,it,pgi⟩=(ky,it):=rfl
    have hOE:out++((l.drop K).take (i+1)).map pairE=P1:=by
     rw[HTE.out,List.map_append,List.map_singleton,hpe,<-List.append_assoc,HP0.out]
     exact HP1.out
    have gS:GrX (fun b=>b=FO) w3 (w3.setCell ⟨FO,0,none⟩ (.slice a3 P1.length c3)):=GrX.setCell (S:=fun b=>b=FO) (p:=⟨FO,0,none⟩) w3 _ rfl
    have hOF:∀b,(Value.slice a3 P1.length c3).ownBlock=some b->¬b=FO:=fun b hb e=>by
     have:=ownP_ge HO3.out b hb
     omega
    have hG3:GrX (fun b=>b=FO\/v.ownBlock=some b) w2 (w3.setCell ⟨FO,0,none⟩ (.slice a3 P1.length c3)):=by
     refine GrX.ownS (GrX.ownS HG.out ((GrX.of_gr hgb).trans HX3.out) (fun j e=>?_)) gS (fun j e=>.inl (.inl e))
     rcases HT.out j e with e|e
     ·exact .inl (.inr e)
     ·exact .inr e
    refine⟨⟨i+1,by omega,by go_num,_,⟨World.cell?_setCell_same w3 ⟨FO,0,none⟩ _ fo3,by simpa using ff3,?_⟩,hG3,fun b hb=>?_⟩,by simp[RowKit.intOf];omega⟩
    ·rw[hOE]
     exact HO3.out.keepX gS hOF
    ·rcases HV3.out with e|⟨b',e,h9⟩
     ·rw[e]at hb
      exact HT.out b hb
     ·rw[e]at hb
      have h8:=HG.out.2.2.2.1
      have h7:=hgb.size
      have:=Option.some.inj hb
      exact .inr (by omega)
   ·have hlti:¬(i:Int)<((l.length-K:Nat):Int):=by omega
    have hte:(l.drop K).take i=l.drop K:=List.take_of_length_le (by rw[List.length_drop];omega)
    rw[hte]at hO
    have HR:Hid (WkP n w wr FO v RR):=Lib.hid ⟨v',by rw[<-HRR.out];exact hO,(GrX.of_gr HGW.out).trans hG,fun b hb=>by
     rcases hT b hb with e|e
     ·exact .inl e
     ·exact .inr (Nat.le_trans HGW.out.size e)⟩
    clear hO hG hT hte hm
    go_wp2_with fail
    go_ret
    exact⟨rfl,HR.out⟩
 ·have hKe:l.length=K:=by omega
  have hdr:l.drop K=[]:=List.drop_eq_nil_of_le (by omega)
  have HR:Hid (WkP n w w2 FO v RR):=Lib.hid (by
   rw[<-HRR.out,hdr,List.map_nil,List.append_nil]
   exact⟨v,HO.out.gr HGW.out,GrX.of_gr HGW.out,fun b hb=>.inl hb⟩)
  have hz:l.length-K=0:=by omega
  clear hKe hdr
  go_wp2_with fail
  all_goals
   go_loopw [35] (fun iv w'=>iv=.int .i64 0/\w'=w2) (fun _ _=>0)
   case atStart=>exact⟨rfl,rfl⟩
   case round=>
    obtain⟨rfl,rfl⟩:=hrel
    go_wp2_with fail
    go_ret
    exact⟨rfl,HR.out⟩
end
section
variable{w:World}{PB DB M:Nat}{c:Ch}{sv:Head}{t:Int}{d:Dk}
theorem walk_node(h:PgT w PB DB M c sv t d){TP root:Nat}(ht:TreeAt w TP PB root){p:Nat}{l:List En}(hp:HasN c d.pg false p l)(hok:∀e∈l,e.ok false)(hb:bytesE false l<=1024){FT FF FM FO FW:Nat}{s:ByteArray}(hw:WkS w FT FF FM FO FW TP s)
  {n:Nat} {v:Value} {out:List GPair} (ho:OutS n w FO v out) (hn:FT<n/\FF<n/\FM<n/\FO<n/\FW<n) (hnw:n<=w.heap.size) (hPn:PB<n/\DB<n/\M<n/\TP<n) (hFn:FO≠PB/\FO≠DB/\FO≠M/\FO≠TP) {outs:List (List GPair)} {K:Nat} (hK:downE (keysE l) s=K) (hKl2:K<l.length) (hol:outs.length=l.length)
  (hsub:∀j (hj:K+j<l.length) W v,PgT W PB DB M c sv t d->TreeAt W TP PB root->WkS W FT FF FM FO FW TP s->OutS n W FO v (out++((outs.drop K).take j).flatten)->n<=W.heap.size->
   Calls Tryz.prog 168 #[.int .i64 (l[K+j].page:Int),.pointer (some ⟨FT,0,none⟩),.pointer (some ⟨FF,0,none⟩),.pointer (some ⟨FM,0,none⟩),.pointer (some ⟨FO,0,none⟩),.pointer (some ⟨FW,0,none⟩)] W fun e w'=>e=.returned .nilIface/\WkP n W w' FO v (out++((outs.drop K).take (j+1)).flatten)):
  Calls Tryz.prog 168 #[.int .i64 (p:Int),.pointer (some ⟨FT,0,none⟩),.pointer (some ⟨FF,0,none⟩),.pointer (some ⟨FM,0,none⟩),.pointer (some ⟨FO,0,none⟩),.pointer (some ⟨FW,0,none⟩)] w fun e w'=>e=.returned .nilIface/\WkP n w w' FO v (out++(outs.drop K).flatten):=by
 have hrd:=read_n h.s ht hp hok hb
 have hl:l.length<=600:=by
  have:=sumE_len false l
  unfold bytesE at hb
  omega
 obtain⟨RR,hRR⟩:∃RR,out++(outs.drop K).flatten=RR:=⟨_,rfl⟩
 rw[hRR]
 have HRR:=Lib.hid hRR
 clear hRR
 have ft:=hw.ft
 have ff:=hw.ff
 have fm:=hw.fm
 have fo:=ho.c
 have HRD:=Lib.hid hrd
 have HSUB:=Lib.hid hsub
 clear hsub
 have HW:=Lib.hid hw
 have HO:=Lib.hid ho
 clear hrd
 go_enter Tryz.func168,Tryz.ntmps168
 go_wp2_with fail
 refine HRD.out.mono ?_
 rintro e w1 ⟨s',rfl,ho1,hg1⟩
 obtain⟨ao,ca,rfl⟩:=ho1.form
 have hfn:=fun W (g:Gr w1 W)=>find_n p false l (.slice ao l.length ca) s W (ho1.isE.gr g) (by omega)
 simp only[Bool.false_eq_true,if_false,hK]at hfn
 unfold nodeV at*
 have HFN:=Lib.hid hfn
 clear hfn
 replace ft:=hg1.keeps ft
 replace ff:=hg1.keeps ff
 replace fm:=hg1.keeps fm
 replace fo:=hg1.keeps fo
 have hga:Gr w1 (w1.alloc (.cells #[.int .i64 (p:Int),.bool false,.slice ao l.length ca] 200)):=(Gr.refl w1).alloc _
 replace ft:=hga.keeps ft
 replace ff:=hga.keeps ff
 replace fm:=hga.keeps fm
 replace fo:=hga.keeps fo
 have k0:(w1.alloc (.cells #[.int .i64 (p:Int),.bool false,.slice ao l.length ca] 200)).cell? ⟨w1.heap.size,0,none⟩=some (.int .i64 (p:Int)):=by rw[World.cell?_alloc_new];rfl
 have k1:(w1.alloc (.cells #[.int .i64 (p:Int),.bool false,.slice ao l.length ca] 200)).cell? ⟨w1.heap.size,1,none⟩=some (.bool false):=by rw[World.cell?_alloc_new];rfl
 have k2:(w1.alloc (.cells #[.int .i64 (p:Int),.bool false,.slice ao l.length ca] 200)).cell? ⟨w1.heap.size,2,none⟩=some (.slice ao l.length ca):=by rw[World.cell?_alloc_new];rfl
 go_wp2_with fail
 obtain⟨NB,hNB⟩:∃NB,w1.heap.size=NB:=⟨_,rfl⟩
 rw[hNB]at k0 k1 k2⊢
 refine(HFN.out _ hga).mono ?_
 rintro e w2 ⟨rfl,hg3⟩
 replace ft:=hg3.keeps ft
 replace ff:=hg3.keeps ff
 replace fm:=hg3.keeps fm
 replace fo:=hg3.keeps fo
 replace k0:=hg3.keeps k0
 replace k1:=hg3.keeps k1
 replace k2:=hg3.keeps k2
 have hKi:(K:Int)<=(l.length:Int):=by omega
 have hNw:w.heap.size<=NB:=by
  rw[<-hNB]
  exact hg1.size
 have hgw:=(hg1.trans hga).trans hg3
 have hL0:Hid (∃v',OutS n w2 FO v' (out++((outs.drop K).take 0).flatten)/\GrX (fun b=>b=FO\/v.ownBlock=some b) w2 w2/\OwnTo v v' w2):=Lib.hid ⟨v,by
  rw[List.take_zero,List.flatten_nil,List.append_nil]
  exact HO.out.gr hgw,GrX.refl _ _,fun b hb=>.inl hb⟩
 have HGW:=Lib.hid hgw
 have hgw0:=hgw
 have ho2:=ho1.gr (hga.trans hg3)
 have HO2:=Lib.hid ho2
 have HNW:=Lib.hid hNw
 clear hgw ho2 hNw hNB
 have HP2:=Lib.hid (h.gr hgw0)
 have HT2:=Lib.hid (ht.gr hgw0)
 have HW2:=Lib.hid (hw.gr hgw0)
 clear hgw0
 rcases ho1.at' with⟨_,e2⟩|⟨B,cap,e3,h2,h3,h4,h5,h6⟩
 ·rw[e2]at hKl2
  exact absurd hKl2 (by simp)
 obtain⟨rfl,rfl⟩:ao=some ⟨B,0,none⟩/\ca=cap:=by
  injection e3 with e1 e2 e3
  exact⟨e1,e3⟩
 have hcK:¬ca=K:=by omega
 have H5:=Lib.hid (h5.gr (hga.trans hg3))
 have hBn:n<=B:=by omega
 have hvB:∀b,v.ownBlock=some b->b<w.heap.size:=fun b hb=>ownP_lt HO.out.o b hb
 have HVB:=Lib.hid hvB
 clear h5 h6 hvB e3
 go_wp2_with fail
 have hBw2:B<w2.heap.size:=by
  have:=hga.size
  have:=hg3.size
  omega
 go_loopw [35] (fun iv w'=>∃(i:Nat),i<=l.length-K/\iv=.int .i64 i/\∃v',OutS n w' FO v' (out++((outs.drop K).take i).flatten)/\GrX (fun b=>b=FO\/v.ownBlock=some b) w2 w'/\OwnTo v v' w2) (fun iv _=>l.length-K-(RowKit.intOf iv).toNat)
 case atStart=>exact⟨0,Nat.zero_le _,rfl,hL0.out⟩
 case round=>
  obtain⟨i,hi,rfl,v',hO,hG,hT⟩:=hrel
  by_cases hlt:i<l.length-K
  ·have hlti:(i:Int)<((l.length-K:Nat):Int):=by omega
   have hS:∀j,(j<n/\j≠FO)\/w.heap.size<=j->¬(j=FO\/v.ownBlock=some j):=fun j hj e=>by
    rcases e with e|e
    ·omega
    ·have h8:=HVB.out j e
     have h9:=ownP_ge HO.out.o j e
     omega
   have hne:=HW.out.ne
   replace fm:=hG.keeps (hS FM (.inl ⟨hn.2.2.1,fun e=>hne.2.2.1 e.symm⟩)) fm
   have fw:=hG.keeps (hS FW (.inl ⟨hn.2.2.2.2,fun e=>hne.2.2.2 e.symm⟩)) HW2.out.fw
   replace k1:=hG.keeps (hS NB (.inr HNW.out)) k1
   have hKi2:K+i<l.length:=by omega
   obtain⟨b0,b1,b2⟩:=(H5.out.keepX hG (hS B (.inr h3))) (K+i) hKi2
   rw[show 0+(K+i)*3=K*3+i*3 by omega]at b0 b1 b2
   have hpr:=HP2.out.keepX hG (hS PB (.inl ⟨hPn.1,fun e=>hFn.1 e.symm⟩)) (hS DB (.inl ⟨hPn.2.1,fun e=>hFn.2.1 e.symm⟩)) (hS M (.inl ⟨hPn.2.2.1,fun e=>hFn.2.2.1 e.symm⟩))
   have htr:=HT2.out.keepX hG (hS TP (.inl ⟨hPn.2.2.2,fun e=>hFn.2.2.2 e.symm⟩))
   have hwr:=HW2.out.keepX hG (hS FT (.inl ⟨hn.1,fun e=>hne.1 e.symm⟩)) (hS FF (.inl ⟨hn.2.1,fun e=>hne.2.1 e.symm⟩)) (hS FM (.inl ⟨hn.2.2.1,fun e=>hne.2.2.1 e.symm⟩)) (hS FW (.inl ⟨hn.2.2.2.2,fun e=>hne.2.2.2 e.symm⟩))
   have hnr:n<=wr.heap.size:=by
    have h7:=HGW.out.size
    have h8:=hG.2.2.2.1
    omega
   have hsb:=fun W (g:Gr wr W)=>HSUB.out i hKi2 W v' (hpr.gr g) (htr.gr g) (hwr.gr g) (hO.gr g) (Nat.le_trans hnr g.size)
   generalize l[K+i]=en at*
   obtain⟨ky,it,pgi⟩:=en
   have HSB:=Lib.hid hsb
   have HG:=Lib.hid hG
   have HT:=Lib.hid hT
   clear hO hG hT hS hne hpr htr hwr hsb
   have hgb:Gr wr (wr.alloc (.cells #[.string ky,.string it,.int .i64 (pgi:Int)] 206)):=(Gr.refl wr).alloc _
   replace fm:=hgb.keeps fm
   replace fw:=hgb.keeps fw
   replace k1:=hgb.keeps k1
   have e0:(wr.alloc (.cells #[.string ky,.string it,.int .i64 (pgi:Int)] 206)).cell? ⟨wr.heap.size,0,none⟩=some (.string ky):=by rw[World.cell?_alloc_new];rfl
   have e1:(wr.alloc (.cells #[.string ky,.string it,.int .i64 (pgi:Int)] 206)).cell? ⟨wr.heap.size,1,none⟩=some (.string it):=by rw[World.cell?_alloc_new];rfl
   have e2:(wr.alloc (.cells #[.string ky,.string it,.int .i64 (pgi:Int)] 206)).cell? ⟨wr.heap.size,2,none⟩=some (.int .i64 (pgi:Int)):=by rw[World.cell?_alloc_new];rfl
   go_wp2_with fail
   refine(HSB.out _ hgb).mono ?_
   rintro e w3 ⟨rfl,v3,ho3,hx3,ht3⟩
   have HFIN:Hid (OutS n w3 FO v3 (out++((outs.drop K).take (i+1)).flatten)/\GrX (fun b=>b=FO\/v.ownBlock=some b) w2 w3/\OwnTo v v3 w2):=Lib.hid ⟨ho3,GrX.ownS (GrX.ownS HG.out (GrX.of_gr (S:=fun _=>False) hgb) (fun j e=>e.elim)) hx3 (fun j e=>by
    rcases e with e|e
    ·exact .inl (.inl e)
    ·rcases HT.out j e with e|e
     ·exact .inl (.inr e)
     ·exact .inr e),fun b hb=>by
    rcases ht3 b hb with e|e
    ·exact HT.out b e
    ·have h8:=HG.out.2.2.2.1
     have h7:=hgb.size
     exact .inr (by omega)⟩
   clear ho3 hx3 ht3
   go_wp2_with fail
   exact⟨⟨i+1,by omega,by go_num,_,HFIN.out⟩,by simp[RowKit.intOf];omega⟩
  ·have hlti:¬(i:Int)<((l.length-K:Nat):Int):=by omega
   have hte:(outs.drop K).take i=outs.drop K:=List.take_of_length_le (by rw[List.length_drop];omega)
   rw[hte]at hO
   have HR:Hid (WkP n w wr FO v RR):=Lib.hid ⟨v',by rw[<-HRR.out];exact hO,(GrX.of_gr HGW.out).trans hG,fun b hb=>by
    rcases hT b hb with e|e
    ·exact .inl e
    ·exact .inr (Nat.le_trans HGW.out.size e)⟩
   clear hO hG hT hte
   go_wp2_with fail
   go_ret
   exact⟨rfl,HR.out⟩
end
theorem nodup_lt:∀(N:Nat) (l:List Nat),l.Nodup->(∀k∈l,k<N)->l.length<=N
 |0,l,_,h=>by
  cases l with
  |nil=>exact Nat.le_refl _
  |cons a r=>exact absurd (h a List.mem_cons_self) (Nat.not_lt_zero _)
 |N+1,l,hn,h=>by
  by_cases hm:N∈l
  ·have h1:=nodup_lt N (l.erase N) (hn.erase N) fun k hk=>by
    have h2:=(hn.mem_erase_iff).1 hk
    have:=h k h2.2
    have:=h2.1
    omega
   rw[List.length_erase_of_mem hm]at h1
   omega
  ·have h1:=nodup_lt N l hn fun k hk=>by
    have h2:=h k hk
    have:k≠N:=fun e=>hm (e▸hk)
    omega
   omega
theorem walkT_len(s:ByteArray):∀{d:Nat} {x:T d},x.okT->(walkT s x).length<=600*x.pages.length
 |0,x,h=>by
  obtain⟨p,l⟩:Nat×List (ByteArray×ByteArray):=x
  have h1:bytesE true (l.map enL)<=1024:=h.2.1
  have h2:=sumE_len true (l.map enL)
  rw[List.length_map]at h2
  unfold bytesE at h1
  show(l.drop _).length<=600*([p]:List Nat).length
  rw[List.length_drop,List.length_singleton]
  omega
 |d+1,x,h=>by
  obtain⟨p,l⟩:Nat×List (ByteArray×T d):=x
  have ho:∀y∈l,y.2.okT:=h.2
  have step:∀m:List (ByteArray×T d),(∀y∈m,y.2.okT)->(m.flatMap fun y=>walkT s y.2).length<=600*(m.flatMap fun y=>y.2.pages).length:=by
   intro m
   induction m with
   |nil=>intro _;simp
   |cons y m ih=>
    intro hm
    rw[List.flatMap_cons,List.flatMap_cons,List.length_append,List.length_append]
    have h1:=walkT_len s (hm y List.mem_cons_self)
    have h2:=ih fun z hz=>hm z (List.mem_cons_of_mem _ hz)
    omega
  show((l.drop (downE (l.map Prod.fst) s)).flatMap fun y=>walkT s y.2).length<=600*(p::l.flatMap fun y=>y.2.pages).length
  have h1:=step (l.drop (downE (l.map Prod.fst) s)) fun y hy=>ho y (List.mem_of_mem_drop hy)
  have h2:(l.flatMap fun y=>y.2.pages).length=((l.take (downE (l.map Prod.fst) s)).flatMap fun y=>y.2.pages).length+((l.drop (downE (l.map Prod.fst) s)).flatMap fun y=>y.2.pages).length:=by
   rw[<-List.length_append,<-List.flatMap_append,List.take_append_drop]
  rw[List.length_cons,h2]
  omega
theorem flat_walk_len(s:ByteArray){d:Nat}:∀m:List (ByteArray×T d),(∀y∈m,y.2.okT)->(m.flatMap fun y=>walkT s y.2).length<=600*(m.flatMap fun y=>y.2.pages).length
 |[],_=>by simp
 |y::m,hm=>by
  rw[List.flatMap_cons,List.flatMap_cons,List.length_append,List.length_append]
  have h1:=walkT_len s (hm y List.mem_cons_self)
  have h2:=flat_walk_len s m fun z hz=>hm z (List.mem_cons_of_mem _ hz)
  omega
section
variable{PB DB M:Nat}{c:Ch}{sv:Head}{t:Int}{dk:Dk}
theorem walk_t{TP root FT FF FM FO FW n:Nat}{s:ByteArray}(hn:FT<n/\FF<n/\FM<n/\FO<n/\FW<n)(hPn:PB<n/\DB<n/\M<n/\TP<n)(hFn:FO≠PB/\FO≠DB/\FO≠M/\FO≠TP):∀{m:Nat} {x:T m} {w:World} {v:Value} {out:List GPair},PgT w PB DB M c sv t dk->TreeAt w TP PB root->WkS w FT FF FM FO FW TP s->OutS n w FO v out->n<=w.heap.size->x.lays c dk.pg->x.okT->out.length+600*x.pages.length<=100000000->
  Calls Tryz.prog 168 #[.int .i64 (x.pg:Int),.pointer (some ⟨FT,0,none⟩),.pointer (some ⟨FF,0,none⟩),.pointer (some ⟨FM,0,none⟩),.pointer (some ⟨FO,0,none⟩),.pointer (some ⟨FW,0,none⟩)] w fun e w'=>e=.returned .nilIface/\WkP n w w' FO v (out++walkT s x)
 |0,x,w,v,out,h,ht,hw,ho,hnw,hl,hok,hb=>by
  obtain⟨p,l⟩:Nat×List (ByteArray×ByteArray):=x
  have hb2:out.length+600*([p]:List Nat).length<=100000000:=hb
  rw[List.length_singleton]at hb2
  have hp:=walk_leaf h ht (p:=p) (l:=l.map enL) hl hok.2.2 hok.2.1 hw ho hn hnw (by omega)
  rw[keysE_L]at hp
  have e:((l.map enL).drop (searchE (l.map Prod.fst) s)).map pairE=walkT s (d:=0) (p,l):=by
   show _=l.drop (searchE (l.map Prod.fst) s)
   rw[<-List.map_drop,List.map_map]
   have:(pairE∘enL)=id:=by funext y;rfl
   rw[this,List.map_id]
  rw[e]at hp
  exact hp
 |m+1,x,w,v,out,h,ht,hw,ho,hnw,hl,hok,hb=>by
  obtain⟨p,l⟩:Nat×List (ByteArray×T m):=x
  have hne:l.map Prod.fst≠[]:=fun e=>hok.1.1 (by
   have:l=[]:=List.map_eq_nil_iff.1 e
   show l.map enN=[]
   rw[this]
   rfl)
  have hdl:=downE_lt hne s
  rw[List.length_map]at hdl
  obtain⟨K,hK⟩:∃K,downE (l.map Prod.fst) s=K:=⟨_,rfl⟩
  rw[hK]at hdl
  have hb2:out.length+600*(p::l.flatMap fun y=>y.2.pages).length<=100000000:=hb
  have hlays:∀y∈l,y.2.lays c dk.pg:=hl.2
  have hoks:∀y∈l,y.2.okT:=hok.2
  have hfl:∀j,(((l.map fun y=>walkT s y.2).drop K).take j).flatten=((l.drop K).take j).flatMap fun y=>walkT s y.2:=fun j=>by
   rw[<-List.map_drop,<-List.map_take,List.flatMap_def]
  have hfl2:((l.map fun y=>walkT s y.2).drop K).flatten=(l.drop K).flatMap fun y=>walkT s y.2:=by
   rw[<-List.map_drop,List.flatMap_def]
  have hp:=walk_node h ht (p:=p) (l:=l.map enN) hl.1 hok.1.2.2 hok.1.2.1 hw ho hn hnw hPn hFn (outs:=l.map fun y=>walkT s y.2) (K:=K) (by rw[keysE_N];exact hK) (by rw[List.length_map];exact hdl) (by rw[List.length_map,List.length_map]) (fun j hj W v1 q1 q2 q3 q4 q5=>by
   have hj2:K+j<l.length:=by rw[List.length_map]at hj;exact hj
   have hm:l[K+j]∈l:=List.getElem_mem hj2
   have hpe:(l.map enN)[K+j]=enN l[K+j]:=List.getElem_map _
   have hpp:(((l.map enN)[K+j]).page:Int)=(l[K+j].2.pg:Int):=by rw[hpe];rfl
   rw[hpp]
   have hsplit:l=l.take K++((l.drop K).take j++(l[K+j]::l.drop (K+j+1))):=by
    rw[<-List.drop_eq_getElem_cons hj2,<-List.drop_drop,List.take_append_drop,List.take_append_drop]
   have hln:(l.flatMap fun y=>y.2.pages).length=((l.take K).flatMap fun y=>y.2.pages).length+((((l.drop K).take j).flatMap fun y=>y.2.pages).length+(l[K+j].2.pages.length+((l.drop (K+j+1)).flatMap fun y=>y.2.pages).length)):=by
    have h1:=congrArg (fun z:List (ByteArray×T m)=>(z.flatMap fun y=>y.2.pages).length) hsplit
    simp only[List.flatMap_append,List.flatMap_cons,List.length_append]at h1
    exact h1
   have hle:=flat_walk_len s ((l.drop K).take j) fun y hy=>hoks y (List.mem_of_mem_drop (List.mem_of_mem_take hy))
   have ih:=walk_t hn hPn hFn (x:=l[K+j].2) q1 q2 q3 q4 q5 (hlays _ hm) (hoks _ hm) (by
    rw[List.length_append,hfl]
    rw[List.length_cons]at hb2
    omega)
   have e2:out++(((l.map fun y=>walkT s y.2).drop K).take (j+1)).flatten=out++(((l.map fun y=>walkT s y.2).drop K).take j).flatten++walkT s l[K+j].2:=by
    rw[hfl,hfl,List.take_succ_eq_append_getElem (by rw[List.length_drop];omega),List.flatMap_append,List.append_assoc,List.getElem_drop]
    simp
   rw[e2]
   exact ih)
  rw[hfl2]at hp
  have e3:walkT s (d:=m+1) (p,l)=(l.drop K).flatMap fun y=>walkT s y.2:=by rw[<-hK];rfl
  rw[e3]
  exact hp
end
theorem box_newT(w:World)(v:Value)(t:TypeId):(w.alloc (.cells #[v] t)).cell? ⟨w.heap.size,0,none⟩=some v:=by rw[World.cell?_alloc_new];rfl
theorem boxes_at(w:World)(a b e:Value)(ta tb te:TypeId):
  (((w.alloc (.cells #[a] ta)).alloc (.cells #[b] tb)).alloc (.cells #[e] te)).cell? ⟨w.heap.size,0,none⟩=some a/\(((w.alloc (.cells #[a] ta)).alloc (.cells #[b] tb)).alloc (.cells #[e] te)).cell? ⟨w.heap.size+1,0,none⟩=some b/\(((w.alloc (.cells #[a] ta)).alloc (.cells #[b] tb)).alloc (.cells #[e] te)).cell? ⟨w.heap.size+1+1,0,none⟩=some e/\Gr w (((w.alloc (.cells #[a] ta)).alloc (.cells #[b] tb)).alloc (.cells #[e] te))/\(((w.alloc (.cells #[a] ta)).alloc (.cells #[b] tb)).alloc (.cells #[e] te)).heap.size=w.heap.size+1+1+1:=by
 have g1:Gr w (w.alloc (.cells #[a] ta)):=(Gr.refl w).alloc _
 have g2:Gr (w.alloc (.cells #[a] ta)) ((w.alloc (.cells #[a] ta)).alloc (.cells #[b] tb)):=(Gr.refl _).alloc _
 have g3:Gr ((w.alloc (.cells #[a] ta)).alloc (.cells #[b] tb)) (((w.alloc (.cells #[a] ta)).alloc (.cells #[b] tb)).alloc (.cells #[e] te)):=(Gr.refl _).alloc _
 have s1:(w.alloc (.cells #[a] ta)).heap.size=w.heap.size+1:=by simp
 have s2:((w.alloc (.cells #[a] ta)).alloc (.cells #[b] tb)).heap.size=w.heap.size+1+1:=by simp
 have c1:=box_newT w a ta
 have c2:=box_newT (w.alloc (.cells #[a] ta)) b tb
 have c3:=box_newT ((w.alloc (.cells #[a] ta)).alloc (.cells #[b] tb)) e te
 rw[s1]at c2
 rw[s2]at c3
 exact⟨g3.keeps (g2.keeps c1),g3.keeps c2,c3,(g1.trans g2).trans g3,by simp⟩
theorem boxes2_at(w:World)(a v:Value)(ta tb:TypeId):Gr w ((w.alloc (.cells #[a] ta)).alloc (.cells #[v] tb))/\((w.alloc (.cells #[a] ta)).alloc (.cells #[v] tb)).cell? ⟨w.heap.size,0,none⟩=some a/\((w.alloc (.cells #[a] ta)).alloc (.cells #[v] tb)).cell? ⟨w.heap.size+1,0,none⟩=some v/\((w.alloc (.cells #[a] ta)).alloc (.cells #[v] tb)).frozen? ⟨w.heap.size,0,none⟩=false/\((w.alloc (.cells #[a] ta)).alloc (.cells #[v] tb)).heap.size=w.heap.size+1+1:=by
 have g1:Gr w (w.alloc (.cells #[a] ta)):=(Gr.refl w).alloc _
 have g2:Gr (w.alloc (.cells #[a] ta)) ((w.alloc (.cells #[a] ta)).alloc (.cells #[v] tb)):=(Gr.refl _).alloc _
 have s1:(w.alloc (.cells #[a] ta)).heap.size=w.heap.size+1:=by simp
 have c1:=box_newT w a ta
 have f1:(w.alloc (.cells #[a] ta)).frozen? ⟨w.heap.size,0,none⟩=false:=by simp
 have c2:=box_newT (w.alloc (.cells #[a] ta)) v tb
 rw[s1]at c2
 exact⟨g1.trans g2,g2.keeps c1,c2,(g2.frozen 0 (by simp)).trans f1,by simp⟩
theorem OwnQ.back{n n':Nat}{w:World}{v:Value}{l:List GPair}(h:OwnQ n w v l)(g:n'<=n):OwnQ n' w v l:=by
 refine⟨h.row.1,?_⟩
 rcases h.row.2 with h1|⟨g',cap,cur,h1,hb,hh⟩
 ·exact .inl h1
 ·exact .inr ⟨g',cap,cur,h1,Nat.le_trans g hb,hh⟩
theorem down_t{w:World}{PB DB M:Nat}{c:Ch}{sv:Head}{t:Int}{d:Dk}(h:PgT w PB DB M c sv t d):Calls Tryz.prog 142 #[.pointer (some ⟨PB,0,none⟩)] w (Ret w (.bool false)):=by
 obtain⟨n',_,hp⟩:=h.s.pg
 have h4:=hp.down
 go_enter Tryz.func142,Tryz.ntmps142
 go_wp2_with fail
 go_ret
 exact Ret.mk rfl (Gr.refl _)
section
variable{w:World}{PB DB M:Nat}{c:Ch}{sv:Head}{t:Int}{d:Dk}
theorem walk_n(h:PgT w PB DB M c sv t d){TP root:Nat}(ht:TreeAt w TP PB root)(hr:root<8)(s:ByteArray){tr:Tr}(hl:tr.lays c d.pg root):
  Calls Tryz.prog 116 #[.pointer (some ⟨TP,0,none⟩),.string s,.int .i64 (-1)] w fun e w'=>∃v,e=.returned (.tuple #[v,.nilIface])/\OwnQ w.heap.size w' v (walkR tr s)/\Gr w w':=by
 obtain⟨RR,hRR⟩:∃RR,walkR tr s=RR:=⟨_,rfl⟩
 rw[hRR]
 have HRR:=Lib.hid hRR
 clear hRR
 have hlt:=h.lt
 have htl:=lt_of_cell ht.p
 obtain⟨b0,b1,b2,hg0,hz0⟩:=boxes_at w (.pointer (some ⟨TP,0,none⟩)) (.string s) (.int .i64 (-1)) 90 9 3
 have tp:=ht.gr hg0
 have hdn:=down_t (h.gr hg0)
 have HDN:=Lib.hid hdn
 have HG0:=Lib.hid hg0
 have HZ0:=Lib.hid hz0
 have htp:=tp.p
 clear hdn hz0 hg0 tp
 go_enter Tryz.func116,Tryz.ntmps116
 go_wp2_with fail
 obtain⟨W3,hW3⟩:∃W3,((w.alloc (.cells #[.pointer (some ⟨TP,0,none⟩)] 90)).alloc (.cells #[.string s] 9)).alloc (.cells #[.int .i64 (-1)] 3)=W3:=⟨_,rfl⟩
 rw[hW3]at b0 b1 b2 HDN HG0 HZ0 htp⊢
 clear hW3
 obtain⟨FT,hFT⟩:∃FT,w.heap.size=FT:=⟨_,rfl⟩
 rw[hFT]at b0 b1 b2 HZ0⊢
 have HFT:=Lib.hid hFT
 clear hFT
 refine HDN.out.mono ?_
 rintro e w1 ⟨rfl,hg1⟩
 replace b0:=hg1.keeps b0
 replace b1:=hg1.keeps b1
 replace b2:=hg1.keeps b2
 replace htp:=hg1.keeps htp
 obtain⟨gb,z0,z1,z2,z3⟩:=boxes2_at w1 (.slice none 0 0) (.func (.func 168) #[] #[.pointer (some ⟨FT,0,none⟩),.pointer (some ⟨FT+1,0,none⟩),.pointer (some ⟨FT+1+1,0,none⟩),.pointer (some ⟨w1.heap.size,0,none⟩),.pointer (some ⟨w1.heap.size+1,0,none⟩)]) 134 106
 have HGB:=Lib.hid gb
 have HZ3:=Lib.hid z3
 have HG1:=Lib.hid hg1
 have hst:=start_n (h.gr ((HG0.out.trans hg1).trans gb)) (ht.gr ((HG0.out.trans hg1).trans gb)) hr
 have HST:=Lib.hid hst
 replace b0:=gb.keeps b0
 replace b1:=gb.keeps b1
 replace b2:=gb.keeps b2
 have HZ:=Lib.hid z2
 clear gb z3 hg1 hst z2
 go_wp2_with fail
 obtain⟨FO,hFO⟩:∃FO,w1.heap.size=FO:=⟨_,rfl⟩
 rw[hFO]at z0 z1 HZ HGB HZ3 HST b0 b1 b2⊢
 obtain⟨W5,hW5⟩:∃W5,(w1.alloc (.cells #[.slice none 0 0] 134)).alloc (.cells #[.func (.func 168) #[] #[.pointer (some ⟨FT,0,none⟩),.pointer (some ⟨FT+1,0,none⟩),.pointer (some ⟨FT+1+1,0,none⟩),.pointer (some ⟨FO,0,none⟩),.pointer (some ⟨FO+1,0,none⟩)]] 106)=W5:=⟨_,rfl⟩
 rw[hW5]at z0 z1 HZ HGB HZ3 HST b0 b1 b2⊢
 clear hW5
 have hFO1:FT+1+1<FO:=by
  have h7:=HZ0.out
  have h8:=HG1.out.size
  omega
 have HFO:=Lib.hid hFO
 clear hFO
 have hwk:WkS W5 FT (FT+1) (FT+1+1) FO (FO+1) TP s:=⟨b0,b1,b2,z1,by omega⟩
 have hos:OutS (FO+1+1) W5 FO (.slice none 0 0) []:=⟨z0,HZ.out,OwnQ.nil _ _⟩
 refine HST.out.mono ?_
 rintro e w6 ⟨rfl,hg6⟩
 have hG5:Gr w W5:=(HG0.out.trans HG1.out).trans HGB.out
 have hG6:=hG5.trans hg6
 have hw6:=hwk.gr hg6
 have ho6:=hos.gr hg6
 have z0:=hg6.keeps z0
 have z1:=hg6.keeps z1
 have h3:=HZ3.out
 have h7:=HFT.out
 clear hwk hos
 cases tr with
 |none=>
  have hr0:c.h.roots root=0:=hl
  have HR:Hid (OwnQ w.heap.size w6 (.slice none 0 0) RR/\Gr w w6):=Lib.hid ⟨by rw[<-HRR.out];exact OwnQ.nil _ _,hG6⟩
  clear h3 h7 hG5 hG6 hg6 hw6 ho6
  go_wp2_with fail
  go_ret2
  exact⟨_,rfl,HR.out⟩
 |some x=>
  obtain⟨q1,q2,q3,q4⟩:=hl
  have hus:=T.lays_used q2
  have hpl:=nodup_lt 2000 x.2.pages q4 (fun k hk=>(hus k hk).2.1)
  have hp1:=(hus _ (T.pg_mem x.2)).1
  have hpp:(0:Int)<c.h.roots root:=by omega
  have hwt:=walk_t (n:=FO+1+1) (by omega) (by omega) (by omega) (h.gr hG6) (ht.gr hG6) hw6 ho6 (by have:=hg6.size;omega) q2 q3 (by simp;omega)
  have HWT:=Lib.hid hwt
  have HG6:=Lib.hid hG6
  have hwFO:w.heap.size<=FO:=by omega
  have hwFO2:w.heap.size<=FO+1+1:=by omega
  clear h3 h7 hG5 hG6 hg6 hw6 ho6 hwt hus q2 q3 q4
  go_wp2_with fail
  refine HWT.out.mono ?_
  rintro e w7 ⟨rfl,v7,ho7,hx7,ht7⟩
  have hg7:Gr w w7:=hx7.gr HG6.out (fun j e=>by
   rcases e with e|e
   ·omega
   ·cases e)
  have z7:=ho7.c
  have HR:Hid (OwnQ w.heap.size w7 v7 RR/\Gr w w7):=Lib.hid ⟨by rw[<-HRR.out];exact ho7.o.back hwFO2,hg7⟩
  obtain⟨a7,c7,e7⟩:=ho7.o.form
  clear ho7 hx7 ht7 hg7
  subst e7
  go_wp2_with fail
  go_ret2
  exact⟨_,rfl,HR.out⟩
end
section
variable{pg:Nat->ByteArray}{d:Nat}
structure Kids(pg:Nat->ByteArray)(c:Ch)(p:Nat)(l:List (ByteArray×T d)):Prop where
 lays:∀x∈l,x.2.lays c pg
 fits:∀x∈l,x.2.okT
 ents:∀e∈l.map enN,e.ok false
 bytes:bytesE false (l.map enN)<=1024
 nd:(p::l.flatMap fun x=>x.2.pages).Nodup
theorem flat_sub{l m:List (ByteArray×T d)}(h:∀x∈l,∃y∈m,∀k∈x.2.pages,k∈y.2.pages):∀k∈l.flatMap (fun x=>x.2.pages),k∈m.flatMap fun x=>x.2.pages:=fun k hk=>by
 obtain⟨x,hx,hk⟩:=List.mem_flatMap.1 hk
 obtain⟨y,hy,hs⟩:=h x hx
 exact List.mem_flatMap.2 ⟨y,hy,hs k hk⟩
theorem two_at{l:List (ByteArray×T d)}{i:Nat}{a b:ByteArray×T d}(ha:l[i]?=some a)(hb:l[i+1]?=some b):∃l1 l2,l=l1++a::b::l2/\l1.length=i:=by
 obtain⟨l1,l2,e,hl⟩:=at_split ha
 refine⟨l1,l2.tail,?_,hl⟩
 rw[e]at hb⊢
 rw[List.getElem?_append_right (by omega),show i+1-l1.length=1 by omega]at hb
 cases l2 with
 |nil=>simp at hb
 |cons y r=>
  simp at hb
  rw[hb]
  rfl
theorem join_ok{c:Ch}{p:Nat}{l:List (ByteArray×T d)}(hc:c.fine)(h:Kids pg c p l)(k:Nat)(u:T d):
  Fr pg (l.flatMap fun x=>x.2.pages) c (joinT c l k u).1/\Kids pg (joinT c l k u).1 p (joinT c l k u).2/\(∀j∈(joinT c l k u).2.flatMap (fun x=>x.2.pages),j∈l.flatMap fun x=>x.2.pages)/\(l≠[]->(joinT c l k u).2≠[]):=by
 have hsame:Fr pg (l.flatMap fun x=>x.2.pages) c c/\Kids pg c p l/\(∀j∈l.flatMap (fun x=>x.2.pages),j∈l.flatMap fun x=>x.2.pages)/\(l≠[]->l≠[]):=⟨Fr.refl hc _,h,fun _ h=>h,fun h=>h⟩
 by_cases h1:341<bytesE (isLeaf d) u.ents\/l.length<2
 ·have e:joinT c l k u=(c,l):=by
   unfold joinT
   rw[if_pos h1]
  rw[e]
  exact hsame
 cases ha:l[k-1]? with
 |none=>
  have e:joinT c l k u=(c,l):=by
   unfold joinT
   rw[if_neg h1,ha]
  rw[e]
  exact hsame
 |some a=>
  cases hb:l[k-1+1]? with
  |none=>
   have e:joinT c l k u=(c,l):=by
    unfold joinT
    rw[if_neg h1,ha,hb]
   rw[e]
   exact hsame
  |some b=>
   by_cases h2:1024<bytesE (isLeaf d) (a.2.meet b.1 b.2).ents
   ·have e:joinT c l k u=(c,l):=by
     unfold joinT
     rw[if_neg h1,ha,hb]
     exact if_pos h2
    rw[e]
    exact hsame
   have h2':bytesE (isLeaf d) (a.2.meet b.1 b.2).ents<=1024:=by omega
   obtain⟨l1,l2,hle,hk1⟩:=two_at ha hb
   have e:joinT c l k u=((c.write (a.2.pg:Nat) (pageE (isLeaf d) (a.2.meet b.1 b.2).ents)).free (b.2.pg:Nat),l1++(a.1,a.2.meet b.1 b.2)::l2):=by
    unfold joinT
    rw[if_neg h1,ha,hb]
    refine(if_neg h2).trans ?_
    rw[<-hk1,hle,set_mid]
    have:=erase_mid b l2 (l1++[(a.1,a.2.meet b.1 b.2)])
    rw[List.length_append,List.length_singleton]at this
    simp only[List.append_assoc,List.singleton_append]at this
    rw[this]
   rw[e]
   have ham:a∈l:=by rw[hle];simp
   have hbm:b∈l:=by rw[hle];simp
   have hoa:=h.fits a ham
   have hob:=h.fits b hbm
   have hla:=T.lays_iff.1 (h.lays a ham)
   have hlb:=T.lays_iff.1 (h.lays b hbm)
   have hbk:b.1.size<=60:=(h.ents (enN b) (List.mem_map_of_mem hbm)).key
   have hom:=meet_ok hoa hob hbk h2'
   have hnd:=h.nd
   rw[hle,List.flatMap_append,List.flatMap_cons,List.flatMap_cons,T.pages_eq a.2,T.pages_eq b.2]at hnd
   obtain⟨P1,hP1⟩:∃P1,l1.flatMap (fun x=>x.2.pages)=P1:=⟨_,rfl⟩
   obtain⟨P2,hP2⟩:∃P2,l2.flatMap (fun x=>x.2.pages)=P2:=⟨_,rfl⟩
   obtain⟨A,hA⟩:∃A,a.2.pages.tail=A:=⟨_,rfl⟩
   obtain⟨B,hB⟩:∃B,b.2.pages.tail=B:=⟨_,rfl⟩
   rw[hP1,hP2,hA,hB]at hnd
   simp only[List.cons_append,List.nodup_cons,List.nodup_append,List.mem_append,List.mem_cons,not_or]at hnd
   obtain⟨⟨np1,npa,npA,npb,npB,np2⟩,n1,⟨⟨naA,nab,naB,na2⟩,nA,⟨⟨nbB,nb2⟩,nB,n2,hB2⟩,hA2⟩,h1x⟩:=hnd
   have hma:a.2.pg∈l.flatMap fun x=>x.2.pages:=List.mem_flatMap.2 ⟨a,ham,T.pg_mem _⟩
   have hmb:b.2.pg∈l.flatMap fun x=>x.2.pages:=List.mem_flatMap.2 ⟨b,hbm,T.pg_mem _⟩
   have hsz:(pageE (isLeaf d) (a.2.meet b.1 b.2).ents).size=1024:=pageE_size (T.okT_iff.1 hom).1.2.2 h2'
   obtain⟨w1,w2,w3⟩:=write_fr (pg:=pg) hc hla.1.1 hsz
   have hbu:=w1.inU hlb.1.1 (by simpa using fun e=>nab e.symm)
   have f1:=free_fr (pg:=pg) w1.fine hbu
   have hfr:Fr pg [a.2.pg,b.2.pg] c ((c.write (a.2.pg:Nat) (pageE (isLeaf d) (a.2.meet b.1 b.2).ents)).free (b.2.pg:Nat)):=
    (w1.wide (S':=[a.2.pg,b.2.pg]) fun k hk=>.inl (by rw[List.mem_singleton.1 hk];exact List.mem_cons_self)).trans f1 fun k hk=>.inl (by rw[List.mem_singleton.1 hk];exact List.mem_cons_of_mem _ List.mem_cons_self)
   have hmp:(a.2.meet b.1 b.2).pages=a.2.pg::(A++B):=by
    rw[meet_pages,T.pages_eq a.2,hA,hB,List.cons_append]
   have hkeep1:∀x∈l1,x.2.lays ((c.write (a.2.pg:Nat) (pageE (isLeaf d) (a.2.meet b.1 b.2).ents)).free (b.2.pg:Nat)) pg:=fun x hx=>T.lays_fr hfr (h.lays x (by rw[hle];exact List.mem_append_left _ hx)) fun k hk hm=>by
    have hk1:k∈P1:=by rw[<-hP1];exact List.mem_flatMap.2 ⟨x,hx,hk⟩
    rcases List.mem_cons.1 hm with e|hm
    ·exact h1x k hk1 k (.inl e) rfl
    ·exact h1x k hk1 k (.inr (.inr (.inl (List.mem_singleton.1 hm)))) rfl
   have hkeep2:∀x∈l2,x.2.lays ((c.write (a.2.pg:Nat) (pageE (isLeaf d) (a.2.meet b.1 b.2).ents)).free (b.2.pg:Nat)) pg:=fun x hx=>T.lays_fr hfr (h.lays x (by rw[hle];exact List.mem_append_right _ (List.mem_cons_of_mem _ (List.mem_cons_of_mem _ hx)))) fun k hk hm=>by
    have hk2:k∈P2:=by rw[<-hP2];exact List.mem_flatMap.2 ⟨x,hx,hk⟩
    rcases List.mem_cons.1 hm with e|hm
    ·rw[e]at hk2;exact na2 hk2
    ·rw[List.mem_singleton.1 hm]at hk2;exact nb2 hk2
   have hmeet:(a.2.meet b.1 b.2).lays ((c.write (a.2.pg:Nat) (pageE (isLeaf d) (a.2.meet b.1 b.2).ents)).free (b.2.pg:Nat)) pg:=by
    refine T.lays_iff.2 ⟨?_,meet_kids (T.kids_fr hfr hla.2 fun k hk hm=>?_) (T.kids_fr hfr hlb.2 fun k hk hm=>?_)⟩
    ·rw[meet_pg]
     exact f1.hasN ⟨w2,w3⟩ (by simpa using nab)
    ·rw[hA]at hk
     rcases List.mem_cons.1 hm with e|hm
     ·rw[e]at hk;exact naA hk
     ·exact hA2 k hk k (.inl (List.mem_singleton.1 hm)) rfl
    ·rw[hB]at hk
     rcases List.mem_cons.1 hm with e|hm
     ·rw[e]at hk;exact naB hk
     ·rw[List.mem_singleton.1 hm]at hk;exact nbB hk
   have hmapab:enN (a.1,a.2.meet b.1 b.2)=enN a:=by
    unfold enN
    rw[meet_pg]
   refine⟨hfr.wide fun k hk=>.inl ?_,⟨fun x hx=>?_,fun x hx=>?_,fun e he=>h.ents e ?_,?_,?_⟩,fun j hj=>?_,fun _=>by simp⟩
   ·rcases List.mem_cons.1 hk with e|hk
    ·rw[e];exact hma
    ·rw[List.mem_singleton.1 hk];exact hmb
   ·rcases List.mem_append.1 hx with hx|hx
    ·exact hkeep1 x hx
    rcases List.mem_cons.1 hx with e|hx
    ·rw[e];exact hmeet
    ·exact hkeep2 x hx
   ·rcases List.mem_append.1 hx with hx|hx
    ·exact h.fits x (by rw[hle];exact List.mem_append_left _ hx)
    rcases List.mem_cons.1 hx with e|hx
    ·rw[e];exact hom
    ·exact h.fits x (by rw[hle];exact List.mem_append_right _ (List.mem_cons_of_mem _ (List.mem_cons_of_mem _ hx)))
   ·rw[hle]
    simp only[List.map_append,List.map_cons,hmapab,List.mem_append,List.mem_cons]at he⊢
    rcases he with he|he|he
    ·exact .inl he
    ·exact .inr (.inl he)
    ·exact .inr (.inr (.inr he))
   ·have hb:=h.bytes
    rw[hle]at hb
    simp only[List.map_append,List.map_cons,hmapab,bytesE,sumE_append,sumE_cons]at hb⊢
    omega
   ·rw[List.flatMap_append,List.flatMap_cons,hmp,hP1,hP2]
    simp only[List.cons_append,List.nodup_cons,List.nodup_append,List.mem_append,List.mem_cons,not_or]
    refine⟨⟨np1,npa,⟨npA,npB⟩,np2⟩,n1,⟨⟨⟨naA,naB⟩,na2⟩,⟨nA,nB,fun x hx y hy=>hA2 x hx y (.inr (.inl hy))⟩,n2,fun x hx y hy=>?_⟩,fun x hx y hy=>?_⟩
    ·rcases hx with hx|hx
     ·exact hA2 x hx y (.inr (.inr hy))
     ·exact hB2 x hx y hy
    ·rcases hy with hy|(hy|hy)|hy
     ·exact h1x x hx y (.inl hy)
     ·exact h1x x hx y (.inr (.inl hy))
     ·exact h1x x hx y (.inr (.inr (.inr (.inl hy))))
     ·exact h1x x hx y (.inr (.inr (.inr (.inr hy))))
   ·rw[List.flatMap_append,List.flatMap_cons,hmp,hP1,hP2]at hj
    rw[hle,List.flatMap_append,List.flatMap_cons,List.flatMap_cons,T.pages_eq a.2,T.pages_eq b.2,hP1,hP2,hA,hB]
    simp only[List.cons_append,List.mem_append,List.mem_cons]at hj⊢
    rcases hj with h|h|(h|h)|h
    ·exact .inl h
    ·exact .inr (.inl h)
    ·exact .inr (.inr (.inl h))
    ·exact .inr (.inr (.inr (.inr (.inl h))))
    ·exact .inr (.inr (.inr (.inr (.inr h))))
end
theorem okE_sub{leaf:Bool}{a b:List En}(h:a.Sublist b)(hb:(∀e∈b,e.ok leaf)/\bytesE leaf b<=1024):(∀e∈a,e.ok leaf)/\bytesE leaf a<=1024:=by
 refine⟨fun e he=>hb.1 e (h.subset he),?_⟩
 have:=sumE_sub (leaf:=leaf) h
 have h2:=hb.2
 unfold bytesE at*
 omega
theorem dropT_ok{pg:Nat->ByteArray}{key:ByteArray}:∀{d:Nat} {c:Ch} {t:T d},c.fine->t.lays c pg->t.okT->t.pages.Nodup->DropOk pg c t (dropT c t key)
 |0,c,t,hc,hl,ho,hn=>by
  obtain⟨p,l⟩:Nat×List (ByteArray×ByteArray):=t
  have hl:HasN c pg true p (l.map enL):=hl
  have ho:OkN true (l.map enL):=ho
  have e0:dropT (d:=0) c (p,l) key=(c.write (p:Nat) (pageE true ((l.eraseIdx (searchE (l.map Prod.fst) key)).map enL)),(p,l.eraseIdx (searchE (l.map Prod.fst) key))):=rfl
  obtain⟨m,hm⟩:∃m,l.eraseIdx (searchE (l.map Prod.fst) key)=m:=⟨_,rfl⟩
  have hsub:(m.map enL).Sublist (l.map enL):=by
   rw[<-hm]
   exact(List.eraseIdx_sublist _ _).map _
  obtain⟨g1,g2⟩:=okE_sub hsub ⟨ho.2.2,ho.2.1⟩
  obtain⟨w1,w2,w3⟩:=write_fr (pg:=pg) hc hl.1 (pageE_size g1 g2)
  rw[e0,hm]
  exact⟨w1,rfl,⟨w2,w3⟩,fun h=>⟨h,g2,g1⟩,fun k hk=>hk,hn⟩
 |d+1,c,t,hc,hl,ho,hn=>by
  obtain⟨p,l⟩:Nat×List (ByteArray×T d):=t
  have hne:l.map Prod.fst≠[]:=fun e=>ho.1.1 (by
   have:l=[]:=List.map_eq_nil_iff.1 e
   show l.map enN=[]
   rw[this]
   rfl)
  have hdl:=downE_lt hne key
  rw[List.length_map]at hdl
  obtain⟨x,hx⟩:∃x,l[downE (l.map Prod.fst) key]?=some x:=⟨_,List.getElem?_eq_getElem hdl⟩
  obtain⟨l1,l2,hle,hk1⟩:=at_split hx
  have hxm:x∈l:=by rw[hle];simp
  have hnl:(p::l.flatMap fun y=>y.2.pages).Nodup:=hn
  have hpn:=hnl
  rw[hle,List.flatMap_append,List.flatMap_cons]at hpn
  obtain⟨n1,n2⟩:=List.nodup_cons.1 hpn
  obtain⟨n3,n4,n5⟩:=List.nodup_append.1 n2
  obtain⟨n6,n7,n8⟩:=List.nodup_append.1 n4
  have hlx:∀y∈l,y.2.lays c pg:=hl.2
  have hox:∀y∈l,y.2.okT:=ho.2
  have hnode:HasN c pg false p (l.map enN):=hl.1
  have hokn:OkN false (l.map enN):=ho.1
  have ih:=dropT_ok (pg:=pg) (key:=key) hc (hlx x hxm) (hox x hxm) n6
  have hS:∀k∈x.2.pages,k∈p::l.flatMap (fun y=>y.2.pages):=fun k h=>List.mem_cons_of_mem _ (List.mem_flatMap.2 ⟨x,hxm,h⟩)
  have hoth:∀y,y∈l1\/y∈l2->y∈l/\∀k∈y.2.pages,k∉x.2.pages:=fun y hy=>by
   rcases hy with hy|hy
   ·refine⟨by rw[hle];exact List.mem_append_left _ hy,fun k h1 h2=>n5 k (List.mem_flatMap.2 ⟨y,hy,h1⟩) k (List.mem_append_left _ h2) rfl⟩
   ·refine⟨by rw[hle];exact List.mem_append_right _ (List.mem_cons_of_mem _ hy),fun k h1 h2=>n8 k h2 k (List.mem_flatMap.2 ⟨y,hy,h1⟩) rfl⟩
  have hpx:p∉x.2.pages:=fun h=>n1 (List.mem_append_right _ (List.mem_append_left _ h))
  rcases hr:dropT c x.2 key with⟨c1,u⟩
  rw[hr]at ih
  have hfr:Fr pg x.2.pages c c1:=ih.fr
  have hpg:u.pg=x.2.pg:=ih.page
  have hlu:u.lays c1 pg:=ih.lays
  have hou:u.ents≠[]->u.okT:=ih.fits
  have hsu:∀k∈u.pages,k∈x.2.pages:=ih.sub
  have hnu:u.pages.Nodup:=ih.nd
  have hset:l.set (downE (l.map Prod.fst) key) (x.1,u)=l1++(x.1,u)::l2:=by rw[<-hk1,hle,set_mid]
  have hera:(l1++(x.1,u)::l2).eraseIdx (downE (l.map Prod.fst) key)=l1++l2:=by rw[<-hk1,erase_mid]
  have hmap:(l1++(x.1,u)::l2).map enN=l.map enN:=by
   rw[hle]
   simp only[List.map_append,List.map_cons]
   have:enN (x.1,u)=enN x:=by
    unfold enN
    rw[hpg]
   rw[this]
  have hlo:∀y,y∈l1\/y∈l2->y.2.lays c1 pg/\y.2.okT:=fun y hy=>⟨T.lays_fr hfr (hlx y (hoth y hy).1) (hoth y hy).2,hox y (hoth y hy).1⟩
  have hn1:HasN c1 pg false p (l.map enN):=hfr.hasN hnode hpx
  have hfw:Fr pg (p::l.flatMap fun y=>y.2.pages) c c1:=hfr.wide fun k h=>.inl (hS k h)
  obtain⟨s,hs⟩:∃s:Ch×List (ByteArray×T d),(if u.ents.isEmpty then(c1.free (u.pg:Nat),(l1++(x.1,u)::l2).eraseIdx (downE (l.map Prod.fst) key))else joinT c1 (l1++(x.1,u)::l2) (downE (l.map Prod.fst) key) u)=s:=⟨_,rfl⟩
  have e0:dropT (d:=d+1) c (p,l) key=(s.1.write (p:Nat) (pageE false (s.2.map enN)),(p,s.2)):=by
   refine(dropT.eq_2 c key d ((p,l):Nat×List (ByteArray×T d))).trans ?_
   simp only[hx,hr,hset,hs]
   rfl
  have key1:Fr pg (l.flatMap fun y=>y.2.pages) c1 s.1/\(∀y∈s.2,y.2.lays s.1 pg)/\(∀y∈s.2,y.2.okT)/\(∀e∈s.2.map enN,e.ok false)/\bytesE false (s.2.map enN)<=1024/\(p::s.2.flatMap fun y=>y.2.pages).Nodup/\∀k∈s.2.flatMap (fun y=>y.2.pages),k∈l.flatMap fun y=>y.2.pages:=by
   by_cases hem:u.ents.isEmpty=true
   ·have hs2:s=(c1.free (u.pg:Nat),l1++l2):=by
     rw[<-hs,if_pos hem,hera]
    rw[hs2]
    have hup:u.pg∈x.2.pages:=hsu _ (T.pg_mem u)
    have hf1:=free_fr (pg:=pg) hfr.fine (T.lays_used hlu _ (T.pg_mem u))
    have hsl:(l1++l2).Sublist l:=by
     rw[hle]
     exact List.Sublist.append (List.Sublist.refl _) (List.sublist_cons_self _ _)
    have hsm:((l1++l2).map enN).Sublist (l.map enN):=hsl.map _
    obtain⟨g1,g2⟩:=okE_sub hsm ⟨hokn.2.2,hokn.2.1⟩
    have hor:∀y∈l1++l2,y∈l1\/y∈l2:=fun y hy=>List.mem_append.1 hy
    refine⟨hf1.wide fun k hk=>.inl ?_,fun y hy=>T.lays_fr hf1 (hlo y (hor y hy)).1 fun k hk hm=>?_,fun y hy=>(hlo y (hor y hy)).2,g1,g2,?_,?_⟩
    ·rw[List.mem_singleton.1 hk]
     exact List.mem_flatMap.2 ⟨x,hxm,hup⟩
    ·rw[List.mem_singleton.1 hm]at hk
     exact(hoth y (hor y hy)).2 _ hk hup
    ·have:((l1++l2).flatMap fun y=>y.2.pages).Sublist (l.flatMap fun y=>y.2.pages):=by
      rw[hle,List.flatMap_append,List.flatMap_append,List.flatMap_cons]
      exact List.Sublist.append (List.Sublist.refl _) (List.sublist_append_right _ _)
     exact hnl.sublist (this.cons_cons p)
    ·exact flat_sub fun y hy=>⟨y,hsl.subset hy,fun k hk=>hk⟩
   ·have hs2:s=joinT c1 (l1++(x.1,u)::l2) (downE (l.map Prod.fst) key) u:=by
     rw[<-hs,if_neg hem]
    have hou:=hou (fun e=>hem (by rw[e];rfl))
    have hsub:∀k∈(l1++(x.1,u)::l2).flatMap (fun y=>y.2.pages),k∈l.flatMap fun y=>y.2.pages:=flat_sub fun y hy=>by
     rcases List.mem_append.1 hy with h|h
     ·exact⟨y,(hoth y (.inl h)).1,fun k hk=>hk⟩
     rcases List.mem_cons.1 h with e|h
     ·exact⟨x,hxm,fun k hk=>by rw[e]at hk;exact hsu k hk⟩
     ·exact⟨y,(hoth y (.inr h)).1,fun k hk=>hk⟩
    have hK:Kids pg c1 p (l1++(x.1,u)::l2):=by
     refine⟨fun y hy=>?_,fun y hy=>?_,by rw[hmap];exact hokn.2.2,by rw[hmap];exact hokn.2.1,?_⟩
     ·rcases List.mem_append.1 hy with h|h
      ·exact(hlo y (.inl h)).1
      rcases List.mem_cons.1 h with e|h
      ·rw[e];exact hlu
      ·exact(hlo y (.inr h)).1
     ·rcases List.mem_append.1 hy with h|h
      ·exact(hlo y (.inl h)).2
      rcases List.mem_cons.1 h with e|h
      ·rw[e];exact hou
      ·exact(hlo y (.inr h)).2
     ·rw[List.flatMap_append,List.flatMap_cons]
      exact mid_nodup (U:=fun _=>True) hpn hnu (fun k hk=>.inl (hsu k hk)) (fun _ _=>trivial)
    obtain⟨j1,j2,j3,_⟩:=join_ok hfr.fine hK (downE (l.map Prod.fst) key) u
    rw[hs2]
    exact⟨j1.wide fun k hk=>.inl (hsub k hk),j2.lays,j2.fits,j2.ents,j2.bytes,j2.nd,fun k hk=>hsub k (j3 k hk)⟩
  obtain⟨k1,k2,k3,k4,k5,k6,k7⟩:=key1
  have hpl:p∉l.flatMap fun y=>y.2.pages:=(List.nodup_cons.1 hnl).1
  have hps:InU s.1 p:=k1.inU hn1.1 hpl
  obtain⟨w1,w2,w3⟩:=write_fr (pg:=pg) k1.fine hps (pageE_size k4 k5)
  rw[e0]
  have hps2:=(List.nodup_cons.1 k6).1
  refine⟨(hfw.trans (k1.wide (S':=p::l.flatMap fun y=>y.2.pages) fun k hk=>.inl (List.mem_cons_of_mem _ hk)) fun k hk=>.inl hk).trans w1 fun k hk=>.inl (by rw[List.mem_singleton.1 hk];exact List.mem_cons_self),rfl,⟨⟨w2,w3⟩,fun y hy=>T.lays_fr w1 (k2 y hy) fun k hk hm=>?_⟩,fun h=>⟨⟨h,k5,k4⟩,k3⟩,fun k hk=>?_,k6⟩
  ·rw[List.mem_singleton.1 hm]at hk
   exact hps2 (List.mem_flatMap.2 ⟨y,hy,hk⟩)
  ·rcases List.mem_cons.1 hk with e|hk
   ·rw[e];exact List.mem_cons_self
   ·exact List.mem_cons_of_mem _ (k7 k hk)
