/-
  Part 13 of the proof.
-/
import Derived.Test.YtldmhjbdahjhdaaGreatDoorZc12
set_option maxRecDepth 100000
set_option maxHeartbeats 100000000
set_option linter.all false
namespace Go.Proofs.YtldmhjbdahjhdaaGreatDoor
section
open Go Go.RowKit
structure Jn(w W:World)(NB RB p:Nat)(s:Value):Prop where
 g:Gr w W
 nb:NB=w.heap.size
 rb:RB=w.heap.size+1+1
 rlt:RB<W.heap.size
 n0:W.cell? ⟨NB,0,none⟩=some (.int .i64 (p:Int))
 n1:W.cell? ⟨NB,1,none⟩=some (.bool false)
 n2:W.cell? ⟨NB,2,none⟩=some s
 nf:∀o,W.frozen? ⟨NB,o,none⟩=false
 r0:W.cell? ⟨RB,0,none⟩=some (.int .i64 0)
 r1:W.cell? ⟨RB,1,none⟩=some (.bool false)
 r2:W.cell? ⟨RB,2,none⟩=some (.slice none 0 0)
 rf:∀o,W.frozen? ⟨RB,o,none⟩=false
theorem Jn.made(w:World)(p:Nat)(s b0 b1 b2:Value)(hs:s.oneCell'=true):Jn w (((w.alloc (.cells #[.int .i64 (p:Int),.bool false,s] 200)).alloc (.cells #[b0,b1,b2] 200)).alloc (.cells #[.int .i64 0,.bool false,.slice none 0 0] 200)) w.heap.size (w.heap.size+1+1) p s:=by
 have g1:Gr w (w.alloc (.cells #[.int .i64 (p:Int),.bool false,s] 200)):=(Gr.refl w).alloc _
 have g2:Gr (w.alloc (.cells #[.int .i64 (p:Int),.bool false,s] 200)) (((w.alloc (.cells #[.int .i64 (p:Int),.bool false,s] 200)).alloc (.cells #[b0,b1,b2] 200)).alloc (.cells #[.int .i64 0,.bool false,.slice none 0 0] 200)):=((Gr.refl _).alloc _).alloc _
 have hsz:((w.alloc (.cells #[.int .i64 (p:Int),.bool false,s] 200)).alloc (.cells #[b0,b1,b2] 200)).heap.size=w.heap.size+1+1:=by simp
 refine⟨g1.trans g2,rfl,rfl,by simp,g2.keeps (by rw[World.cell?_alloc_new];rfl),g2.keeps (by rw[World.cell?_alloc_new];rfl),g2.keeps (by rw[World.cell?_alloc_new];rfl),fun o=>(g2.frozen o (by simp)).trans (by simp),?_,?_,?_,fun o=>?_⟩
 ·rw[<-hsz,World.cell?_alloc_new];rfl
 ·rw[<-hsz,World.cell?_alloc_new];rfl
 ·rw[<-hsz,World.cell?_alloc_new];rfl
 ·have hz:∀X:World,(X.alloc (.cells #[.int .i64 0,.bool false,.slice none 0 0] 200)).frozen? ⟨X.heap.size,o,none⟩=false:=fun X=>by simp
  rw[<-hsz]
  exact hz _
section
variable{w:World}{PB DB M:Nat}{c:Ch}{sv:Head}{t:Int}{d:Dk}
theorem join_stay{TP:Nat}{p:Nat}{nl:List En}{s:Value}{a0:World}(ho:OwnE a0 w s nl){k:Nat}{lc:Bool}{pb:Nat}{be:List En}{sb:Value}(hbe:IsE w sb be)(hbok:∀e∈be,e.ok lc)(hbl:be.length<=600)
  (hc:341<bytesE lc be\/nl.length<2):
  Calls Tryz.prog 256 #[.pointer (some ⟨TP,0,none⟩),nodeV p false s,.int .i64 (k:Int),nodeV pb lc sb] w fun e w'=>e=.returned (.tuple #[nodeV p false s,.nilIface])/\Gr w w':=by
 have hby:=fun W (g:Gr w W)=>bytes_n pb lc sb be W (hbe.gr g) hbok (by omega)
 obtain⟨ao,ca,rfl⟩:=ho.form
 obtain⟨bo,cb,rfl⟩:=hbe.form
 unfold nodeV at*
 have HBY:=Lib.hid hby
 clear hby
 go_enter Tryz.func256,Tryz.ntmps256
 go_wp2_with fail
 have hj:=Jn.made w p (.slice ao nl.length ca) (.int .i64 (pb:Int)) (.bool lc) (.slice bo be.length cb) rfl
 generalize((w.alloc (.cells #[.int .i64 (p:Int),.bool false,.slice ao nl.length ca] 200)).alloc (.cells #[.int .i64 (pb:Int),.bool lc,.slice bo be.length cb] 200)).alloc (.cells #[.int .i64 0,.bool false,.slice none 0 0] 200)=W3 at*
 generalize hRB:w.heap.size+1+1=RB at*
 generalize hNB:w.heap.size=NB at*
 refine(HBY.out _ hj.g).mono ?_
 rintro e w4 ⟨rfl,hg4⟩
 have n0:=hg4.keeps hj.n0
 have n1:=hg4.keeps hj.n1
 have n2:=hg4.keeps hj.n2
 have r0:=hg4.keeps hj.r0
 have r1:=hg4.keeps hj.r1
 have r2:=hg4.keeps hj.r2
 have rf:∀o,w4.frozen? ⟨RB,o,none⟩=false:=fun o=>(hg4.frozen o hj.rlt).trans (hj.rf o)
 have HJ:=Lib.hid hj
 have HG:=Lib.hid (hj.g.trans hg4)
 have y:=Lib.hid (three_set (v0:=.int .i64 (p:Int)) (v1:=.bool false) (v2:=.slice ao nl.length ca) r0 r1 r2)
 have hR:Gr w (((w4.setCell ⟨RB,0,none⟩ (.int .i64 (p:Int))).setCell ⟨RB,1,none⟩ (.bool false)).setCell ⟨RB,2,none⟩ (.slice ao nl.length ca)):=by
  have hk:w.heap.size<=RB:=by omega
  exact((HG.out.setCell hk _).setCell hk _).setCell hk _
 have HR:=Lib.hid hR
 clear hj hR
 have hby2:(bytesE lc be:Int)<=2000000:=by
  have:=sumE_le lc be hbok
  unfold bytesE
  omega
 by_cases h1:341<bytesE lc be
 ·have h1i:(341:Int)<(bytesE lc be:Int):=by omega
  go_wp2_with fail
  obtain⟨y0,y1,y2⟩:=y.out
  have hR:=HR.out
  generalize(((w4.setCell ⟨RB,0,none⟩ (.int .i64 (p:Int))).setCell ⟨RB,1,none⟩ (.bool false)).setCell ⟨RB,2,none⟩ (.slice ao nl.length ca))=w9 at*
  exact bodyPost_ret (v:=.tuple #[.agg #[.int .i64 (p:Int),.bool false,.slice ao nl.length ca],.nilIface]) (by simp[results,Tryz.results256,go_sem,y0,y1,y2]) rfl ⟨rfl,hR⟩
 ·have h1i:¬(341:Int)<(bytesE lc be:Int):=by omega
  have h2:nl.length<2:=hc.resolve_left h1
  have h2i:(nl.length:Int)<2:=by omega
  go_wp2_with fail
  obtain⟨y0,y1,y2⟩:=y.out
  have hR:=HR.out
  generalize(((w4.setCell ⟨RB,0,none⟩ (.int .i64 (p:Int))).setCell ⟨RB,1,none⟩ (.bool false)).setCell ⟨RB,2,none⟩ (.slice ao nl.length ca))=w9 at*
  exact bodyPost_ret (v:=.tuple #[.agg #[.int .i64 (p:Int),.bool false,.slice ao nl.length ca],.nilIface]) (by simp[results,Tryz.results256,go_sem,y0,y1,y2]) rfl ⟨rfl,hR⟩
end
def joinE(lc:Bool)(c:Ch)(nl:List En)(i:Nat)(pa pb2:Nat)(ea eb:List En)(key:ByteArray):Ch×List En:=
 if 1024<bytesE lc (meetE lc ea key eb)then(c,nl)else((c.write (pa:Nat) (pageE lc (meetE lc ea key eb))).free (pb2:Nat),nl.eraseIdx (i+1))
theorem reKeyE_len(k:ByteArray)(l:List En):(reKeyE k l).length=l.length:=by
 cases l<;>rfl
theorem reKeyE_ok{leaf:Bool}{k:ByteArray}(hk:k.size<=60){l:List En}(h:∀e∈l,e.ok leaf):∀e∈reKeyE k l,e.ok leaf:=by
 cases l with
 |nil=>exact fun e he=>by cases he
 |cons x r=>
  intro e he
  rcases List.mem_cons.1 he with rfl|he
  ·have:=h x List.mem_cons_self
   exact⟨hk,this.item,this.page,this.isL,this.node⟩
  ·exact h e (List.mem_cons_of_mem _ he)
theorem ownE_key{a0 w:World}{l:List En}{B cap:Nat}(h:OwnE a0 w (.slice (some ⟨B,0,none⟩) l.length cap) l)(hl:l≠[])(k:ByteArray):OwnE a0 (w.setCell ⟨B,0,none⟩ (.string k)) (.slice (some ⟨B,0,none⟩) l.length cap) (reKeyE k l):=by
 rcases h.row.2 with⟨_,e2⟩|⟨B',cap',cur,hv,hB,hh,hnc,hc,hsz,ht⟩
 ·exact absurd (List.eq_nil_of_length_eq_zero e2) hl
 obtain⟨rfl,rfl⟩:B=B'/\cap=cap':=by
  injection hv with e1 e2 e3
  injection e1 with e1
  injection e1 with e1
  exact⟨e1,e3⟩
 have hlt:B<w.heap.size:=(Array.getElem?_eq_some_iff.1 hh).1
 rw[setCell_eq_setRow w B 0 cur _ _ (.string k) hh]
 refine row_put hB hlt hc hnc (reKeyE_len k l) (by rw[Array.size_setIfInBounds];exact hsz) ?_ hh
 rw[Array.toList_setIfInBounds,List.take_set,ht]
 cases l with
 |nil=>exact absurd rfl hl
 |cons e r=>rfl
theorem GrX.own{S T:Nat->Prop}{w w1 w2:World}(h:GrX S w w1)(k:GrX T w1 w2)(ht:∀j,T j->S j\/w.heap.size<=j):GrX S w w2:=
 ⟨k.1.trans h.1,k.2.1.trans h.2.1,k.2.2.1.trans h.2.2.1,Nat.le_trans h.2.2.2.1 k.2.2.2.1,fun j hj hs=>(k.block (Nat.lt_of_lt_of_le hj h.2.2.2.1) (fun e=>(ht j e).elim hs fun e=>by omega)).trans (h.block hj hs)⟩
theorem three_gr(w5:World)(RB:Nat)(v0 v1 v2:Value):GrX (fun b=>b=RB) w5 (((w5.setCell ⟨RB,0,none⟩ v0).setCell ⟨RB,1,none⟩ v1).setCell ⟨RB,2,none⟩ v2):=
 ((GrX.setCell (S:=fun b=>b=RB) (p:=⟨RB,0,none⟩) w5 _ rfl).trans (GrX.setCell (S:=fun b=>b=RB) (p:=⟨RB,1,none⟩) _ _ rfl)).trans (GrX.setCell (S:=fun b=>b=RB) (p:=⟨RB,2,none⟩) _ _ rfl)
section
variable{w:World}{PB DB M:Nat}{c:Ch}{sv:Head}{t:Int}{d:Dk}
theorem join_go(h:PgT w PB DB M c sv t d){TP root:Nat}(ht:TreeAt w TP PB root)(hTn:TP≠PB/\TP≠DB/\TP≠M){p:Nat}{nl:List En}{s:Value}{a0:World}(ho:OwnE a0 w s nl)(ha:a0.heap.size<=w.heap.size)(haP:PB<a0.heap.size/\DB<a0.heap.size/\M<a0.heap.size/\TP<a0.heap.size)
  {k:Nat} {lc:Bool} {pb:Nat} {be:List En} {sb:Value} (hbe:IsE w sb be) (hbok:∀e∈be,e.ok lc) (hbl:be.length<=600) (hc:¬341<bytesE lc be) {i:Nat} (hi0:i<nl.length) (hik:i=k-1) (hkl:k<=10000) (hi1:i+1<nl.length) (hnl:nl.length<=10000)
  {pa pb2:Nat} {ea eb:List En} {key:ByteArray} (hpa:(nl[i]'hi0).page=pa) (hpb:(nl[i+1]'hi1).page=pb2) (hkey:(nl[i+1]'hi1).key=key)
  (hna:HasN c d.pg lc pa ea) (hea:(∀e∈ea,e.ok lc)/\bytesE lc ea<=1024) (hnb:HasN c d.pg lc pb2 eb) (heb:(∀e∈eb,e.ok lc)/\bytesE lc eb<=1024) (hbn:eb≠[]) (hkz:key.size<=60) (hpp:pa≠pb2):
  Calls Tryz.prog 256 #[.pointer (some ⟨TP,0,none⟩),nodeV p false s,.int .i64 (k:Int),nodeV pb lc sb] w fun e w'=>∃s',e=.returned (.tuple #[nodeV p false s',.nilIface])/\OwnE a0 w' s' (joinE lc c nl i pa pb2 ea eb key).2/\PgT w' PB DB M (joinE lc c nl i pa pb2 ea eb key).1 sv t d/\(∀b,s'.ownBlock=some b->s.ownBlock=some b\/w.heap.size<=b)/\GrX (fun b=>b=PB\/b=DB\/b=M\/s.ownBlock=some b) w w':=by
 rcases ho.at' with⟨_,rfl⟩|⟨SB,cap,rfl,q2,q3,q4,q5,q6⟩
 ·simp at hi1
 have hby:=fun W (g:Gr w W)=>bytes_n pb lc sb be W (hbe.gr g) hbok (by omega)
 obtain⟨bo,cb,rfl⟩:=hbe.form
 unfold nodeV at*
 have HBY:=Lib.hid hby
 clear hby
 have hJE:joinE lc c nl i pa pb2 ea eb key=if 1024<bytesE lc (ea++(if lc then eb else reKeyE key eb))then(c,nl)else((c.write (pa:Nat) (pageE lc (ea++(if lc then eb else reKeyE key eb)))).free (pb2:Nat),nl.eraseIdx (i+1)):=rfl
 obtain⟨JR,hJR⟩:∃JR,joinE lc c nl i pa pb2 ea eb key=JR:=⟨_,rfl⟩
 rw[hJR]
 rw[hJR]at hJE
 have HJE:=Lib.hid hJE
 clear hJE
 go_enter Tryz.func256,Tryz.ntmps256
 go_wp2_with fail
 have hj:=Jn.made w p (.slice (some ⟨SB,0,none⟩) nl.length cap) (.int .i64 (pb:Int)) (.bool lc) (.slice bo be.length cb) rfl
 generalize((w.alloc (.cells #[.int .i64 (p:Int),.bool false,.slice (some ⟨SB,0,none⟩) nl.length cap] 200)).alloc (.cells #[.int .i64 (pb:Int),.bool lc,.slice bo be.length cb] 200)).alloc (.cells #[.int .i64 0,.bool false,.slice none 0 0] 200)=W3 at*
 generalize hRB:w.heap.size+1+1=RB at*
 generalize hNB:w.heap.size=NB at*
 refine(HBY.out _ hj.g).mono ?_
 rintro e w4 ⟨rfl,hg4⟩
 have n0:=hg4.keeps hj.n0
 have n1:=hg4.keeps hj.n1
 have n2:=hg4.keeps hj.n2
 have r0:=hg4.keeps hj.r0
 have r1:=hg4.keeps hj.r1
 have r2:=hg4.keeps hj.r2
 have rf:∀o,w4.frozen? ⟨RB,o,none⟩=false:=fun o=>(hg4.frozen o hj.rlt).trans (hj.rf o)
 have HJ:=Lib.hid hj
 have HNF4:Hid (∀o,w4.frozen? ⟨NB,o,none⟩=false):=Lib.hid (fun o=>(hg4.frozen o (lt_of_cell hj.n0)).trans (hj.nf o))
 have HN4:=Lib.hid (And.intro n0 (And.intro n1 n2))
 have HR4:=Lib.hid (And.intro r0 (And.intro r1 (And.intro r2 rf)))
 have HG:=Lib.hid (hj.g.trans hg4)
 have HW34:=Lib.hid hg4.size
 clear hj
 have h1i:¬(341:Int)<(bytesE lc be:Int):=by omega
 have h2i:¬(nl.length:Int)<2:=by omega
 have hmx:max ((k:Int)-1) 0=(i:Int):=by omega
 have HIK:=Lib.hid hik
 clear hik
 obtain⟨_,_,x2⟩:=(q5.gr HG.out) i hi0
 obtain⟨z0,_,z2⟩:=(q5.gr HG.out) (i+1) hi1
 rw[Nat.zero_add,hpa]at x2
 rw[Nat.zero_add,hkey]at z0
 rw[Nat.zero_add,hpb]at z2
 have hil:(i:Int)<(nl.length:Int):=by omega
 have hil1:(i:Int)+1<(nl.length:Int):=by omega
 have hin:((i:Int)+1).toNat=i+1:=by omega
 have hra:=fun W (g:Gr w W)=>read_n (h.gr g).s (ht.gr g) hna hea.1 hea.2
 have hrb:=fun W (g:Gr w W)=>read_n (h.gr g).s (ht.gr g) hnb heb.1 heb.2
 unfold nodeV at hra hrb
 have HRA:=Lib.hid hra
 have HRB:=Lib.hid hrb
 clear hra hrb
 go_wp2_with(go_at_call_of 120 (Value.int .i64 (pa:Int));refine(HRA.out _ HG.out).mono ?_;rintro e w5 ⟨s1,rfl,ho5,hg5⟩;obtain⟨a5,c5,rfl⟩:=ho5.form;(have gA:Gr w5 (w5.alloc (.cells #[.int .i64 (pa:Int),.bool lc,.slice a5 ea.length c5] 200)):=(Gr.refl w5).alloc _);(have n0:=gA.keeps (hg5.keeps n0));(have n1:=gA.keeps (hg5.keeps n1));(have n2:=gA.keeps (hg5.keeps n2));(have z0:=gA.keeps (hg5.keeps z0));(have z2:=gA.keeps (hg5.keeps z2)))
 obtain⟨AB,hAB⟩:∃AB,w5.heap.size=AB:=⟨_,rfl⟩
 have k0:(w5.alloc (.cells #[.int .i64 (pa:Int),.bool lc,.slice a5 ea.length c5] 200)).cell? ⟨w5.heap.size,0,none⟩=some (.int .i64 (pa:Int)):=by rw[World.cell?_alloc_new];rfl
 have k1:(w5.alloc (.cells #[.int .i64 (pa:Int),.bool lc,.slice a5 ea.length c5] 200)).cell? ⟨w5.heap.size,1,none⟩=some (.bool lc):=by rw[World.cell?_alloc_new];rfl
 have k2:(w5.alloc (.cells #[.int .i64 (pa:Int),.bool lc,.slice a5 ea.length c5] 200)).cell? ⟨w5.heap.size,2,none⟩=some (.slice a5 ea.length c5):=by rw[World.cell?_alloc_new];rfl
 have kf:∀o,(w5.alloc (.cells #[.int .i64 (pa:Int),.bool lc,.slice a5 ea.length c5] 200)).frozen? ⟨w5.heap.size,o,none⟩=false:=fun o=>by simp
 have gw6:=(HG.out.trans hg5).trans gA
 rw[hAB]at k0 k1 k2 kf⊢
 have ho6:=ho5.gr gA
 generalize w5.alloc (.cells #[.int .i64 (pa:Int),.bool lc,.slice a5 ea.length c5] 200)=w6 at*
 refine(HRB.out _ gw6).mono ?_
 rintro e w7 ⟨s2,rfl,ho7,hg7⟩
 obtain⟨a7,c7,rfl⟩:=ho7.form
 have gB:Gr w7 (w7.alloc (.cells #[.int .i64 (pb2:Int),.bool lc,.slice a7 eb.length c7] 200)):=(Gr.refl w7).alloc _
 have g78:=hg7.trans gB
 have n0:=g78.keeps n0
 have n1:=g78.keeps n1
 have n2:=g78.keeps n2
 have z0:=g78.keeps z0
 have hAl:=lt_of_cell k0
 have k0:=g78.keeps k0
 have k1:=g78.keeps k1
 have k2:=g78.keeps k2
 have hA6:Hid (AB<w6.heap.size):=Lib.hid (by assumption)
 have hAlt:=lt_of_cell k0
 have gw8:=gw6.trans g78
 have m0:(w7.alloc (.cells #[.int .i64 (pb2:Int),.bool lc,.slice a7 eb.length c7] 200)).cell? ⟨w7.heap.size,0,none⟩=some (.int .i64 (pb2:Int)):=by rw[World.cell?_alloc_new];rfl
 have m1:(w7.alloc (.cells #[.int .i64 (pb2:Int),.bool lc,.slice a7 eb.length c7] 200)).cell? ⟨w7.heap.size,1,none⟩=some (.bool lc):=by rw[World.cell?_alloc_new];rfl
 have m2:(w7.alloc (.cells #[.int .i64 (pb2:Int),.bool lc,.slice a7 eb.length c7] 200)).cell? ⟨w7.heap.size,2,none⟩=some (.slice a7 eb.length c7):=by rw[World.cell?_alloc_new];rfl
 have ho8:=ho7.gr gB
 have ho6:=ho6.gr g78
 rcases ho8.at' with⟨_,e9⟩|⟨B2,cap2,e9,b2,b3,b4,b5,b6⟩
 ·exact absurd e9 hbn
 obtain⟨rfl,rfl⟩:a7=some ⟨B2,0,none⟩/\c7=cap2:=by
  injection e9 with e1 e2 e3
  exact⟨e1,e3⟩
 have hb0:0<eb.length:=List.length_pos_iff.2 hbn
 have hb0i:(0:Int)<(eb.length:Int):=by omega
 have y0:=(b5 0 hb0).1
 have y0:(w7.alloc (.cells #[.int .i64 (pb2:Int),.bool lc,.slice (some ⟨B2,0,none⟩) eb.length c7] 200)).cell? ⟨B2,0,none⟩=some (.string (eb[0]'hb0).key):=y0
 have yf:=b6 0
 go_upto_if 61 with(fail)
 obtain⟨BB,hBB⟩:∃BB,w7.heap.size=BB:=⟨_,rfl⟩
 rw[hBB]at m0 m1 m2⊢
 generalize w7.alloc (.cells #[.int .i64 (pb2:Int),.bool lc,.slice (some ⟨B2,0,none⟩) eb.length c7] 200)=w8 at*
 generalize(eb[0]'hb0).key=ky0 at*
 go_cut [13] (fun s13 wx=>s13=.pointer (some ⟨BB,0,none⟩)/\OwnE w6 wx (.slice (some ⟨B2,0,none⟩) eb.length c7) (if lc then eb else reKeyE key eb)/\GrX (fun b=>b=B2) w8 wx)
 case first=>
  have hwr:IntKind.i64.wrap ((i:Int)+1)=(i:Int)+1:=IntWalk.i64_in _ (by omega)
  have hok9:=Lib.hid (ownE_key ho8 hbn key)
  cases lc with
  |true=>
   go_wp2_with fail
   go_meet
   exact⟨rfl,by simpa using ho8,GrX.refl _ _⟩
  |false=>
   go_wp2_with fail
   go_region
   all_goals
    go_wp2_with fail
    go_meet
    exact⟨rfl,by simpa using hok9.out.gr (Gr.refl _).drew,(GrX.setCell (S:=fun b=>b=B2) (p:=⟨B2,0,none⟩) w8 _ rfl).trans (GrX.drew _)⟩
 case rest=>
  obtain⟨rfl,hob,hgX⟩:=hcut
  have hEL:(if lc then eb else reKeyE key eb).length=eb.length:=by
   cases lc
   ·exact reKeyE_len key eb
   ·rfl
  obtain⟨eb',hebq⟩:∃eb',(if lc then eb else reKeyE key eb)=eb':=⟨_,rfl⟩
  rw[hebq]at hob hEL HJE
  have hB2:∀j,j<w6.heap.size->¬j=B2:=fun j hj e=>by omega
  have hNBl:NB<w6.heap.size:=by
   have:=gw6.size
   have:=HJ.out.rlt
   have:=HJ.out.rb
   have:=HG.out.size
   have h9:=hg5.size
   have h8:=gA.size
   have h7:=HW34.out
   omega
  have n0:=hgX.keeps (hB2 NB hNBl) n0
  have n1:=hgX.keeps (hB2 NB hNBl) n1
  have n2:=hgX.keeps (hB2 NB hNBl) n2
  have hABl:AB<w6.heap.size:=hA6.out
  have k0:=hgX.keeps (hB2 AB hABl) k0
  have k1:=hgX.keeps (hB2 AB hABl) k1
  have k2:=hgX.keeps (hB2 AB hABl) k2
  have kfz:∀o,wc.frozen? ⟨AB,o,none⟩=false:=fun o=>by
   rw[hgX.frozen o (Nat.lt_of_lt_of_le hABl g78.size) (hB2 AB hABl),g78.frozen o hABl]
   exact kf o
  have GW4:Gr w4 wc:=hgX.gr ((hg5.trans gA).trans g78) (fun j e=>by
   have:=hg5.size
   have:=gA.size
   omega)
  have hoa:=ho6.keepX hgX (fun b hb e=>by
   have:=ownBlock_lt ho5 b hb
   have:=gA.size
   omega)
  have HOA:=Lib.hid hoa
  have HGW4:=Lib.hid GW4
  have HIB:=Lib.hid hob.isE
  have hll2:ea.length+eb'.length<=2000:=by
   have h1:=sumE_len lc ea
   have h2:=sumE_len lc eb
   have h3:=hea.2
   have h4:=heb.2
   unfold bytesE at h3 h4
   omega
  have hll:ea.length+eb'.length<=1000000:=by omega
  have hAo:(Value.slice a5 ea.length c5).ownBlock≠some AB:=fun e=>by
   have:=ownBlock_lt ho5 _ e
   omega
  have hEL2:eb.length=eb'.length:=hEL.symm
  have HEL:=Lib.hid hEL2
  rw[HEL.out]at m2
  have m2:=m2
  have HIB2:Hid (IsE wc (.slice (some ⟨B2,0,none⟩) eb'.length c7) eb'):=Lib.hid (by rw[<-hEL2];exact HIB.out)
  clear hEL hEL2
  have hBBl:BB≠B2:=fun e=>by
   have:=ownBlock_lt ho7 B2 rfl
   omega
  have m2:=hgX.keeps hBBl m2
  have hABc:=lt_of_cell k0
  go_wp2_with(at_builtin;(refine append_ents (a0:=w4) (w:=wc) rfl _ _ rfl (.slice a5 ea.length c5) ea rfl HOA.out (.slice (some ⟨B2,0,none⟩) eb'.length c7) eb' rfl HIB2.out hll HGW4.out ?_);intro v9 w9 ho9 hg9 hx9 hv9;(have k0:=hx9.keeps hAo k0);(have k1:=hx9.keeps hAo k1);(have k2:=hx9.keeps hAo k2);(have kz:w9.frozen? ⟨AB,2,none⟩=false:=(hx9.frozen 2 hABc hAo).trans (kfz 2));(obtain⟨a9,c9,rfl⟩:=ho9.form))
  have hAw:w4.heap.size<=AB:=by
   have:=hg5.size
   omega
  have G10:Gr w4 (w9.setCell ⟨AB,2,none⟩ (.slice a9 (ea.length+eb'.length) c9)):=hg9.setCell hAw _
  rw[List.length_append]at ho9 hv9
  have gS:GrX (fun b=>b=AB) w9 (w9.setCell ⟨AB,2,none⟩ (.slice a9 (ea.length+eb'.length) c9)):=GrX.setCell (S:=fun b=>b=AB) (p:=⟨AB,2,none⟩) w9 _ rfl
  have ho10:=ho9.keepX gS (fun b hb e=>by
   rcases hv9 with h1|h1
   ·exact hAo (by rw[<-h1,hb,e])
   ·rw[h1]at hb
    have:=Option.some.inj hb
    omega)
  have hokM:∀e∈ea++eb',e.ok lc:=by
   intro e he
   rcases List.mem_append.1 he with he|he
   ·exact hea.1 e he
   ·rw[<-hebq]at he
    cases lc
    ·exact reKeyE_ok hkz heb.1 e he
    ·exact heb.1 e he
  have hBA:BB≠AB:=by
   have:=hg7.size
   have:=hA6.out
   omega
  have hBo:¬((Value.slice a5 ea.length c5).ownBlock=some BB):=fun e=>by
   have:=ownBlock_lt ho5 _ e
   have:=hg7.size
   have:=gA.size
   omega
  have m0:=gS.keeps hBA (hx9.keeps hBo (hgX.keeps hBBl m0))
  have k0':(w9.setCell ⟨AB,2,none⟩ (.slice a9 (ea.length+eb'.length) c9)).cell? ⟨AB,0,none⟩=some (.int .i64 (pa:Int)):=by
   rw[World.cell?_setCell_other _ _ _ _ (by simp)]
   exact k0
  have k1':(w9.setCell ⟨AB,2,none⟩ (.slice a9 (ea.length+eb'.length) c9)).cell? ⟨AB,1,none⟩=some (.bool lc):=by
   rw[World.cell?_setCell_other _ _ _ _ (by simp)]
   exact k1
  have k2':=World.cell?_setCell_same w9 ⟨AB,2,none⟩ (.slice a9 (ea.length+eb'.length) c9) k2
  generalize w9.setCell ⟨AB,2,none⟩ (.slice a9 (ea.length+eb'.length) c9)=w10 at*
  have hbm:=bytes_n pa lc _ (ea++eb') w10 ho10.isE hokM (by rw[List.length_append];omega)
  unfold nodeV at hbm
  obtain⟨Z,hZ⟩:∃Z,bytesE lc (ea++eb')=Z:=⟨_,rfl⟩
  rw[hZ]at HJE hbm
  refine hbm.mono ?_
  rintro e w11 ⟨rfl,hg11⟩
  have G11:=G10.trans hg11
  have n0:=G11.keeps HN4.out.1
  have n1:=G11.keeps HN4.out.2.1
  have n2:=G11.keeps HN4.out.2.2
  have r0:=G11.keeps HR4.out.1
  have r1:=G11.keeps HR4.out.2.1
  have r2:=G11.keeps HR4.out.2.2.1
  have rf:∀o,w11.frozen? ⟨RB,o,none⟩=false:=fun o=>(G11.frozen o (lt_of_cell HR4.out.1)).trans (HR4.out.2.2.2 o)
  have GW:=HG.out.trans G11
  have hRw:w.heap.size<=RB:=by
   have:=HJ.out.rb
   omega
  have hSR:∀b,(Value.slice (some ⟨SB,0,none⟩) nl.length cap).ownBlock=some b->¬b=RB:=fun b hb e=>by
   have:=ownBlock_lt ho b hb
   omega
  have how:=ho.gr GW
  have HGW:=Lib.hid GW
  have HHOW:=Lib.hid how
  by_cases hZ1:1024<Z
  ·have hZi:(1024:Int)<(Z:Int):=by omega
   rw[if_pos hZ1]at HJE
   have y:=Lib.hid (three_set (v0:=.int .i64 (p:Int)) (v1:=.bool false) (v2:=.slice (some ⟨SB,0,none⟩) nl.length cap) r0 r1 r2)
   have gR:GrX (fun b=>b=RB) w11 (((w11.setCell ⟨RB,0,none⟩ (.int .i64 (p:Int))).setCell ⟨RB,1,none⟩ (.bool false)).setCell ⟨RB,2,none⟩ (.slice (some ⟨SB,0,none⟩) nl.length cap)):=((GrX.setCell (S:=fun b=>b=RB) (p:=⟨RB,0,none⟩) w11 _ rfl).trans (GrX.setCell (S:=fun b=>b=RB) (p:=⟨RB,1,none⟩) _ _ rfl)).trans (GrX.setCell (S:=fun b=>b=RB) (p:=⟨RB,2,none⟩) _ _ rfl)
   have GF:=Lib.hid (gR.gr GW (fun j e=>by omega))
   have OF:=Lib.hid (how.keepX gR hSR)
   clear gR
   go_wp2_with fail
   obtain⟨y0,y1,y2⟩:=y.out
   have gF:=GF.out
   have oF:=OF.out
   generalize(((w11.setCell ⟨RB,0,none⟩ (.int .i64 (p:Int))).setCell ⟨RB,1,none⟩ (.bool false)).setCell ⟨RB,2,none⟩ (.slice (some ⟨SB,0,none⟩) nl.length cap))=w12 at*
   refine bodyPost_ret (v:=.tuple #[.agg #[.int .i64 (p:Int),.bool false,.slice (some ⟨SB,0,none⟩) nl.length cap],.nilIface]) (by simp[results,Tryz.results256,go_sem,y0,y1,y2]) rfl ?_
   rw[HJE.out]
   exact⟨_,rfl,oF,h.gr gF,fun b hb=>.inl hb,GrX.of_gr gF⟩
  ·have hZi:¬(1024:Int)<(Z:Int):=by omega
   rw[if_neg hZ1]at HJE
   have m0:=hg11.keeps m0
   have l0:=hg11.keeps k0'
   have l1:=hg11.keeps k1'
   have l2:=hg11.keeps k2'
   have hwr:=write_n (h.gr GW) (ht.gr GW) (ho10.isE.gr hg11) hokM (by omega) hna.1
   unfold nodeV at hwr
   have HWR:=Lib.hid hwr
   clear hwr
   have hNB11:=lt_of_cell n0
   have hNP:NB≠PB/\NB≠DB/\NB≠M:=by omega
   have hRP:RB≠PB/\RB≠DB/\RB≠M:=by omega
   have hBP:BB≠PB/\BB≠DB/\BB≠M:=by
    have:=hg7.size
    have:=gw6.size
    omega
   go_wp2_with(go_at_call 200;refine HWR.out.mono ?_;rintro e w12 ⟨rfl,hp12,hf12⟩;(have n0:=hf12.keeps hNP.1 hNP.2.1 hNP.2.2 n0);(have n1:=hf12.keeps hNP.1 hNP.2.1 hNP.2.2 n1);(have n2:=hf12.keeps hNP.1 hNP.2.1 hNP.2.2 n2))
   have how12:=how.keepX hf12.2 (fun b hb e=>by
    have:=ownBlock_ge ho b hb
    omega)
   have hdl:=delete_o a0 w12 _ nl (i+1) how12 hi1 (by have:=GW.size;have:=hf12.size;omega) hnl
   obtain⟨R,hR⟩:∃R,nl.eraseIdx (i+1)=R:=⟨_,rfl⟩
   rw[hR]at hdl HJE
   clear hR
   have hc1:((i+1:Nat):Int)=(i:Int)+1:=by omega
   have hc2:(i:Int)+1+1=(i:Int)+2:=by omega
   rw[hc1,hc2]at hdl
   have HDL:=Lib.hid hdl
   clear hdl hc1 hc2
   have hSN:¬((Value.slice (some ⟨SB,0,none⟩) nl.length cap).ownBlock=some NB):=fun e=>by
    have:=ownBlock_lt ho _ e
    have:=HJ.out.nb
    omega
   have nfz:w12.frozen? ⟨NB,2,none⟩=false:=by
    rw[hf12.2.frozen 2 hNB11 (fun e=>e.elim hNP.1 fun e=>e.elim hNP.2.1 hNP.2.2),G11.frozen 2 (lt_of_cell HN4.out.1)]
    exact HNF4.out 2
   have hNB12:=lt_of_cell n0
   go_wp2_with(go_at_call 255;refine HDL.out.mono ?_;rintro e w13 ⟨v13,rfl,ho13,hx13,hob13⟩;obtain⟨a13,c13,rfl⟩:=ho13.form;(have n0:=hx13.keeps hSN n0);(have n1:=hx13.keeps hSN n1);(have n2:=hx13.keeps hSN n2);(have nz:=(hx13.frozen 2 hNB12 hSN).trans nfz))
   have hSg:∀b,(Value.slice (some ⟨SB,0,none⟩) nl.length cap).ownBlock=some b->a0.heap.size<=b:=fun b hb=>ownBlock_ge ho b hb
   have hSl:∀b,(Value.slice (some ⟨SB,0,none⟩) nl.length cap).ownBlock=some b->b<w.heap.size:=fun b hb=>ownBlock_lt ho b hb
   have hSR2:¬((Value.slice (some ⟨SB,0,none⟩) nl.length cap).ownBlock=some RB):=fun e=>by
    have:=hSl _ e
    omega
   have hBw:w.heap.size<=BB:=by
    have:=hg7.size
    have:=gw6.size
    omega
   have hSB2:¬((Value.slice (some ⟨SB,0,none⟩) nl.length cap).ownBlock=some BB):=fun e=>by
    have:=hSl _ e
    omega
   have hNw:NB=w.heap.size:=HJ.out.nb
   have hRw2:RB=w.heap.size+1+1:=HJ.out.rb
   have hRN:RB≠NB:=by omega
   have hBN:BB≠NB:=by
    have:=hg7.size
    omega
   have hRB11:=lt_of_cell r0
   have r0:=hx13.keeps hSR2 (hf12.keeps hRP.1 hRP.2.1 hRP.2.2 r0)
   have r1:=hx13.keeps hSR2 (hf12.keeps hRP.1 hRP.2.1 hRP.2.2 r1)
   have r2:=hx13.keeps hSR2 (hf12.keeps hRP.1 hRP.2.1 hRP.2.2 r2)
   have m0:=hx13.keeps hSB2 (hf12.keeps hBP.1 hBP.2.1 hBP.2.2 m0)
   have rf13:∀o,w13.frozen? ⟨RB,o,none⟩=false:=fun o=>by
    rw[hx13.frozen o (Nat.lt_of_lt_of_le hRB11 hf12.size) hSR2,hf12.2.frozen o hRB11 (fun e=>e.elim hRP.1 fun e=>e.elim hRP.2.1 hRP.2.2)]
    exact rf o
   have gS:GrX (fun b=>b=NB) w13 (w13.setCell ⟨NB,2,none⟩ (.slice a13 R.length c13)):=GrX.setCell (S:=fun b=>b=NB) (p:=⟨NB,2,none⟩) w13 _ rfl
   have hoN:∀b,(Value.slice a13 R.length c13).ownBlock=some b->¬b=NB:=fun b hb e=>hSN (by rw[<-hob13,hb,e])
   have hoR:∀b,(Value.slice a13 R.length c13).ownBlock=some b->¬b=RB:=fun b hb e=>hSR2 (by rw[<-hob13,hb,e])
   have hoP:∀b,(Value.slice a13 R.length c13).ownBlock=some b->¬(b=PB\/b=DB\/b=M):=fun b hb e=>by
    have:=hSg b (by rw[<-hob13];exact hb)
    omega
   have ho14:=ho13.keepX gS hoN
   have hp14:=(hp12.keepX hx13 (fun e=>by have:=hSg _ e;omega) (fun e=>by have:=hSg _ e;omega) (fun e=>by have:=hSg _ e;omega)).keepX gS (fun e=>hNP.1 e.symm) (fun e=>hNP.2.1 e.symm) (fun e=>hNP.2.2 e.symm)
   have ht14:=(((ht.gr GW).pg hf12 hTn.1 hTn.2.1 hTn.2.2).keepX hx13 (fun e=>by have:=hSg _ e;omega)).keepX gS (fun e=>by omega)
   have F14:GrX (fun b=>b=PB\/b=DB\/b=M\/(Value.slice (some ⟨SB,0,none⟩) nl.length cap).ownBlock=some b) w (w13.setCell ⟨NB,2,none⟩ (.slice a13 R.length c13)):=
    (((GrX.of_gr GW).own hf12.2 (fun j e=>.inl (e.elim .inl fun e=>e.elim (fun e=>.inr (.inl e)) fun e=>.inr (.inr (.inl e))))).own hx13 (fun j e=>.inl (.inr (.inr (.inr e))))).own gS (fun j e=>.inr (by omega))
   have r0:=gS.keeps hRN r0
   have r1:=gS.keeps hRN r1
   have r2:=gS.keeps hRN r2
   have m0:=gS.keeps hBN m0
   have n0':(w13.setCell ⟨NB,2,none⟩ (.slice a13 R.length c13)).cell? ⟨NB,0,none⟩=some (.int .i64 (p:Int)):=by
    rw[World.cell?_setCell_other _ _ _ _ (by simp)]
    exact n0
   have n1':(w13.setCell ⟨NB,2,none⟩ (.slice a13 R.length c13)).cell? ⟨NB,1,none⟩=some (.bool false):=by
    rw[World.cell?_setCell_other _ _ _ _ (by simp)]
    exact n1
   have n2':=World.cell?_setCell_same w13 ⟨NB,2,none⟩ (.slice a13 R.length c13) n2
   have rfz:∀o,(w13.setCell ⟨NB,2,none⟩ (.slice a13 R.length c13)).frozen? ⟨RB,o,none⟩=false:=fun o=>by
    have h13:=hx13.2.2.2.1
    have h12:=hf12.size
    rw[gS.frozen o (by omega) hRN]
    exact rf13 o
   clear HDL hx13 gS ho13 rf13 n0 n1 n2
   generalize w13.setCell ⟨NB,2,none⟩ (.slice a13 R.length c13)=w14 at*
   have tp:=ht14.p
   have hbM:bytesE lc (ea++eb')<=1024:=by omega
   have hin:InU (c.write (pa:Nat) (pageE lc (ea++eb'))) pb2:=(write_fr (pg:=d.pg) h.f hna.1 (pageE_size hokM hbM)).1.inU hnb.1 (by simpa using fun e:pb2=pa=>hpp e.symm)
   have hfr:=fun W (g:Gr w14 W)=>free_t (hp14.gr g) hin
   have HFR:=Lib.hid hfr
   have HF14:=Lib.hid F14
   have HO14:=Lib.hid ho14
   have hRw14:RB<w14.heap.size:=lt_of_cell r0
   have hRf:∀(w5:World) (o:Nat),PgF PB DB M M w14 w5->w5.frozen? ⟨RB,o,none⟩=false:=fun w5 o f5=>(f5.2.frozen o hRw14 (fun e=>e.elim hRP.1 fun e=>e.elim hRP.2.1 hRP.2.2)).trans (rfz o)
   have HRF:=Lib.hid hRf
   clear hfr hRf F14 ho14 hp14 ht14 hNw hRw2 hbM hin hokM h1i h2i hmx hil hil1 hb0i hb0 hll hll2 hBA hSl hSg k0 k1 k2 kz l0 l1 l2 k0' k1' k2' m1 y0 z0 z2 x2 hJR hZ hZ1 hZi q2 q3 q5 q6 b2 b3 b5 b6 kf kfz
   generalize(c.write (pa:Nat) (pageE lc (ea++eb'))).free (pb2:Nat)=CF at*
   go_region_with(go_at_call 204;refine(HFR.out _ ?_).mono ?_;(with_reducible exact(Gr.refl _).drew);rintro e w5 ⟨rfl,hp5,hf5⟩;(have hf5':=(PgF.of_gr PB DB M (Gr.refl w14).drew).trans hf5);(have r0:=hf5'.keeps hRP.1 hRP.2.1 hRP.2.2 r0);(have r1:=hf5'.keeps hRP.1 hRP.2.1 hRP.2.2 r1);(have r2:=hf5'.keeps hRP.1 hRP.2.1 hRP.2.2 r2);(have x0:=HRF.out _ 0 hf5');(have x1:=HRF.out _ 1 hf5');(have x2:=HRF.out _ 2 hf5');(have q0:=hf5'.keeps hNP.1 hNP.2.1 hNP.2.2 n0');(have q1:=hf5'.keeps hNP.1 hNP.2.1 hNP.2.2 n1');(have q2:=hf5'.keeps hNP.1 hNP.2.1 hNP.2.2 n2'))
   all_goals
    have y:=Lib.hid (three_set (v0:=.int .i64 (p:Int)) (v1:=.bool false) (v2:=.slice a13 R.length c13) r0 r1 r2)
    have g3:=Lib.hid (three_gr w5 RB (.int .i64 (p:Int)) (.bool false) (.slice a13 R.length c13))
    go_wp2_with fail
    obtain⟨y0,y1,y2⟩:=y.out
    have g3:=g3.out
    generalize(((w5.setCell ⟨RB,0,none⟩ (.int .i64 (p:Int))).setCell ⟨RB,1,none⟩ (.bool false)).setCell ⟨RB,2,none⟩ (.slice a13 R.length c13))=w9 at*
    refine bodyPost_ret (v:=.tuple #[.agg #[.int .i64 (p:Int),.bool false,.slice a13 R.length c13],.nilIface]) (by simp[results,Tryz.results256,go_sem,y0,y1,y2]) rfl ?_
    rw[HJE.out]
    exact⟨_,rfl,(HO14.out.keepX hf5'.2 hoP).keepX g3 hoR,hp5.keepX g3 (fun e=>hRP.1 e.symm) (fun e=>hRP.2.1 e.symm) (fun e=>hRP.2.2 e.symm),fun b hb=>.inl (by rw[<-hob13];exact hb),(HF14.out.own hf5'.2 (fun j e=>.inl (e.elim .inl fun e=>e.elim (fun e=>.inr (.inl e)) fun e=>.inr (.inr (.inl e))))).own g3 (fun j e=>.inr (by have:=HJ.out.rb;omega))⟩
end
theorem pgF_own{T:Nat->Prop}{PB DB M:Nat}{w w1 w2:World}(h:PgF PB DB M M w w1)(k:GrX (fun b=>b=PB\/b=DB\/b=M\/T b) w1 w2)(ht:∀j,T j->w.heap.size<=j):PgF PB DB M M w w2:=
 ⟨.inl rfl,k.1.trans h.2.1,k.2.1.trans h.2.2.1,k.2.2.1.trans h.2.2.2.1,Nat.le_trans h.size k.2.2.2.1,fun j hj hs=>(k.block (Nat.lt_of_lt_of_le hj h.size) (fun e=>e.elim (fun e=>hs (.inl e)) fun e=>e.elim (fun e=>hs (.inr (.inl e))) fun e=>e.elim (fun e=>hs (.inr (.inr e))) fun e=>by have:=ht j e;omega)).trans (h.2.block hj hs)⟩
section
variable{w:World}{PB DB M:Nat}{c:Ch}{sv:Head}{t:Int}{d:Dk}
theorem drop_node(h:PgT w PB DB M c sv t d){TP root:Nat}(ht:TreeAt w TP PB root)(hTn:TP≠PB/\TP≠DB/\TP≠M){p:Nat}{l:List En}(hp:HasN c d.pg false p l)(hok:∀e∈l,e.ok false)(hb:bytesE false l<=1024)(key:ByteArray)
  {K:Nat} (hK:downE (keysE l) key=K) (hlt:K<l.length) {c1 C2:Ch} {pb:Nat} {lc:Bool} {be R:List En}
  (hsub:∀W,Gr w W->Calls Tryz.prog 203 #[.pointer (some ⟨TP,0,none⟩),.int .i64 (l[K].page:Int),.string key] W fun e w'=>∃s,e=.returned (.tuple #[nodeV pb lc s,.nilIface])/\OwnE W w' s be/\PgT w' PB DB M c1 sv t d/\PgF PB DB M M W w')
  (hjoin:be≠[]->∀(a0 W:World) s sb,PgT W PB DB M c1 sv t d->TreeAt W TP PB root->OwnE a0 W s l->a0.heap.size<=W.heap.size->(PB<a0.heap.size/\DB<a0.heap.size/\M<a0.heap.size/\TP<a0.heap.size)->IsE W sb be->
   Calls Tryz.prog 256 #[.pointer (some ⟨TP,0,none⟩),nodeV p false s,.int .i64 (K:Int),nodeV pb lc sb] W fun e w'=>∃s',e=.returned (.tuple #[nodeV p false s',.nilIface])/\OwnE a0 w' s' R/\PgT w' PB DB M C2 sv t d/\(∀b,s'.ownBlock=some b->s.ownBlock=some b\/W.heap.size<=b)/\GrX (fun b=>b=PB\/b=DB\/b=M\/s.ownBlock=some b) W w')
  (hfree:be=[]->InU c1 pb/\C2=c1.free (pb:Nat)/\R=l.eraseIdx K) (hR:(∀e∈R,e.ok false)/\bytesE false R<=1024) (hp2:InU C2 p) (hbl:be.length<=1000):
  Calls Tryz.prog 203 #[.pointer (some ⟨TP,0,none⟩),.int .i64 (p:Int),.string key] w fun e w'=>∃s,e=.returned (.tuple #[nodeV p false s,.nilIface])/\OwnE w w' s R/\PgT w' PB DB M (C2.write (p:Nat) (pageE false R)) sv t d/\PgF PB DB M M w w':=by
 have hrd:=fun W (g:Gr w W)=>read_n (h.gr g).s (ht.gr g) hp hok hb
 have HRD:=Lib.hid hrd
 clear hrd
 have HSUB:=Lib.hid hsub
 have HJ:=Lib.hid hjoin
 have HFREE:=Lib.hid hfree
 clear hsub hjoin hfree
 have hg0:Gr w (w.alloc (.cells #[.int .i64 0,.bool false,.slice none 0 0] 200)):=(Gr.refl w).alloc _
 have r0:(w.alloc (.cells #[.int .i64 0,.bool false,.slice none 0 0] 200)).cell? ⟨w.heap.size,0,none⟩=some (.int .i64 0):=by rw[World.cell?_alloc_new];rfl
 have r1:(w.alloc (.cells #[.int .i64 0,.bool false,.slice none 0 0] 200)).cell? ⟨w.heap.size,1,none⟩=some (.bool false):=by rw[World.cell?_alloc_new];rfl
 have r2:(w.alloc (.cells #[.int .i64 0,.bool false,.slice none 0 0] 200)).cell? ⟨w.heap.size,2,none⟩=some (.slice none 0 0):=by rw[World.cell?_alloc_new];rfl
 have rf:∀o,(w.alloc (.cells #[.int .i64 0,.bool false,.slice none 0 0] 200)).frozen? ⟨w.heap.size,o,none⟩=false:=fun o=>by simp
 have hl:l.length<=600:=by
  have:=sumE_len false l
  unfold bytesE at hb
  omega
 have hkl:(keysE l).length=l.length:=by unfold keysE;rw[List.length_map]
 obtain⟨CW,hCW⟩:∃CW,C2.write (p:Nat) (pageE false R)=CW:=⟨_,rfl⟩
 rw[hCW]
 have HCW:=Lib.hid hCW
 clear hCW
 go_enter Tryz.func203,Tryz.ntmps203
 go_wp2_with fail
 have hRW:Hid (w.heap.size<(w.alloc (.cells #[.int .i64 0,.bool false,.slice none 0 0] 200)).heap.size):=Lib.hid (by simp)
 have hrd:=HRD.out _ hg0
 have HG0:=Lib.hid hg0
 obtain⟨WB,hWB⟩:∃WB,w.alloc (.cells #[.int .i64 0,.bool false,.slice none 0 0] 200)=WB:=⟨_,rfl⟩
 rw[hWB]at hrd r0 r1 r2 rf HG0 hRW⊢
 clear hWB hg0
 obtain⟨RB,hRB⟩:∃RB,w.heap.size=RB:=⟨_,rfl⟩
 have HRB:=Lib.hid hRB
 rw[hRB]at r0 r1 r2 rf hRW⊢
 refine hrd.mono ?_
 rintro e w1 ⟨s',rfl,ho1,hg1⟩
 obtain⟨ao,ca,rfl⟩:=ho1.form
 have hfn:=fun W (g:Gr w1 W)=>find_n p false l (.slice ao l.length ca) key W (ho1.isE.gr g) (by omega)
 simp only[Bool.false_eq_true,if_false]at hfn
 have hga:Gr w1 (w1.alloc (.cells #[.int .i64 (p:Int),.bool false,.slice ao l.length ca] 200)):=(Gr.refl w1).alloc _
 unfold nodeV at*
 have HFN:=Lib.hid hfn
 have hg2:=hg1.trans hga
 have r0:=hg2.keeps r0
 have r1:=hg2.keeps r1
 have r2:=hg2.keeps r2
 have k0:(w1.alloc (.cells #[.int .i64 (p:Int),.bool false,.slice ao l.length ca] 200)).cell? ⟨w1.heap.size,0,none⟩=some (.int .i64 (p:Int)):=by rw[World.cell?_alloc_new];rfl
 have k1:(w1.alloc (.cells #[.int .i64 (p:Int),.bool false,.slice ao l.length ca] 200)).cell? ⟨w1.heap.size,1,none⟩=some (.bool false):=by rw[World.cell?_alloc_new];rfl
 have k2:(w1.alloc (.cells #[.int .i64 (p:Int),.bool false,.slice ao l.length ca] 200)).cell? ⟨w1.heap.size,2,none⟩=some (.slice ao l.length ca):=by rw[World.cell?_alloc_new];rfl
 have kf:∀o,(w1.alloc (.cells #[.int .i64 (p:Int),.bool false,.slice ao l.length ca] 200)).frozen? ⟨w1.heap.size,o,none⟩=false:=fun o=>by simp
 clear hrd hfn
 go_wp2_with fail
 obtain⟨NB,hNB⟩:∃NB,w1.heap.size=NB:=⟨_,rfl⟩
 rw[hNB]at k0 k1 k2 kf⊢
 rw[hK]at HFN
 generalize hitE (keysE l) key=hit at*
 rcases ho1.at' with⟨_,e2⟩|⟨B,cap,e3,h2,h3,h4,h5,h6⟩
 ·rw[e2]at hlt
  exact absurd hlt (by simp)
 obtain⟨rfl,rfl⟩:ao=some ⟨B,0,none⟩/\ca=cap:=by
  injection e3 with e1 e2 e3
  exact⟨e1,e3⟩
 refine(HFN.out _ hga).mono ?_
 rintro e w2 ⟨rfl,hg3⟩
 have r0:=hg3.keeps r0
 have r1:=hg3.keeps r1
 have r2:=hg3.keeps r2
 have k0:=hg3.keeps k0
 have k1:=hg3.keeps k1
 have k2:=hg3.keeps k2
 have ho2:=ho1.gr (hga.trans hg3)
 have hg4:=hg2.trans hg3
 have hKl:(K:Int)<(l.length:Int):=by omega
 obtain⟨_,_,b2⟩:=(h5.gr (hga.trans hg3)) K hlt
 rw[Nat.zero_add]at b2
 have hgw:=HG0.out.trans hg4
 have hsub:=HSUB.out _ hgw
 generalize(l[K].page:Int)=pgi at*
 have HSB:=Lib.hid hsub
 have HRK:=Lib.hid hK
 clear hsub hK
 have hNB2:NB<w2.heap.size:=lt_of_cell k0
 have hRB2:RB<w2.heap.size:=lt_of_cell r0
 have hlw:=h.lt
 have htl:=lt_of_cell ht.p
 have hNw:WB.heap.size<=NB:=by
  rw[<-hNB]
  exact hg1.size
 have hWw:RB<WB.heap.size:=hRW.out
 have hwW:=HG0.out.size
 rw[HRB.out]at hwW
 have hwr:=HRB.out
 have hNP:NB≠PB/\NB≠DB/\NB≠M/\NB≠TP/\NB≠RB:=by omega
 have hRP:RB≠PB/\RB≠DB/\RB≠M/\RB≠TP:=by omega
 have kfz:∀o,w2.frozen? ⟨NB,o,none⟩=false:=fun o=>(hg3.frozen o (by rw[<-hNB];simp)).trans (kf o)
 have rfz:∀o,w2.frozen? ⟨RB,o,none⟩=false:=fun o=>(hg4.frozen o hRW.out).trans (rf o)
 have HGW:=Lib.hid hgw
 have HO2:=Lib.hid ho2
 clear hgw ho2 hg4 hg3 hg2 hga hg1 kf rf hwr hwW
 go_wp2_with fail
 refine HSB.out.mono ?_
 rintro e w3 ⟨s3,rfl,ho3,hp3,hf3⟩
 obtain⟨a3,c3,rfl⟩:=ho3.form
 unfold nodeV at*
 replace r0:=hf3.keeps hRP.1 hRP.2.1 hRP.2.2.1 r0
 replace r1:=hf3.keeps hRP.1 hRP.2.1 hRP.2.2.1 r1
 replace r2:=hf3.keeps hRP.1 hRP.2.1 hRP.2.2.1 r2
 replace k0:=hf3.keeps hNP.1 hNP.2.1 hNP.2.2.1 k0
 replace k1:=hf3.keeps hNP.1 hNP.2.1 hNP.2.2.1 k1
 replace k2:=hf3.keeps hNP.1 hNP.2.1 hNP.2.2.1 k2
 replace kfz:∀o,w3.frozen? ⟨NB,o,none⟩=false:=fun o=>(hf3.2.frozen o hNB2 (fun e=>e.elim hNP.1 fun e=>e.elim hNP.2.1 hNP.2.2.1)).trans (kfz o)
 replace rfz:∀o,w3.frozen? ⟨RB,o,none⟩=false:=fun o=>(hf3.2.frozen o hRB2 (fun e=>e.elim hRP.1 fun e=>e.elim hRP.2.1 hRP.2.2.1)).trans (rfz o)
 have gZ:Gr w3 (w3.alloc (.cells #[.int .i64 (pb:Int),.bool lc,.slice a3 be.length c3] 200)):=(Gr.refl w3).alloc _
 have z0:(w3.alloc (.cells #[.int .i64 (pb:Int),.bool lc,.slice a3 be.length c3] 200)).cell? ⟨w3.heap.size,0,none⟩=some (.int .i64 (pb:Int)):=by rw[World.cell?_alloc_new];rfl
 have z1:(w3.alloc (.cells #[.int .i64 (pb:Int),.bool lc,.slice a3 be.length c3] 200)).cell? ⟨w3.heap.size,1,none⟩=some (.bool lc):=by rw[World.cell?_alloc_new];rfl
 have z2:(w3.alloc (.cells #[.int .i64 (pb:Int),.bool lc,.slice a3 be.length c3] 200)).cell? ⟨w3.heap.size,2,none⟩=some (.slice a3 be.length c3):=by rw[World.cell?_alloc_new];rfl
 have hNB3:NB<w3.heap.size:=lt_of_cell k0
 have hRB3:RB<w3.heap.size:=lt_of_cell r0
 replace r0:=gZ.keeps r0
 replace r1:=gZ.keeps r1
 replace r2:=gZ.keeps r2
 replace k0:=gZ.keeps k0
 replace k1:=gZ.keeps k1
 replace k2:=gZ.keeps k2
 replace kfz:∀o,(w3.alloc (.cells #[.int .i64 (pb:Int),.bool lc,.slice a3 be.length c3] 200)).frozen? ⟨NB,o,none⟩=false:=fun o=>(gZ.frozen o hNB3).trans (kfz o)
 replace rfz:∀o,(w3.alloc (.cells #[.int .i64 (pb:Int),.bool lc,.slice a3 be.length c3] 200)).frozen? ⟨RB,o,none⟩=false:=fun o=>(gZ.frozen o hRB3).trans (rfz o)
 have HP4:=Lib.hid (hp3.gr gZ)
 have HF4:=Lib.hid (((PgF.of_gr PB DB M HGW.out).trans hf3).trans (PgF.of_gr PB DB M gZ))
 have ht4:=((ht.gr HGW.out).pg hf3 hTn.1 hTn.2.1 hTn.2.2).gr gZ
 have hbig:PB<WB.heap.size/\DB<WB.heap.size/\M<WB.heap.size/\TP<WB.heap.size:=by
  have:=HRB.out
  omega
 have hB3:∀b,(Value.slice (some ⟨B,0,none⟩) l.length ca).ownBlock=some b->WB.heap.size<=b:=fun b hb=>ownBlock_ge HO2.out b hb
 have HO4:=Lib.hid ((HO2.out.keepX hf3.2 (fun b hb e=>by have:=hB3 b hb;omega)).gr gZ)
 have HBE:=Lib.hid (ho3.isE.gr gZ)
 have HB3:=Lib.hid hB3
 have hZN:NB≠w3.heap.size/\RB≠w3.heap.size/\PB≠w3.heap.size/\DB≠w3.heap.size/\M≠w3.heap.size:=by
  have:=hf3.size
  have:=HGW.out.size
  have:=hf3.2.2.2.2.1
  omega
 have tp:=ht4.p
 have HT4:=Lib.hid ht4
 have hNo:¬((Value.slice (some ⟨B,0,none⟩) l.length ca).ownBlock=some NB):=fun e=>by
  have:=ownBlock_lt ho1 _ e
  omega
 have hRo:¬((Value.slice (some ⟨B,0,none⟩) l.length ca).ownBlock=some RB):=fun e=>by
  have:=HB3.out _ e
  omega
 have hwW4:WB.heap.size<=(w3.alloc (.cells #[.int .i64 (pb:Int),.bool lc,.slice a3 be.length c3] 200)).heap.size:=Nat.le_trans (Nat.le_of_lt (Nat.lt_of_le_of_lt hNw hNB3)) gZ.size
 clear ht4 hB3 hp3 hf3 ho3 gZ b2
 go_upto_if 66 with(fail)
 obtain⟨ZB,hZB⟩:∃ZB,w3.heap.size=ZB:=⟨_,rfl⟩
 rw[hZB]at z0 z1 z2 hZN⊢
 clear hZB
 generalize w3.alloc (.cells #[.int .i64 (pb:Int),.bool lc,.slice a3 be.length c3] 200)=W4 at*
 go_cut [9] (fun s9 wx=>s9=.nilIface/\∃aR cR,(wx.cell? ⟨NB,0,none⟩=some (.int .i64 (p:Int))/\wx.cell? ⟨NB,1,none⟩=some (.bool false)/\wx.cell? ⟨NB,2,none⟩=some (.slice aR R.length cR))/\(wx.cell? ⟨RB,0,none⟩=some (.int .i64 0)/\wx.cell? ⟨RB,1,none⟩=some (.bool false)/\wx.cell? ⟨RB,2,none⟩=some (.slice none 0 0)/\∀o,wx.frozen? ⟨RB,o,none⟩=false)/\(OwnE WB wx (.slice aR R.length cR) R/\∀b,(Value.slice aR R.length cR).ownBlock=some b->¬b=NB/\¬b=RB)/\PgT wx PB DB M C2 sv t d/\TreeAt wx TP PB root/\PgF PB DB M M w wx)
 case first=>
  by_cases hbe:be=[]
  ·have hbz:(be.length:Int)=0:=by rw[hbe];rfl
   obtain⟨hu,hC,hRR⟩:=HFREE.out hbe
   have hfr:=fun W (g:Gr W4 W)=>free_t (HP4.out.gr g) hu
   rw[<-hC]at hfr
   have HFR:=Lib.hid hfr
   have HRR:=Lib.hid hRR
   have hwr:IntKind.i64.wrap ((K:Int)+1)=(K:Int)+1:=IntWalk.i64_in _ (by omega)
   clear hfr hRR hC
   go_wp2_with fail
   go_region_with(go_at_call 204;refine(HFR.out _ ?_).mono ?_;(with_reducible exact(Gr.refl _).drew);rintro e w5 ⟨rfl,hp5,hf5⟩)
   all_goals
    have hf5':=(PgF.of_gr PB DB M (Gr.refl W4).drew).trans hf5
    have hN4:=lt_of_cell k0
    have hR4:=lt_of_cell r0
    have q0:=hf5'.keeps hNP.1 hNP.2.1 hNP.2.2.1 k0
    have q1:=hf5'.keeps hNP.1 hNP.2.1 hNP.2.2.1 k1
    have q2:=hf5'.keeps hNP.1 hNP.2.1 hNP.2.2.1 k2
    have p0:=hf5'.keeps hRP.1 hRP.2.1 hRP.2.2.1 r0
    have p1:=hf5'.keeps hRP.1 hRP.2.1 hRP.2.2.1 r1
    have p2:=hf5'.keeps hRP.1 hRP.2.1 hRP.2.2.1 r2
    have qz:w5.frozen? ⟨NB,2,none⟩=false:=(hf5'.2.frozen 2 hN4 (fun e=>e.elim hNP.1 fun e=>e.elim hNP.2.1 hNP.2.2.1)).trans (kfz 2)
    have pz:∀o,w5.frozen? ⟨RB,o,none⟩=false:=fun o=>(hf5'.2.frozen o hR4 (fun e=>e.elim hRP.1 fun e=>e.elim hRP.2.1 hRP.2.2.1)).trans (rfz o)
    have PZ:=Lib.hid pz
    have ho5:=HO4.out.keepX hf5'.2 (fun b hb e=>by have:=HB3.out b hb;omega)
    have hdl:=delete_o WB w5 _ l K ho5 hlt (Nat.le_trans hwW4 hf5'.size) (by omega)
    rw[<-HRR.out]at hdl
    have HDL:=Lib.hid hdl
    have HP5:=Lib.hid hp5
    have HF5:=Lib.hid hf5'
    have hN5:=lt_of_cell q0
    have hR5:=lt_of_cell p0
    clear hdl hp5 hf5 hf5' ho5 pz
    go_wp2_with(refine HDL.out.mono ?_;rintro e w6 ⟨v6,rfl,ho6,hx6,hob6⟩;obtain⟨a6,c6,rfl⟩:=ho6.form;(have q0:=hx6.keeps hNo q0);(have q1:=hx6.keeps hNo q1);(have q2:=hx6.keeps hNo q2);(have qz:=(hx6.frozen 2 hN5 hNo).trans qz))
    have gS:GrX (fun b=>b=NB) w6 (w6.setCell ⟨NB,2,none⟩ (.slice a6 R.length c6)):=GrX.setCell (S:=fun b=>b=NB) (p:=⟨NB,2,none⟩) w6 _ rfl
    have hR6:RB<w6.heap.size:=Nat.lt_of_lt_of_le hR5 hx6.2.2.2.1
    go_meet
    refine⟨rfl,a6,c6,⟨?_,?_,World.cell?_setCell_same _ _ _ q2⟩,⟨gS.keeps hNP.2.2.2.2.symm (hx6.keeps hRo p0),gS.keeps hNP.2.2.2.2.symm (hx6.keeps hRo p1),gS.keeps hNP.2.2.2.2.symm (hx6.keeps hRo p2),fun o=>?_⟩,⟨ho6.keepX gS ?_,?_⟩,?_,?_,?_⟩
    ·rw[World.cell?_setCell_other _ _ _ _ (by simp)]
     exact q0
    ·rw[World.cell?_setCell_other _ _ _ _ (by simp)]
     exact q1
    ·rw[gS.frozen o hR6 hNP.2.2.2.2.symm,hx6.frozen o hR5 hRo]
     exact PZ.out o
    ·exact fun b hb e=>hNo (by rw[<-hob6,hb,e])
    ·exact fun b hb=>⟨fun e=>hNo (by rw[<-hob6,hb,e]),fun e=>hRo (by rw[<-hob6,hb,e])⟩
    ·exact(HP5.out.keepX hx6 (fun e=>by have:=HB3.out _ e;omega) (fun e=>by have:=HB3.out _ e;omega) (fun e=>by have:=HB3.out _ e;omega)).keepX gS (fun e=>hNP.1 e.symm) (fun e=>hNP.2.1 e.symm) (fun e=>hNP.2.2.1 e.symm)
    ·exact((HT4.out.pg HF5.out hTn.1 hTn.2.1 hTn.2.2).keepX hx6 (fun e=>by have:=HB3.out _ e;omega)).keepX gS (fun e=>hNP.2.2.2.1 e.symm)
    ·exact((HF4.out.trans HF5.out).own hx6 (fun j e=>by have:=HB3.out _ e;have:=HG0.out.size;omega)).own gS (fun j e=>by have:=HRB.out;omega)
  ·have hbz:¬(be.length:Int)=0:=fun e=>hbe (List.eq_nil_of_length_eq_zero (by omega))
   have hj:=HJ.out hbe WB W4 _ _ HP4.out HT4.out HO4.out hwW4 hbig HBE.out
   unfold nodeV at hj
   have HJN:=Lib.hid hj
   clear hj
   go_wp2_with fail
   refine HJN.out.mono ?_
   rintro e w5 ⟨s5,rfl,ho5,hp5,hs5,hx5⟩
   obtain⟨a5,c5,rfl⟩:=ho5.form
   have hN4:=lt_of_cell k0
   have hR4:=lt_of_cell r0
   have hxN:¬(NB=PB\/NB=DB\/NB=M\/(Value.slice (some ⟨B,0,none⟩) l.length ca).ownBlock=some NB):=fun e=>e.elim hNP.1 fun e=>e.elim hNP.2.1 fun e=>e.elim hNP.2.2.1 hNo
   have hxR:¬(RB=PB\/RB=DB\/RB=M\/(Value.slice (some ⟨B,0,none⟩) l.length ca).ownBlock=some RB):=fun e=>e.elim hRP.1 fun e=>e.elim hRP.2.1 fun e=>e.elim hRP.2.2.1 hRo
   have q0:=hx5.keeps hxN k0
   have q1:=hx5.keeps hxN k1
   have q2:=hx5.keeps hxN k2
   have qz:∀o,w5.frozen? ⟨NB,o,none⟩=false:=fun o=>(hx5.frozen o hN4 hxN).trans (kfz o)
   have qz0:=qz 0
   have qz1:=qz 1
   have qz2:=qz 2
   have PZ:Hid (∀o,w5.frozen? ⟨RB,o,none⟩=false):=Lib.hid fun o=>(hx5.frozen o hR4 hxR).trans (rfz o)
   have PR:=Lib.hid (And.intro (hx5.keeps hxR r0) (And.intro (hx5.keeps hxR r1) (hx5.keeps hxR r2)))
   have y:=Lib.hid (three_set (v0:=.int .i64 (p:Int)) (v1:=.bool false) (v2:=.slice a5 R.length c5) q0 q1 q2)
   have g3:=Lib.hid (three_gr w5 NB (.int .i64 (p:Int)) (.bool false) (.slice a5 R.length c5))
   have HX5:=Lib.hid hx5
   have HO5:=Lib.hid ho5
   have HP5:=Lib.hid hp5
   have HS5:=Lib.hid hs5
   clear hx5 ho5 hp5 hs5 hxN hxR qz
   go_wp2_with fail
   obtain⟨y0,y1,y2⟩:=y.out
   have g3:=g3.out
   have hRN:¬RB=NB:=fun e=>hNP.2.2.2.2 e.symm
   have hR5:=lt_of_cell PR.out.1
   have hoN:∀b,(Value.slice a5 R.length c5).ownBlock=some b->¬b=NB/\¬b=RB:=fun b hb=>by
    rcases HS5.out b hb with e|e
    ·exact⟨fun e1=>hNo (by rw[e,e1]),fun e1=>hRo (by rw[e,e1])⟩
    ·omega
   generalize((w5.setCell ⟨NB,0,none⟩ (.int .i64 (p:Int))).setCell ⟨NB,1,none⟩ (.bool false)).setCell ⟨NB,2,none⟩ (.slice a5 R.length c5)=w9 at*
   go_meet
   refine⟨rfl,a5,c5,⟨y0,y1,y2⟩,⟨g3.keeps hRN PR.out.1,g3.keeps hRN PR.out.2.1,g3.keeps hRN PR.out.2.2,fun o=>(g3.frozen o hR5 hRN).trans (PZ.out o)⟩,⟨HO5.out.keepX g3 (fun b hb=>(hoN b hb).1),hoN⟩,?_,?_,?_⟩
   ·exact HP5.out.keepX g3 (fun e=>hNP.1 e.symm) (fun e=>hNP.2.1 e.symm) (fun e=>hNP.2.2.1 e.symm)
   ·exact(HT4.out.keepX HX5.out (fun e=>e.elim hTn.1 fun e=>e.elim hTn.2.1 fun e=>e.elim hTn.2.2 fun e=>by have:=HB3.out _ e;omega)).keepX g3 (fun e=>hNP.2.2.2.1 e.symm)
   ·exact(pgF_own HF4.out HX5.out (fun j e=>by have:=HB3.out _ e;have:=HG0.out.size;omega)).own g3 (fun j e=>by have:=HRB.out;omega)
 case rest=>
  obtain⟨rfl,aR,cR,⟨q0,q1,q2⟩,⟨p0,p1,p2,pz⟩,⟨ho6,hoN⟩,hp6,ht6,hF6⟩:=hcut
  have hRw4:RB<wc.heap.size:=lt_of_cell p0
  have hwr:=fun W (g:Gr wc W)=>write_n (hp6.gr g) (ht6.gr g) (ho6.isE.gr g) hR.1 hR.2 hp2
  simp only[HCW.out]at hwr
  have tp6:=ht6.p
  have HWR:=Lib.hid hwr
  have HF6:=Lib.hid hF6
  have HO6:=Lib.hid (ho6.back HG0.out)
  have HB6:Hid (∀b,(Value.slice aR R.length cR).ownBlock=some b->WB.heap.size<=b):=Lib.hid fun b hb=>ownBlock_ge ho6 b hb
  have HON:=Lib.hid hoN
  unfold nodeV at HWR
  have hRf:∀(w5:World) (o:Nat),PgF PB DB M M wc w5->w5.frozen? ⟨RB,o,none⟩=false:=fun w5 o f5=>(f5.2.frozen o hRw4 (fun e=>e.elim hRP.1 fun e=>e.elim hRP.2.1 hRP.2.2.1)).trans (pz o)
  have HRF:=Lib.hid hRf
  clear hwr hF6 hp6 ho6 ht6 hRf hoN r0 r1 r2 k0 k1 k2 kfz rfz z0 z1 z2 tp pz
  go_wp2_with fail
  go_region_with(go_at_call 200;refine(HWR.out _ ?_).mono ?_;(with_reducible exact(Gr.refl _).drew);rintro e w5 ⟨rfl,hp5,hf5⟩;(have hf5':=(PgF.of_gr PB DB M (Gr.refl wc).drew).trans hf5);(have p0:=hf5'.keeps hRP.1 hRP.2.1 hRP.2.2.1 p0);(have p1:=hf5'.keeps hRP.1 hRP.2.1 hRP.2.2.1 p1);(have p2:=hf5'.keeps hRP.1 hRP.2.1 hRP.2.2.1 p2);(have x0:=HRF.out _ 0 hf5');(have x1:=HRF.out _ 1 hf5');(have x2:=HRF.out _ 2 hf5');(have q0:=hf5'.keeps hNP.1 hNP.2.1 hNP.2.2.1 q0);(have q1:=hf5'.keeps hNP.1 hNP.2.1 hNP.2.2.1 q1);(have q2:=hf5'.keeps hNP.1 hNP.2.1 hNP.2.2.1 q2))
  all_goals
   have y:=Lib.hid (three_set (v0:=.int .i64 (p:Int)) (v1:=.bool false) (v2:=.slice aR R.length cR) p0 p1 p2)
   have tn:=Lib.hid (tell_node (RB:=RB) (Nat.le_of_eq HRB.out) (HF6.out.trans hf5') hp5 (HO6.out.keepX hf5'.2 (fun b hb e=>by have:=HB6.out b hb;omega)) (fun b hb=>(HON.out b hb).2) hlw (.int .i64 (p:Int)) (.bool false) (.slice aR R.length cR))
   go_wp2_with fail
   obtain⟨y0,y1,y2⟩:=y.out
   have tn1:=tn.out
   generalize(((w5.setCell ⟨RB,0,none⟩ (.int .i64 (p:Int))).setCell ⟨RB,1,none⟩ (.bool false)).setCell ⟨RB,2,none⟩ (.slice aR R.length cR))=w9 at*
   refine bodyPost_ret (v:=.tuple #[.agg #[.int .i64 (p:Int),.bool false,.slice aR R.length cR],.nilIface]) (by simp[results,Tryz.results203,go_sem,y0,y1,y2]) rfl ⟨_,rfl,tn1.1,tn1.2.1,tn1.2.2⟩
end
theorem drop_kids{pg:Nat->ByteArray}{d:Nat}{c:Ch}{p:Nat}{l:List (ByteArray×T d)}(hl:T.lays (d:=d+1) c pg (p,l))(ho:T.okT (d:=d+1) (p,l))(hn:(p::l.flatMap fun y=>y.2.pages).Nodup){K:Nat}{x:ByteArray×T d}(hx:l[K]?=some x){c1:Ch}{u:T d}(ih:DropOk pg c x.2 (c1,u))(hu:u.ents≠[]):Kids pg c1 p (l.set K (x.1,u)):=by
 obtain⟨l1,l2,hle,hk1⟩:=at_split hx
 have hxm:x∈l:=by rw[hle];simp
 have hpn:=hn
 rw[hle,List.flatMap_append,List.flatMap_cons]at hpn
 obtain⟨n1,n2⟩:=List.nodup_cons.1 hpn
 obtain⟨n3,n4,n5⟩:=List.nodup_append.1 n2
 obtain⟨n6,n7,n8⟩:=List.nodup_append.1 n4
 have hlx:∀y∈l,y.2.lays c pg:=hl.2
 have hox:∀y∈l,y.2.okT:=ho.2
 have hokn:OkN false (l.map enN):=ho.1
 have hoth:∀y,y∈l1\/y∈l2->y∈l/\∀k∈y.2.pages,k∉x.2.pages:=fun y hy=>by
  rcases hy with hy|hy
  ·refine⟨by rw[hle];exact List.mem_append_left _ hy,fun k h1 h2=>n5 k (List.mem_flatMap.2 ⟨y,hy,h1⟩) k (List.mem_append_left _ h2) rfl⟩
  ·refine⟨by rw[hle];exact List.mem_append_right _ (List.mem_cons_of_mem _ hy),fun k h1 h2=>n8 k h2 k (List.mem_flatMap.2 ⟨y,hy,h1⟩) rfl⟩
 have hfr:Fr pg x.2.pages c c1:=ih.fr
 have hpg:u.pg=x.2.pg:=ih.page
 have hlu:u.lays c1 pg:=ih.lays
 have hou:u.okT:=ih.fits hu
 have hsu:∀k∈u.pages,k∈x.2.pages:=ih.sub
 have hnu:u.pages.Nodup:=ih.nd
 have hset:l.set K (x.1,u)=l1++(x.1,u)::l2:=by rw[<-hk1,hle,set_mid]
 have hmap:(l1++(x.1,u)::l2).map enN=l.map enN:=by
  rw[hle]
  simp only[List.map_append,List.map_cons]
  have:enN (x.1,u)=enN x:=by
   unfold enN
   rw[hpg]
  rw[this]
 have hlo:∀y,y∈l1\/y∈l2->y.2.lays c1 pg/\y.2.okT:=fun y hy=>⟨T.lays_fr hfr (hlx y (hoth y hy).1) (hoth y hy).2,hox y (hoth y hy).1⟩
 rw[hset]
 refine⟨fun y hy=>?_,fun y hy=>?_,by rw[hmap];exact hokn.2.2,by rw[hmap];exact hokn.2.1,?_⟩
 ·rcases List.mem_append.1 hy with h|h
  ·exact(hlo y (.inl h)).1
  rcases List.mem_cons.1 h with e|h
  ·rw[e];exact hlu
  ·exact(hlo y (.inr h)).1
 ·rcases List.mem_append.1 hy with h|h
  ·exact(hlo y (.inl h)).2
  rcases List.mem_cons.1 h with e|h
  ·rw[e];exact hou
  ·exact(hlo y (.inr h)).2
 ·rw[List.flatMap_append,List.flatMap_cons]
  exact mid_nodup (U:=fun _=>True) hpn hnu (fun k hk=>.inl (hsu k hk)) (fun _ _=>trivial)
theorem map_eraseIdx'{α β:Type}(f:α->β):∀(l:List α) (i:Nat),(l.eraseIdx i).map f=(l.map f).eraseIdx i
 |[],_=>by simp
 |_::_,0=>rfl
 |a::l,i+1=>by
  show f a::((l.eraseIdx i).map f)=f a::((l.map f).eraseIdx i)
  rw[map_eraseIdx' f l i]
theorem write_used(c:Ch)(k:Int)(s:ByteArray):(c.write k s).h=c.h:=by
 unfold Ch.write
 split<;>rfl
section
variable{PB DB M:Nat}{sv:Head}{t:Int}{dk:Dk}
theorem drop_t{TP root:Nat}(hTn:TP≠PB/\TP≠DB/\TP≠M)(key:ByteArray):∀{n:Nat} {c:Ch} {x:T n} {w:World},PgT w PB DB M c sv t dk->TreeAt w TP PB root->x.lays c dk.pg->x.okT->x.pages.Nodup->getT key x≠none->
  Calls Tryz.prog 203 #[.pointer (some ⟨TP,0,none⟩),.int .i64 (x.pg:Int),.string key] w fun e w'=>∃s,e=.returned (.tuple #[nodeV x.pg (isLeaf n) s,.nilIface])/\OwnE w w' s (dropT c x key).2.ents/\PgT w' PB DB M (dropT c x key).1 sv t dk/\PgF PB DB M M w w'
 |0,c,x,w,h,ht,hl,ho,hn,hg=>by
  obtain⟨p,l⟩:Nat×List (ByteArray×ByteArray):=x
  have hh:hitE (keysE (l.map enL)) key=true:=by
   rw[keysE_L]
   cases hc:hitE (l.map Prod.fst) key with
   |true=>rfl
   |false=>
    refine absurd ?_ hg
    show(if hitE (l.map Prod.fst) key then(l[searchE (l.map Prod.fst) key]?).map Prod.snd else none)=none
    rw[hc]
    rfl
  have hp:=drop_leaf h ht hTn (p:=p) (l:=l.map enL) hl ho.2.2 ho.2.1 key hh
  rw[keysE_L,<-map_eraseIdx']at hp
  exact hp
 |n+1,c,t0,w,h,ht,hl,ho,hn,hg=>by
  obtain⟨p,l⟩:Nat×List (ByteArray×T n):=t0
  have hne:l.map Prod.fst≠[]:=fun e=>ho.1.1 (by
   have:l=[]:=List.map_eq_nil_iff.1 e
   show l.map enN=[]
   rw[this]
   rfl)
  have hdl:=downE_lt hne key
  rw[List.length_map]at hdl
  obtain⟨K,hK⟩:∃K,downE (l.map Prod.fst) key=K:=⟨_,rfl⟩
  rw[hK]at hdl
  obtain⟨x,hx⟩:∃x,l[K]?=some x:=⟨_,List.getElem?_eq_getElem hdl⟩
  have hxe:l[K]=x:=by
   rw[List.getElem?_eq_getElem hdl]at hx
   exact Option.some.inj hx
  have hxm:x∈l:=List.mem_of_getElem? hx
  have hnd:(p::l.flatMap fun y=>y.2.pages).Nodup:=hn
  obtain⟨n1,n2⟩:=List.nodup_cons.1 hnd
  have hlx:x.2.lays c dk.pg:=hl.2 x hxm
  have hox:x.2.okT:=ho.2 x hxm
  have hnx:x.2.pages.Nodup:=by
   obtain⟨l1,l2,hle,_⟩:=at_split hx
   rw[hle,List.flatMap_append,List.flatMap_cons]at n2
   exact(List.nodup_append.1 (List.nodup_append.1 n2).2.1).1
  have hgx:getT key x.2≠none:=by
   have e:getT key (d:=n+1) (p,l)=(l[downE (l.map Prod.fst) key]?).bind fun x=>getT key x.2:=rfl
   rw[e,hK,hx]at hg
   exact hg
  have ih:=dropT_ok (pg:=dk.pg) (key:=key) h.f hlx hox hnx
  have iw:=fun W (g:Gr w W)=>drop_t hTn key (h.gr g) (ht.gr g) hlx hox hnx hgx
  have hall:=dropT_ok (pg:=dk.pg) (key:=key) h.f hl ho hn
  rcases hr:dropT c x.2 key with⟨c1,u⟩
  rw[hr]at ih iw
  have hpg:u.pg=x.2.pg:=ih.page
  have hmap:(l.set K (x.1,u)).map enN=l.map enN:=by
   rw[List.map_set]
   have h1:enN (x.1,u)=enN x:=by
    unfold enN
    rw[hpg]
   have hpe:(l.map enN)[K]'(by rw[List.length_map];exact hdl)=enN x:=by rw[List.getElem_map,hxe]
   rw[h1,<-hpe,List.set_getElem_self]
  obtain⟨s,hs⟩:∃s:Ch×List (ByteArray×T n),(if u.ents.isEmpty then(c1.free (u.pg:Nat),(l.set K (x.1,u)).eraseIdx K)else joinT c1 (l.set K (x.1,u)) K u)=s:=⟨_,rfl⟩
  have e0:dropT (d:=n+1) c (p,l) key=(s.1.write (p:Nat) (pageE false (s.2.map enN)),(p,s.2)):=by
   refine(dropT.eq_2 c key n ((p,l):Nat×List (ByteArray×T n))).trans ?_
   simp only[hK,hx,hr,hs]
   rfl
  rw[e0]at hall
  rw[e0]
  have hlen:K<(l.map enN).length:=by rw[List.length_map];exact hdl
  have hpe:(l.map enN)[K]=enN x:=by rw[List.getElem_map,hxe]
  have hinS:InU s.1 p:=by
   have h1:HasN (s.1.write (p:Nat) (pageE false (s.2.map enN))) dk.pg false p (s.2.map enN):=hall.lays.1
   have h2:=h1.1
   rw[write_used]at h2
   exact h2
  have hRok:(∀e∈s.2.map enN,e.ok false)/\bytesE false (s.2.map enN)<=1024:=by
   cases hse:s.2 with
   |nil=>exact⟨(fun e he=>by cases he),bytes_nil false⟩
   |cons a r=>
    have h1:OkN false (s.2.map enN):=(hall.fits (fun e=>by
     have h2:s.2.map enN=[]:=e
     rw[hse]at h2
     cases h2)).1
    rw[<-hse]
    exact⟨h1.2.2,h1.2.1⟩
  have hlu:u.lays c1 dk.pg:=ih.lays
  have hul:u.ents.length<=600:=by
   by_cases hem:u.ents=[]
   ·rw[hem];simp
   ·have hou:u.okT:=ih.fits hem
    have h1:=(T.okT_iff.1 hou).1.2.1
    have h2:=sumE_len (isLeaf n) u.ents
    unfold bytesE at h1
    omega
  have hnode:=drop_node h ht hTn (p:=p) (l:=l.map enN) hl.1 ho.1.2.2 ho.1.2.1 key (K:=K) (by rw[keysE_N];exact hK) hlen (c1:=c1) (C2:=s.1) (pb:=u.pg) (lc:=isLeaf n) (be:=u.ents) (R:=s.2.map enN) (by
   rw[hpe,hpg]
   exact iw) (fun hbe a0 W sa sb q1 q2 q3 q4 q5 q6=>by
   have hk:=drop_kids hl ho hnd hx ih hbe
   have hs2:s=joinT c1 (l.set K (x.1,u)) K u:=by
    rw[<-hs,if_neg]
    intro e
    exact hbe (List.isEmpty_iff.1 e)
   have hou:=ih.fits hbe
   by_cases hc:341<bytesE (isLeaf n) u.ents\/(l.set K (x.1,u)).length<2
   ·have e1:joinT c1 (l.set K (x.1,u)) K u=(c1,l.set K (x.1,u)):=by
     unfold joinT
     rw[if_pos hc]
    rw[hs2,e1,hmap]
    refine(join_stay (TP:=TP) (p:=p) q3 (k:=K) (pb:=u.pg) q6 (T.okT_iff.1 hou).1.2.2 hul (by rw[List.length_set]at hc;rw[List.length_map];exact hc)).mono ?_
    rintro e w' ⟨rfl,g⟩
    exact⟨_,rfl,q3.gr g,q1.gr g,fun b hb=>.inl hb,GrX.of_gr g⟩
   ·have hlen2:2<=l.length:=by
     rw[List.length_set]at hc
     omega
    have hll:(l.set K (x.1,u)).length=l.length:=List.length_set
    have hi0:K-1<(l.set K (x.1,u)).length:=by omega
    have hi1:K-1+1<(l.set K (x.1,u)).length:=by omega
    obtain⟨a,ha⟩:∃a,(l.set K (x.1,u))[K-1]?=some a:=⟨_,List.getElem?_eq_getElem hi0⟩
    obtain⟨b,hb⟩:∃b,(l.set K (x.1,u))[K-1+1]?=some b:=⟨_,List.getElem?_eq_getElem hi1⟩
    have ham:=List.mem_of_getElem? ha
    have hbm:=List.mem_of_getElem? hb
    have ham2:(l.map enN)[K-1]?=some (enN a):=by rw[<-hmap,List.getElem?_map,ha];rfl
    have hbm2:(l.map enN)[K-1+1]?=some (enN b):=by rw[<-hmap,List.getElem?_map,hb];rfl
    have hi0':K-1<(l.map enN).length:=by rw[List.length_map];omega
    have hi1':K-1+1<(l.map enN).length:=by rw[List.length_map];omega
    have hga:(l.map enN)[K-1]=enN a:=by
     rw[List.getElem?_eq_getElem hi0']at ham2
     exact Option.some.inj ham2
    have hgb:(l.map enN)[K-1+1]=enN b:=by
     rw[List.getElem?_eq_getElem hi1']at hbm2
     exact Option.some.inj hbm2
    have hna:=(T.lays_iff.1 (hk.lays a ham)).1
    have hnb:=(T.lays_iff.1 (hk.lays b hbm)).1
    have hoa:=(T.okT_iff.1 (hk.fits a ham)).1
    have hob:=(T.okT_iff.1 (hk.fits b hbm)).1
    have hkz:b.1.size<=60:=(hk.ents (enN b) (List.mem_map_of_mem hbm)).key
    have hpp:a.2.pg≠b.2.pg:=fun e=>by
     obtain⟨l1,l2,hle,_⟩:=two_at ha hb
     have hnd2:=hk.nd
     rw[hle,List.flatMap_append,List.flatMap_cons,List.flatMap_cons]at hnd2
     have h1:=(List.nodup_append.1 (List.nodup_cons.1 hnd2).2).2.1
     exact(List.nodup_append.1 h1).2.2 _ (T.pg_mem a.2) _ (List.mem_append_left _ (T.pg_mem b.2)) e
    have hlE:l.length<=600:=by
     have h1:=ho.1.2.1
     have h2:=sumE_len false (l.map enN)
     have h3:(l.map enN).length=l.length:=List.length_map _
     have h4:bytesE false (l.map enN)<=1024:=h1
     unfold bytesE at h4
     omega
    have hj:=join_go q1 q2 hTn (p:=p) (nl:=l.map enN) q3 q4 q5 (k:=K) (lc:=isLeaf n) (pb:=u.pg) (be:=u.ents) q6 (T.okT_iff.1 hou).1.2.2 hul (fun e=>hc (.inl e)) (i:=K-1) hi0' rfl (by omega) hi1' (by rw[List.length_map];omega) (pa:=a.2.pg) (pb2:=b.2.pg) (ea:=a.2.ents) (eb:=b.2.ents) (key:=b.1) (by rw[hga];rfl) (by rw[hgb];rfl) (by rw[hgb];rfl) hna ⟨hoa.2.2,hoa.2.1⟩ hnb ⟨hob.2.2,hob.2.1⟩ hob.1 hkz hpp
    have hje:joinE (isLeaf n) c1 (l.map enN) (K-1) a.2.pg b.2.pg a.2.ents b.2.ents b.1=(s.1,s.2.map enN):=by
     rw[hs2]
     by_cases hz:1024<bytesE (isLeaf n) (meetE (isLeaf n) a.2.ents b.1 b.2.ents)
     ·have e1:joinT c1 (l.set K (x.1,u)) K u=(c1,l.set K (x.1,u)):=by
       unfold joinT
       rw[if_neg hc,ha,hb]
       exact if_pos (by rw[meet_ents];exact hz)
      rw[e1,hmap]
      unfold joinE
      rw[if_pos hz]
     ·have e1:joinT c1 (l.set K (x.1,u)) K u=((c1.write (a.2.pg:Nat) (pageE (isLeaf n) (a.2.meet b.1 b.2).ents)).free (b.2.pg:Nat),((l.set K (x.1,u)).set (K-1) (a.1,a.2.meet b.1 b.2)).eraseIdx (K-1+1)):=by
       unfold joinT
       rw[if_neg hc,ha,hb]
       exact if_neg (by rw[meet_ents];exact hz)
      have e5:enN (a.1,a.2.meet b.1 b.2)=enN a:=by
       unfold enN
       rw[meet_pg]
      rw[e1,map_eraseIdx',List.map_set,hmap,e5,<-hga,List.set_getElem_self,meet_ents]
      unfold joinE
      rw[if_neg hz]
    rw[hje]at hj
    exact hj) (fun hbe=>by
   have hs2:s=(c1.free (u.pg:Nat),(l.set K (x.1,u)).eraseIdx K):=by
    rw[<-hs,if_pos]
    rw[hbe]
    rfl
   refine⟨T.lays_used hlu _ (T.pg_mem u),by rw[hs2],?_⟩
   rw[hs2,map_eraseIdx',hmap]) hRok hinS (by omega)
  exact hnode
end
