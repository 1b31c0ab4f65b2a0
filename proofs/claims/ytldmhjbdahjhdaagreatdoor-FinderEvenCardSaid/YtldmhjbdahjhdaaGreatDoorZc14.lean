/-
  Part 14 of the proof.
-/
import Derived.Test.YtldmhjbdahjhdaaGreatDoorZc13
set_option maxRecDepth 100000
set_option maxHeartbeats 100000000
set_option linter.all false
namespace Go.Proofs.YtldmhjbdahjhdaaGreatDoor
section
open Go Go.RowKit
section
variable{w:World}{PB DB M:Nat}{c:Ch}{sv:Head}{t:Int}{d:Dk}
theorem dropsT_cases{c:Ch}{i n:Nat}{x:T n}{key:ByteArray}{c1:Ch}{u:T n}(he:dropT c x key=(c1,u)):
  (u.ents=[]/\dropsT c i (some ⟨n,x⟩) key=((c1.free (x.pg:Nat)).root i 0,none))\/
  (isLeaf n=false/\(∃e,u.ents=[e]/\(dropsT c i (some ⟨n,x⟩) key).1=(c1.free (x.pg:Nat)).root i (e.page:Nat)))\/
  (u.ents≠[]/\(isLeaf n=true\/2<=u.ents.length)/\(dropsT c i (some ⟨n,x⟩) key).1=c1):=by
 cases n with
 |zero=>
  by_cases hem:u.ents=[]
  ·refine .inl ⟨hem,?_⟩
   unfold dropsT
   simp only[he,hem]
   rfl
  ·refine .inr (.inr ⟨hem,.inl rfl,?_⟩)
   unfold dropsT
   simp only[he]
   rw[if_neg]
   exact fun e=>hem (List.isEmpty_iff.1 e)
 |succ n=>
  by_cases hem:u.ents=[]
  ·refine .inl ⟨hem,?_⟩
   unfold dropsT
   simp only[he,hem]
   rfl
  ·have hne:¬u.ents.isEmpty=true:=fun e=>hem (List.isEmpty_iff.1 e)
   obtain⟨p,l⟩:Nat×List (ByteArray×T n):=u
   rcases l with _|⟨y,_|⟨z,r⟩⟩
   ·exact absurd rfl hem
   ·refine .inr (.inl ⟨rfl,enN y,rfl,?_⟩)
    unfold dropsT
    simp only[he]
    rw[if_neg hne]
    rfl
   ·refine .inr (.inr ⟨hem,.inr ?_,?_⟩)
    ·show 2<=(enN y::enN z::r.map enN).length
     simp
    ·unfold dropsT
     simp only[he]
     rw[if_neg hne]
theorem drops_n(h:PgT w PB DB M c sv t d){TP root:Nat}(ht:TreeAt w TP PB root)(hTn:TP≠PB/\TP≠DB/\TP≠M)(hr:root<8)(key:ByteArray){n:Nat}{x:T n}(hx:Tr.lays c d.pg root (some ⟨n,x⟩))(hg:getT key x≠none):
  Calls Tryz.prog 146 #[.pointer (some ⟨TP,0,none⟩),.string key] w fun e w'=>e=.returned .nilIface/\PgT w' PB DB M (dropsT c root (some ⟨n,x⟩) key).1 sv t d/\PgF PB DB M M w w':=by
 obtain⟨hrt,hl,ho,hn⟩:=hx
 have hus:=T.lays_used hl
 have hpos:=(hus _ (T.pg_mem x)).1
 have hlw:=h.lt
 have htl:=lt_of_cell ht.p
 have hst:=start_n h ht hr
 rw[hrt]at hst
 have hdt:=fun W (g:Gr w W)=>drop_t hTn key (h.gr g) (ht.gr g) hl ho hn hg
 have hdo:=dropT_ok (pg:=d.pg) (key:=key) h.f hl ho hn
 rcases hpe:dropT c x key with⟨c1,u⟩
 rw[hpe]at hdo
 simp only[hpe]at hdt
 have hcs:=dropsT_cases (i:=root) hpe
 have hpg:u.pg=x.pg:=hdo.page
 have hpu:InU c1 x.pg:=by
  rw[<-hpg]
  exact T.lays_used hdo.lays _ (T.pg_mem u)
 have hf1:c1.fine:=hdo.fr.fine
 obtain⟨DR,hDR⟩:∃DR,(dropsT c root (some ⟨n,x⟩) key).1=DR:=⟨_,rfl⟩
 rw[hDR]at hcs⊢
 have hcs2:(u.ents=[]/\DR=(c1.free (x.pg:Nat)).root root 0)\/(isLeaf n=false/\∃e,u.ents=[e]/\e.page<2000/\DR=(c1.free (x.pg:Nat)).root root (e.page:Nat))\/(u.ents≠[]/\(isLeaf n=true\/2<=u.ents.length)/\DR=c1):=by
  rcases hcs with⟨h1,h2⟩|⟨h1,e,h2,h3⟩|h3
  ·exact .inl ⟨h1,by rw[<-hDR,h2]⟩
  ·refine .inr (.inl ⟨h1,e,h2,?_,h3⟩)
   have hfi:u.okT:=hdo.fits (by show u.ents≠[];rw[h2];simp)
   exact((T.okT_iff.1 hfi).1.2.2 e (by rw[h2];simp)).page
  ·exact .inr (.inr h3)
 obtain⟨P0,hP0⟩:∃P0,x.pg=P0:=⟨_,rfl⟩
 obtain⟨lf,hlf⟩:∃lf,isLeaf n=lf:=⟨_,rfl⟩
 obtain⟨E,hE⟩:∃E,u.ents=E:=⟨_,rfl⟩
 simp only[hP0,hlf,hE]at hdt
 rw[hP0]at hst hpos hpu
 rw[hP0,hlf,hE]at hcs2
 have HST:=Lib.hid hst
 have HDT:=Lib.hid hdt
 have HCS:=Lib.hid hcs2
 have HPU:=Lib.hid hpu
 have HF1:=Lib.hid hf1
 have HT:=Lib.hid ht
 clear hst hdt hcs hcs2 hpu hf1 hdo hpe hpg hrt hl ho hn hus hP0 hlf hE hDR hg h ht
 go_enter Tryz.func146,Tryz.ntmps146
 go_wp2_with fail
 refine HST.out.mono ?_
 rintro e w1 ⟨rfl,hg1⟩
 have hd1:=HDT.out _ hg1
 unfold nodeV at hd1
 have HD1:=Lib.hid hd1
 have HG1:=Lib.hid hg1
 clear hd1 hg1
 go_wp2_with fail
 refine HD1.out.mono ?_
 rintro e w2 ⟨s2,rfl,ho2,hp2,hf2⟩
 obtain⟨a2,c2,rfl⟩:=ho2.form
 have gN:Gr w2 (w2.alloc (.cells #[.int .i64 (P0:Int),.bool lf,.slice a2 E.length c2] 200)):=(Gr.refl w2).alloc _
 have n1:(w2.alloc (.cells #[.int .i64 (P0:Int),.bool lf,.slice a2 E.length c2] 200)).cell? ⟨w2.heap.size,1,none⟩=some (.bool lf):=by rw[World.cell?_alloc_new];rfl
 have n2:(w2.alloc (.cells #[.int .i64 (P0:Int),.bool lf,.slice a2 E.length c2] 200)).cell? ⟨w2.heap.size,2,none⟩=some (.slice a2 E.length c2):=by rw[World.cell?_alloc_new];rfl
 have ht3:=((HT.out.gr HG1.out).pg hf2 hTn.1 hTn.2.1 hTn.2.2).gr gN
 have tp:=ht3.p
 have HP3:=Lib.hid (hp2.gr gN)
 have HT3:=Lib.hid ht3
 have HF3:=Lib.hid (((PgF.of_gr PB DB M HG1.out).trans hf2).trans (PgF.of_gr PB DB M gN))
 have HO3:=Lib.hid (ho2.gr gN)
 have hsz:=hf2.size
 have hsz1:=HG1.out.size
 clear hp2 hf2 ht3 gN ho2
 have hNB3:w2.heap.size<(w2.alloc (.cells #[.int .i64 (P0:Int),.bool lf,.slice a2 E.length c2] 200)).heap.size:=by simp
 go_upto_if 20 with(fail)
 obtain⟨NB,hNB⟩:∃NB,w2.heap.size=NB:=⟨_,rfl⟩
 rw[hNB]at n1 n2 hNB3 hsz⊢
 clear hNB
 generalize w2.alloc (.cells #[.int .i64 (P0:Int),.bool lf,.slice a2 E.length c2] 200)=w3 at*
 rcases HCS.out with⟨he,hdr⟩|⟨hlf,e,he,hep,hdr⟩|⟨he,hor,hdr⟩
 ·have hfr:=free_t HP3.out HPU.out
  have HFR:=Lib.hid hfr
  have HDR:=Lib.hid hdr
  have hl0:(E.length:Int)=0:=by rw[he];rfl
  clear hfr hdr he
  go_wp2_with fail
  refine HFR.out.mono ?_
  rintro e w4 ⟨rfl,hp4,hf4⟩
  have hst:=set_n hp4 (HT3.out.pg hf4 hTn.1 hTn.2.1 hTn.2.2) hTn hr (p:=0) (more:=0) (by omega) (by omega)
  rw[setS_zero (HF1.out.free_fine _) hr]at hst
  have HST4:=Lib.hid hst
  have HF4:=Lib.hid (HF3.out.trans hf4)
  clear hst hp4 hf4
  go_wp2_with fail
  refine HST4.out.mono ?_
  rintro e w5 ⟨rfl,hp5,hf5⟩
  have HX:=Lib.hid (And.intro hp5 (HF4.out.trans hf5))
  clear hp5 hf5
  have hev:errV 0=.nilIface:=rfl
  rw[hev]
  go_wp2_with fail
  go_ret
  exact⟨rfl,by rw[HDR.out];exact HX.out.1,HX.out.2⟩
 ·subst hlf
  have hl1:E.length=1:=by rw[he];rfl
  have hl1i:(E.length:Int)=1:=by omega
  rcases HO3.out.at' with⟨_,e2⟩|⟨B,cap,e3,h2,h3,h4,h5,h6⟩
  ·rw[e2]at hl1
   exact absurd hl1 (by simp)
  obtain⟨rfl,rfl⟩:a2=some ⟨B,0,none⟩/\c2=cap:=by
   injection e3 with e1 e2 e3
   exact⟨e1,e3⟩
  have hz:0<E.length:=by omega
  obtain⟨_,_,b2⟩:=h5 0 hz
  have hE0:E[0]=e:=by simp[he]
  rw[hE0]at b2
  simp only[Nat.zero_mul,Nat.zero_add]at b2
  have hfr:=free_t HP3.out HPU.out
  have HFR:=Lib.hid hfr
  have HDR:=Lib.hid hdr
  obtain⟨ep,hep2⟩:∃ep,(e.page:Int)=ep:=⟨_,rfl⟩
  rw[hep2]at b2
  have HEP:=Lib.hid hep2
  have hepi:0<=ep/\ep<2000:=by omega
  have hNP:NB≠PB/\NB≠DB/\NB≠M:=by omega
  have hBP:B≠PB/\B≠DB/\B≠M:=by omega
  clear hfr hdr he h5 h6 e3 hE0 hep2
  go_wp2_with fail
  refine HFR.out.mono ?_
  rintro e w4 ⟨rfl,hp4,hf4⟩
  replace n1:=hf4.keeps hNP.1 hNP.2.1 hNP.2.2 n1
  replace n2:=hf4.keeps hNP.1 hNP.2.1 hNP.2.2 n2
  replace b2:=hf4.keeps hBP.1 hBP.2.1 hBP.2.2 b2
  have hst:=set_n hp4 (HT3.out.pg hf4 hTn.1 hTn.2.1 hTn.2.2) hTn hr (p:=ep) (more:=0) hepi (by omega)
  rw[setS_zero (HF1.out.free_fine _) hr]at hst
  have HST4:=Lib.hid hst
  have HF4:=Lib.hid (HF3.out.trans hf4)
  have hzi:(0:Int)<(E.length:Int):=by omega
  clear hst hp4 hf4
  go_wp2_with fail
  refine HST4.out.mono ?_
  rintro e w5 ⟨rfl,hp5,hf5⟩
  have HX:=Lib.hid (And.intro hp5 (HF4.out.trans hf5))
  clear hp5 hf5
  have hev:errV 0=.nilIface:=rfl
  rw[hev]
  go_wp2_with fail
  go_ret
  exact⟨rfl,by rw[HDR.out,HEP.out];exact HX.out.1,HX.out.2⟩
 ·have hz:¬(E.length:Int)=0:=fun e=>he (List.eq_nil_of_length_eq_zero (by omega))
  have HX:=Lib.hid (And.intro HP3.out HF3.out)
  have HDR:=Lib.hid hdr
  clear he hdr
  rcases hor with rfl|h2
  ·go_wp2_with fail
   go_ret
   exact⟨rfl,by rw[HDR.out];exact HX.out.1,HX.out.2⟩
  ·have h1:¬(E.length:Int)=1:=by omega
   clear h2
   cases lf with
   |true=>
    go_wp2_with fail
    go_ret
    exact⟨rfl,by rw[HDR.out];exact HX.out.1,HX.out.2⟩
   |false=>
    go_wp2_with fail
    go_ret
    exact⟨rfl,by rw[HDR.out];exact HX.out.1,HX.out.2⟩
end
theorem getT_key{key:ByteArray}:∀{n:Nat} {x:T n},x.okT->getT key x≠none->key.size<=60
 |0,x,ho,h=>by
  obtain⟨p,l⟩:Nat×List (ByteArray×ByteArray):=x
  have h:(if hitE (l.map Prod.fst) key then(l[searchE (l.map Prod.fst) key]?).map Prod.snd else none)≠none:=h
  cases hh:hitE (l.map Prod.fst) key with
  |false=>
   rw[hh]at h
   exact absurd rfl h
  |true=>
   have hlt:=hitE_lt hh
   unfold hitE at hh
   rw[Bool.and_eq_true,decide_eq_true_eq,decide_eq_true_eq]at hh
   have h2:=hh.2
   rw[List.getD_eq_getElem?_getD,List.getElem?_eq_getElem hlt]at h2
   unfold cmpB at h2
   have h3:=(cmpB_zero _ _).1 h2
   have h4:(l.map Prod.fst)[searchE (l.map Prod.fst) key]=key:=bytes_ext h3
   have hm:=List.getElem_mem hlt
   rw[h4]at hm
   obtain⟨y,hy,hye⟩:=List.mem_map.1 hm
   have:=(ho.2.2 (enL y) (List.mem_map_of_mem hy)).key
   rw[<-hye]
   exact this
 |n+1,x,ho,h=>by
  obtain⟨p,l⟩:Nat×List (ByteArray×T n):=x
  have h:((l[downE (l.map Prod.fst) key]?).bind fun x=>getT key x.2)≠none:=h
  cases hx:l[downE (l.map Prod.fst) key]? with
  |none=>rw[hx]at h;exact absurd rfl h
  |some y=>
   rw[hx]at h
   exact getT_key (ho.2 y (List.mem_of_getElem? hx)) h
section
variable{w:World}{PB DB M:Nat}{c:Ch}{sv:Head}{t:Int}{d:Dk}
theorem drop_n(h:PgT w PB DB M c sv t d){TP root:Nat}(ht:TreeAt w TP PB root)(hTn:TP≠PB/\TP≠DB/\TP≠M)(hr:root<8)(key:ByteArray){tr:Tr}(hl:tr.lays c d.pg root):
  Calls Tryz.prog 93 #[.pointer (some ⟨TP,0,none⟩),.string key] w fun e w'=>e=.returned (errV (dropR c root tr key).2.2)/\PgT w' PB DB M (dropR c root tr key).1 sv t d/\PgF PB DB M M w w':=by
 obtain⟨PR,hPR⟩:∃PR,dropR c root tr key=PR:=⟨_,rfl⟩
 rw[hPR]
 have HPR:=Lib.hid hPR
 have tp:=ht.p
 have HH:=Lib.hid (And.intro h ht)
 have HL:=Lib.hid hl
 have hdn:=down_t h
 have HDN:=Lib.hid hdn
 have hgt:=fun W (g:Gr w W)=>get_n (h.gr g) (ht.gr g) hr key hl
 have HGT:=Lib.hid hgt
 have hks:tr.get key≠none->key.size<=60:=fun hn=>by
  cases tr with
  |none=>exact absurd rfl hn
  |some x=>exact getT_key hl.2.2.1 hn
 have HKS:=Lib.hid hks
 clear hPR h ht hl hdn hgt hks
 go_enter Tryz.func93,Tryz.ntmps93
 go_wp2_with fail
 refine HDN.out.mono ?_
 rintro e w1 ⟨rfl,hg1⟩
 have hgt1:=HGT.out _ hg1
 have HGT1:=Lib.hid hgt1
 have HG1:=Lib.hid hg1
 clear hgt1 hg1
 go_wp2_with fail
 refine HGT1.out.mono ?_
 rintro e w2 ⟨rfl,hg2⟩
 have HG2:=Lib.hid (HG1.out.trans hg2)
 clear hg2
 cases hgk:tr.get key with
 |none=>
  have hpr:PR=(c,tr,7):=by
   rw[<-HPR.out]
   unfold dropR
   rw[hgk]
  have hfin:errV PR.2.2=.iface 24 (.int .i64 7)/\PgT w2 PB DB M PR.1 sv t d:=by
   rw[hpr]
   exact⟨rfl,HH.out.1.gr HG2.out⟩
  have HFIN:=Lib.hid hfin
  have hgv:getV none=.tuple #[.string noB,.iface 24 (.int .i64 7)]:=rfl
  rw[hgv]
  clear hfin hpr hgk hgv
  go_wp2_with fail
  go_ret
  exact⟨by rw[HFIN.out.1];rfl,HFIN.out.2,PgF.of_gr PB DB M HG2.out⟩
 |some old=>
  have hk60:=HKS.out (by rw[hgk];simp)
  have hos:=get_size HL.out hgk
  obtain⟨mo,hmo⟩:∃mo,-2-(key.size:Int)-old.size=mo:=⟨_,rfl⟩
  have hmb:-200<=mo/\mo<=0:=by omega
  have HMO:=Lib.hid hmo
  cases tr with
  |none=>cases hgk
  |some x=>
   obtain⟨n,x⟩:=x
   have hdp:=drops_n (HH.out.1.gr HG2.out) (HH.out.2.gr HG2.out) hTn hr key HL.out (by
    have:getT key x=some old:=hgk
    rw[this]
    simp)
   have hdo:=dropsT_ok (pg:=d.pg) HH.out.1.f HL.out hr key
   have hpr:PR=((moreT (dropsT c root (some ⟨n,x⟩) key).1 root mo).1,(dropsT c root (some ⟨n,x⟩) key).2,(moreT (dropsT c root (some ⟨n,x⟩) key).1 root mo).2):=by
    rw[<-HPR.out,<-hmo]
    unfold dropR
    rw[hgk]
   obtain⟨c1,hc1⟩:∃c1,(dropsT c root (some ⟨n,x⟩) key).1=c1:=⟨_,rfl⟩
   obtain⟨u,hu⟩:∃u,(dropsT c root (some ⟨n,x⟩) key).2=u:=⟨_,rfl⟩
   rw[hc1,hu]at hpr
   rw[hc1]at hdp hdo
   have hf1:c1.fine:=hdo.k.fine
   have hri:=hf1.head.root root hr
   have HDP:=Lib.hid hdp
   have HP:=Lib.hid hpr
   have hgv:getV (some old)=.tuple #[.string old,.nilIface]:=rfl
   rw[hgv]
   clear hdp hdo hpr hc1 hu hgk hmo hgv hf1
   go_wp2_with fail
   refine HDP.out.mono ?_
   rintro e w4 ⟨rfl,hp4,hf4⟩
   have ht4:=(HH.out.2.gr HG2.out).pg hf4 hTn.1 hTn.2.1 hTn.2.2
   have hst:=start_n hp4 ht4 hr
   have HST:=Lib.hid hst
   have HP4:=Lib.hid hp4
   have HT4:=Lib.hid ht4
   have HF4:=Lib.hid ((PgF.of_gr PB DB M HG2.out).trans hf4)
   clear hst hp4 ht4 hf4
   go_wp2_with fail
   refine HST.out.mono ?_
   rintro e w5 ⟨rfl,hg5⟩
   have hse:=set_n (HP4.out.gr hg5) (HT4.out.gr hg5) hTn hr (p:=c1.h.roots root) (more:=mo) hri (by omega)
   rw[setS_more]at hse
   have HSE:=Lib.hid hse
   have HF5:=Lib.hid (HF4.out.trans (PgF.of_gr PB DB M hg5))
   clear hse hg5
   rw[<-HMO.out]at HSE HP
   go_wp2_with fail
   refine HSE.out.mono ?_
   rintro e w6 ⟨rfl,hp6,hf6⟩
   have HX:=Lib.hid (And.intro hp6 (HF5.out.trans hf6))
   have hfin:errV PR.2.2=errV (moreT c1 root (-2-(key.size:Int)-old.size)).2/\PgT w6 PB DB M PR.1 sv t d:=by
    rw[HP.out]
    exact⟨rfl,HX.out.1⟩
   have HFIN:=Lib.hid hfin
   clear hfin hp6 hf6
   obtain⟨EV,hEV⟩:∃EV,errV (moreT c1 root (-2-(key.size:Int)-old.size)).2=EV:=⟨_,rfl⟩
   rw[hEV]at HFIN⊢
   clear hEV
   go_wp2_with fail
   go_ret
   exact⟨by rw[HFIN.out.1];rfl,HFIN.out.2,HX.out.2⟩
end
