/-
  Part 26 of the proof.
-/
import Derived.Test.YtldmhjbdahjhdaaGreatDoorZc18
import Derived.Test.YtldmhjbdahjhdaaGreatDoorZc24
set_option maxRecDepth 100000
set_option maxHeartbeats 100000000
set_option linter.all false
namespace Go.Proofs.YtldmhjbdahjhdaaGreatDoor.Ev
open Go Go.RowKit
structure Sav(ω:Wt)(pg:Nat->ByteArray)(i:Nat)(n w:ByteArray)(c:Ch)(X:Tr)(K K0:LP)(M:PM)(E:ByteArray->Prop)(A todo B:List (List GPlace))(V:Nat):Prop where
 tg:∃k r,TG ω pg manyK i c X K M k r V (fun y=>(y∈K0.map Prod.fst\/y∈K.map Prod.fst)\/E y)/\wPcs ω n w todo<=r/\(∀l∈todo,¬ltB (pcE n w l).1 k)/\∀y,((y∈K0.map Prod.fst\/y∈K.map Prod.fst)\/E y)->ltB k y->∀l∈todo,ltB (pcE n w l).1 y
 is:preA K (headW n w)=(A++B).map (pcE n w)
 ok:WsOk (A++(todo++B))
 rest:Rest n w K0 K
 some:getA K0 manyK≠none
section
variable{ω:Wt}{pg:Nat->ByteArray}{i:Nat}{n w:ByteArray}{c:Ch}{X:Tr}{K K0:LP}{M:PM}{E:ByteArray->Prop}{A B todo:List (List GPlace)}{V:Nat}{l:List GPlace}
theorem Sav.put(hω:∀k v,pz k v<=ω k v)(hi:i<8)(hn:OkW n)(hw:OkW w)(hsz:n.size+w.size<=13)(hV:V<12145)(h:Sav ω pg i n w c X K K0 M E A (l::todo) B V):
  ∃c' X',putR c i X (pcE n w l).1 (pcE n w l).2=(c',X',0)/\Sav ω pg i n w c' X' (putA K (pcE n w l).1 (pcE n w l).2) K0 M E (A++[l]) todo B V:=by
 obtain⟨k,r,tg,hr,hup,hfar⟩:=h.tg
 have hok:WsOk (A++(l::(todo++B))):=h.ok
 have hl:l∈A++(l::(todo++B)):=by simp
 have hrow:=hok.row hl
 have hne:=hok.pc.ne l hl
 have hok1:WsOk (A++l::B):=hok.sub ((List.Sublist.refl A).append ((List.sublist_append_right todo B).cons_cons l))
 have hsrt:=tg.srt
 have hkl:¬ltB (pcE n w l).1 k:=hup l List.mem_cons_self
 have hnone:getA K (pcE n w l).1=none:=by
  rw[<-getA_pre (k:=(pcE n w l).1) (s:=headW n w) (keyW_pre n w (rowOf l)),h.is]
  have hs:=pieces_srt hn hw hok1
  obtain⟨_,h2,h3⟩:=List.pairwise_append.1 hs
  obtain⟨h4,_⟩:=List.pairwise_cons.1 h2
  rw[List.map_append,getA_append]
  have e1:getA (A.map (pcE n w)) (pcE n w l).1=none:=getA_below fun x hx=>by
   obtain⟨a,ha,rfl⟩:=List.mem_map.1 hx
   exact h3 a ha l List.mem_cons_self
  have e2:getA (B.map (pcE n w)) (pcE n w l).1=none:=by
   unfold getA
   rw[List.find?_eq_none.2 fun x hx=>?_]
   ·rfl
   ·obtain⟨b,hb,rfl⟩:=List.mem_map.1 hx
    simp only[decide_eq_true_eq]
    intro e
    have:=h4 b hb
    rw[e]at this
    exact ltB_irrefl _ this
  rw[e1,e2]
  rfl
 have hoz:oz ω K (pcE n w l).1=0:=oz_none hnone
 have t1:=tg.move (k2:=(pcE n w l).1) hkl (fun y hy hlt=>hfar y hy hlt l List.mem_cons_self)
 have t2:TG ω pg manyK i c X K M (pcE n w l).1 ((r-ω (pcE n w l).1 (pcE n w l).2)+(ω (pcE n w l).1 (pcE n w l).2-oz ω K (pcE n w l).1)) V (fun y=>(y∈K0.map Prod.fst\/y∈(putA K (pcE n w l).1 (pcE n w l).2).map Prod.fst)\/E y):=by
  refine t1.less ?_ (Nat.le_refl _) (fun y hy=>?_)
  ·rw[hoz]
   rw[wPcs_cons]at hr
   omega
  ·rcases hy with(h1|h1)|h1
   ·exact .inl (.inl h1)
   ·exact .inl (.inr (putA_keys _ _ y h1))
   ·exact .inr h1
 have hK0:K≠[]:=fun e=>h.some (by
  rw[<-h.rest.cnt,e]
  rfl)
 have hksz:(pcE n w l).1.size=n.size+w.size+13:=keyW_size n w (rowOf l)
 obtain⟨c',X',h1,g⟩:=t2.put hω hi (fun e=>absurd e hK0) ⟨by omega,by omega⟩ (v:=(pcE n w l).2) (by
  show(baL (writeP l)).size<=100
  rw[baL_size]
  exact hne.2) hV (fun y hy=>.inl (.inr hy))
 have hrise:=pieces_srt hn hw hok
 obtain⟨_,hr2,_⟩:=List.pairwise_append.1 hrise
 obtain⟨hr3,_⟩:=List.pairwise_cons.1 hr2
 refine⟨c',X',h1,⟨(pcE n w l).1,r-ω (pcE n w l).1 (pcE n w l).2,g,?_,fun m hm=>?_,fun y hy hlt m hm=>?_⟩,?_,?_,h.rest.put hw hsrt hrow _,h.some⟩
 ·rw[wPcs_cons]at hr
  omega
 ·exact ltB_asymm (hr3 m (List.mem_append_left _ hm))
 ·have old:((y∈K0.map Prod.fst\/y∈K.map Prod.fst)\/E y)\/y=(pcE n w l).1:=by
   rcases hy with(h1|h1)|h1
   ·exact .inl (.inl (.inl h1))
   ·obtain⟨e,he,rfl⟩:=List.mem_map.1 h1
    rcases mem_putA he with h2|h2
    ·exact .inl (.inl (.inr (List.mem_map_of_mem h2)))
    ·rw[h2]
     exact .inr rfl
   ·exact .inl (.inr h1)
  rcases old with h2|h2
  ·exact hfar y h2 (ltB_of_le_lt hkl hlt) m (List.mem_cons_of_mem _ hm)
  ·rw[h2]at hlt
   exact absurd hlt (ltB_irrefl _)
 ·rw[preA_put_in K (k:=(pcE n w l).1) _ (keyW_pre n w (rowOf l)),h.is,pieces_put hn hw hok1]
  simp
 ·have e:(A++[l])++(todo++B)=A++(l::(todo++B)):=by simp
  rw[e]
  exact hok
theorem Sav.done(h:Sav ω pg i n w c X K K0 M E A [] B V)(hsub:∀y∈K0.map Prod.fst,y∈K.map Prod.fst\/E y):TG ω pg manyK i c X K M manyK 0 V (fun y=>y∈K.map Prod.fst\/E y):=by
 obtain⟨k,r,tg,_⟩:=h.tg
 refine(tg.rest (ltB_irrefl _)).less (Nat.le_refl _) (Nat.le_refl _) fun y hy=>?_
 rcases hy with(h1|h1)|h1
 ·exact hsub y h1
 ·exact .inl h1
 ·exact .inr h1
theorem sav_puts(hω:∀k v,pz k v<=ω k v)(hn:OkW n)(hw:OkW w)(hsz:n.size+w.size<=13)(hV:V<12145):
  ∀(todo:List (List GPlace)) {c:Ch} {X:Tr} {K:LP} {A:List (List GPlace)},Sav ω pg 3 n w c X K K0 M E A todo B V->PutsOk pg n w (fun c' X'=>∃K',Sav ω pg 3 n w c' X' K' K0 M E (A++todo) [] B V) todo c X
 |[],c,X,K,A,h=>⟨K,by rw[List.append_nil];exact h⟩
 |l::todo,c,X,K,A,h=>by
  obtain⟨c',X',h1,h2⟩:=h.put hω (by omega) hn hw hsz hV
  obtain⟨_,_,tg,_⟩:=h.tg
  refine⟨tg.lays,c',X',h1,(sav_puts hω hn hw hsz hV todo h2).mono fun c2 X2 ⟨K2,h3⟩=>⟨K2,?_⟩⟩
  rw[List.append_assoc,List.singleton_append]at h3
  exact h3
theorem far_key{n w y:ByteArray}{r0 r1:Int}(h:preB (headW n w) y=true->ltB (keyW n w r1) y)(hlt:ltB (keyW n w r0) y):ltB (keyW n w r1) y:=by
 cases hp:preB (headW n w) y with
 |true=>exact h hp
 |false=>
  refine above_pre (fun hl2=>?_) hp (keyW_pre n w r1)
  exact absurd (ltB_trans hlt hl2) (pre_le (keyW_pre n w r0))
end
section
variable{ω:Wt}{pg:Nat->ByteArray}{i:Nat}{n w:ByteArray}{c:Ch}{X:Tr}{K:LP}{M:PM}{E:ByteArray->Prop}{PS A B:List (List GPlace)}{P l:List GPlace}{row:Int}{V:Nat}
theorem sav_old(hω:∀k v,pz k v<=ω k v)(hi:i<8)(hn:OkW n)(hw:OkW w)(hV:V<12145)
  (tg:TG ω pg manyK i c X K M manyK 0 V (fun y=>y∈K.map Prod.fst\/E y)) (hsome:getA K manyK≠none) (his:preA K (headW n w)=PS.map (pcE n w)) (ok:WsOk PS) (h:AtRow PS A [P] B row) (hl:∀p∈l,p.1=row) (hin:∀p∈l,inP p=true) (hc:CutOk (setOf beforeB (P++l)))
  (hfE:∀y,E y->preB (headW n w) y=true->∀m∈pcs (setOf beforeB (P++l)),ltB (pcE n w m).1 y):
  ∃c' X',dropR c i X (pcE n w P).1=(c',X',0)/\Sav ω pg i n w c' X' (dropA K (pcE n w P).1) K M E A (pcs (setOf beforeB (P++l))) B (V+(wPcs ω n w (pcs (setOf beforeB (P++l)))-ω (pcE n w P).1 (pcE n w P).2)):=by
 have hf:[P].flatten=P:=by simp
 have hc':CutOk (setOf beforeB ([P].flatten++l)):=by rw[hf];exact hc
 obtain⟨hok,_⟩:=h.ok ok hl hin hc'
 obtain⟨b1,b2⟩:=h.between ok hl
 rw[hf]at hok b1 b2
 have hPS:PS=A++P::B:=h.is
 have ok2:=ok
 rw[hPS]at ok2 his
 have hPm:P∈A++P::B:=by simp
 have hPr:=ok2.row hPm
 obtain⟨d1,d2⟩:=pieces_drop hn hw ok2
 have hget:getA K (pcE n w P).1=some (pcE n w P).2:=by rw[<-getA_pre (k:=(pcE n w P).1) (s:=headW n w) (keyW_pre n w (rowOf P)),his,d2]
 obtain⟨c',X',e,g⟩:=tg.drop hi (ltB_asymm (many_keyW n w (rowOf P))) (keyW_many n w (rowOf P)) hω hget hV
 obtain⟨C,hC⟩:∃C,pcs (setOf beforeB (P++l))=C:=⟨_,rfl⟩
 rw[hC]at hfE hok⊢
 obtain⟨p1,p2⟩:=pcs_ok hc
 rw[hC]at p1 p2
 have hCm:∀m∈C,m∈A++(C++B):=fun m hm=>List.mem_append_right _ (List.mem_append_left _ hm)
 have hrowC:∀m∈C,rowOf P<=rowOf m:=fun m hm=>by
  obtain⟨p,hp,ep⟩:=rowOf_mem (p2.ne m hm).1
  have:p∈setOf beforeB (P++l):=by rw[<-p1];exact List.mem_flatten.2 ⟨m,hm,hp⟩
  rcases List.mem_append.1 ((setOf_mem _ _ _).1 this)with hq|hq
  ·have:=rising_rows (ok2.up P hPm) p hq
   omega
  ·have h1:=hl p hq
   have h2:=h.low P (by simp)
   omega
 refine⟨c',X',e,⟨(pcE n w P).1,ω (pcE n w P).1 (pcE n w P).2+(wPcs ω n w C-ω (pcE n w P).1 (pcE n w P).2),(g.add _).less (Nat.le_refl _) (Nat.le_refl _) (fun y hy=>hy.elim (fun h1=>.inl (.inl h1)) .inr),by omega,fun m hm=>?_,fun y hy hlt m hm=>?_⟩,?_,hok,(Rest.refl n w K).drop hw _,hsome⟩
 ·rw[le_iff]
  show cmpB (keyW n w (rowOf P)) (keyW n w (rowOf m))≠1
  rw[keyW_cmp hn hw hPr (hok.row (hCm m hm))]
  have:=hrowC m hm
  split
  ·omega
  ·rw[if_neg (by omega)]
   omega
 ·rcases hy with hy|hyE
  case inr=>exact far_key (fun hp=>hfE y hyE hp m hm) hlt
  have hyK:y∈K.map Prod.fst:=by
   rcases hy with h1|h1
   ·exact h1
   ·obtain⟨e,he,rfl⟩:=List.mem_map.1 h1
    exact List.mem_map_of_mem (mem_dropA he)
  obtain⟨e,he,rfl⟩:=List.mem_map.1 hyK
  cases hp:preB (headW n w) e.1 with
  |true=>
   have h1:e∈preA K (headW n w):=List.mem_filter.2 ⟨he,hp⟩
   rw[his]at h1
   obtain⟨b,hb,rfl⟩:=List.mem_map.1 h1
   have hrb:=ok2.row hb
   have hlt2:rowOf P<rowOf b:=(keyW_lt hn hw hPr hrb).1 hlt
   have hbB:b∈B:=by
    rcases List.mem_append.1 hb with h2|h2
    ·have ap:=ok2.pc.apart
     have h3:=(List.pairwise_append.1 ap).2.2 b h2 P List.mem_cons_self
     have h4:=rows_lt (ok2.pc.ne b hb).1 (ok2.pc.ne P hPm).1 h3
     omega
    ·rcases List.mem_cons.1 h2 with h3|h3
     ·rw[h3]at hlt2
      omega
     ·exact h3
   refine(keyW_lt hn hw (hok.row (hCm m hm)) hrb).2 ?_
   refine rows_lt (p2.ne m hm).1 (ok2.pc.ne b hb).1 fun p hp q hq=>b2 p ?_ b hbB q hq
   rw[<-p1]
   exact List.mem_flatten.2 ⟨m,hm,hp⟩
  |false=>
   refine above_pre (fun hl2=>?_) hp (keyW_pre n w (rowOf m))
   exact absurd (ltB_trans hlt hl2) (pre_le (keyW_pre n w (rowOf P)))
 ·rw[preA_drop,his]
  exact d1
theorem sav_new(hn:OkW n)(hw:OkW w)
  (tg:TG ω pg manyK i c X K M manyK 0 V (fun y=>y∈K.map Prod.fst\/E y)) (hsome:getA K manyK≠none) (his:preA K (headW n w)=PS.map (pcE n w)) (ok:WsOk PS) (h:AtRow PS [] [] B row) (hl:∀p∈l,p.1=row) (hin:∀p∈l,inP p=true) (hc:CutOk (setOf beforeB l)):
  Sav ω pg i n w c X K K M E [] (pcs (setOf beforeB l)) B (V+wPcs ω n w (pcs (setOf beforeB l))):=by
 have hc':CutOk (setOf beforeB ([].flatten++l)):=hc
 obtain⟨hok,_⟩:=h.ok ok hl hin hc'
 have hok:WsOk ([]++(pcs (setOf beforeB l)++B)):=hok
 have hB:PS=B:=h.is
 obtain⟨C,hC⟩:∃C,pcs (setOf beforeB l)=C:=⟨_,rfl⟩
 rw[hC]at hok⊢
 obtain⟨p1,p2⟩:=pcs_ok hc
 rw[hC]at p1 p2
 have hrow:∀m∈C,rowOf m=row:=fun m hm=>by
  obtain⟨p,hp,ep⟩:=rowOf_mem (p2.ne m hm).1
  have:p∈setOf beforeB l:=by rw[<-p1];exact List.mem_flatten.2 ⟨m,hm,hp⟩
  rw[<-ep]
  exact hl p ((setOf_mem _ _ _).1 this)
 have hkey:∀m∈C,(pcE n w m).1=keyW n w row:=fun m hm=>by
  show keyW n w (rowOf m)=_
  rw[hrow m hm]
 have t1:=(tg.rest (ltB_asymm (many_keyW n w row))).add (wPcs ω n w C)
 rw[Nat.zero_add]at t1
 refine⟨⟨keyW n w row,wPcs ω n w C,t1.less (Nat.le_refl _) (Nat.le_refl _) (fun y hy=>hy.elim (fun h1=>.inl (.inl h1)) .inr),Nat.le_refl _,fun m hm=>?_,fun y hy hlt m hm=>?_⟩,?_,hok,Rest.refl n w K,hsome⟩
 ·rw[hkey m hm]
  exact ltB_irrefl _
 ·rw[hkey m hm]
  exact hlt
 ·rw[his,hB]
  rfl
end
end Go.Proofs.YtldmhjbdahjhdaaGreatDoor.Ev
namespace Go.Proofs.YtldmhjbdahjhdaaGreatDoor.Ev
open Go Go.RowKit
structure FSt(pg:Nat->ByteArray)(n:ByteArray)(V:Nat)(M:PM)(E:ByteArray->Prop)(L:Ct)(N:Nat)(K:LP)(c:Ch)(X:Tr):Prop where
 tg:TG wtF pg manyK 3 c X K M manyK 0 V (fun y=>y∈K.map Prod.fst\/E y)
 cnt:(K=[]/\N=0)\/getA K manyK=some (cntB N)
 has:∀wd,OkW wd->∃PS,preA K (headW n wd)=PS.map (pcE n wd)/\WsOk PS/\PS.flatten=L wd
 small:∀wd,∀p∈L wd,SmallP p
 keys:∀e∈K,e.1=manyK\/∃wd r,OkW wd/\wd.size<=12/\(1<=r/\r<=1073741824)/\e.1=keyW n wd r
section
variable{pg:Nat->ByteArray}{n:ByteArray}{V N:Nat}{M:PM}{E:ByteArray->Prop}{L:Ct}{K:LP}{c:Ch}{X:Tr}
theorem FSt.get(h:FSt pg n V M E L N K c X):(X.get manyK=none/\N=0)\/X.get manyK=some (cntB N):=by
 rw[h.tg.get (ltB_irrefl _)]
 rcases h.cnt with⟨h1,h2⟩|h1
 ·refine .inl ⟨?_,h2⟩
  rw[h1]
  rfl
 ·exact .inr h1
theorem FSt.parts(h:FSt pg n V M E L N K c X){wd:ByteArray}{PS:List (List GPlace)}(ok:WsOk PS)(e:PS.flatten=L wd):∀l∈PS,l≠[]/\(∀p∈l,SmallP p)/\Rising beforeB l:=fun l hl=>
 ⟨(ok.pc.ne l hl).1,fun p hp2=>h.small wd p (by rw[<-e];exact List.mem_flatten.2 ⟨l,hl,hp2⟩),ok.up l hl⟩
theorem FSt.weigh(h:FSt pg n V M E L N K c X)(hn:OkW n)(h1:n.size<=1){wd:ByteArray}(hw:OkW wd){PS:List (List GPlace)}(his:preA K (headW n wd)=PS.map (pcE n wd))(ok:WsOk PS)(e:PS.flatten=L wd):(19+wd.size)*(L wd).length<=V:=by
 have h2:=wPcs_is hn hw h1 (h.parts ok e)
 rw[<-e,<-h2]
 unfold wPcs
 rw[<-his]
 exact Nat.le_trans (wsum_filter _ K) h.tg.wsum
theorem FSt.hasW(h:FSt pg n V M E L N K c X)(hn:OkW n)(h1:n.size<=1)(hV:V<12145){wd:ByteArray}(hw:OkW wd){PS:List (List GPlace)}(his:preA K (headW n wd)=PS.map (pcE n wd))(ok:WsOk PS)(e:PS.flatten=L wd):HasW X n wd PS:=by
 have hwk:=h.tg.walk (s:=headW n wd) (ltB_asymm (many_headW n wd))
 refine⟨by rw[hwk,from_pre h.tg.srt,his],ok,?_,?_⟩
 ·rw[hwk]
  have h2:(fromA K (headW n wd)).length<=K.length:=List.length_filter_le _ _
  have h3:=len_wsum K
  have h4:=h.tg.wsum
  omega
 ·have h2:=h.weigh hn h1 hw his ok e
  rw[e]
  have h3:(L wd).length<=(19+wd.size)*(L wd).length:=Nat.le_mul_of_pos_left _ (by omega)
  omega
theorem FSt.adds(h:FSt pg n V M E L N K c X){V2:Nat}(hV2:(K=[]/\V2=V+12)\/(K≠[]/\V2=V))(hV:V2<12145)(m:Nat):
  ∃c' X' K',putR c 3 X manyK (cntB m)=(c',X',0)/\FSt pg n V2 M E L m K' c' X'/\getA K' manyK=some (cntB m)/\∀wd,preA K' (headW n wd)=preA K (headW n wd):=by
 have hoz:wtF manyK (cntB m)-oz wtF K manyK=V2-V/\V<=V2:=by
  rw[wt_many]
  rcases hV2 with⟨h1,h2⟩|⟨h1,h2⟩
  ·rw[h1,oz_none (by rfl)]
   omega
  ·rcases h.cnt with⟨h3,_⟩|h3
   ·exact absurd h3 h1
   ·rw[oz_some h3,wt_many]
    omega
 have t0:=((h.tg.add (V2-V)).less (r':=0+(wtF manyK (cntB m)-oz wtF K manyK)) (V':=V2) (A':=fun y=>y∈(putA K manyK (cntB m)).map Prod.fst\/E y) (by omega) (by omega) (fun y hy=>hy.elim (fun h1=>.inl (putA_keys _ _ y h1)) .inr))
 obtain⟨c',X',h1,h2⟩:=t0.put wtF_le (by omega) (fun _=>rfl) (by decide) (by rw[cntB_size];omega) hV (fun y hy=>.inl hy)
 refine⟨c',X',_,h1,⟨h2,.inr (getA_put_eq h.tg.srt _ _),fun wd hw=>?_,h.small,fun e he=>?_⟩,getA_put_eq h.tg.srt _ _,fun wd=>preA_put_out h.tg.srt _ (not_pre_many n wd)⟩
 ·obtain⟨PS,e1,e2⟩:=h.has wd hw
  exact⟨PS,by rw[preA_put_out h.tg.srt _ (not_pre_many n wd)];exact e1,e2⟩
 ·rcases mem_putA he with he|he
  ·exact h.keys e he
  ·rw[he]
   exact .inl rfl
theorem FSt.save(hn:OkW n)(h1:n.size<=1)(h:FSt pg n V M E L N K c X)(hK:getA K manyK=some (cntB N)){wd:ByteArray}(hw:OkW wd)(hs:wd.size<=12){row:Int}{l:List GPlace}(hl:∀p∈l,p.1=row)(hsm:∀p∈l,SmallP p)(hV:V+(19+wd.size)*l.length<12145)(hE:∀y,E y->preB (headW n wd) y=true->∀r,(∃p,(p∈L wd\/p∈l)/\p.1=r)->ltB (keyW n wd r) y):
  ∃PS,HasW X n wd PS/\PS.flatten=L wd/\SaveOk pg n wd (pieceK n wd PS row).1 (setOf beforeB ((pieceK n wd PS row).2++l)) (fun c' X'=>∃K',FSt pg n (V+(19+wd.size)*l.length) M E (updL L wd (setOf beforeB (L wd++l))) N K' c' X'/\getA K' manyK=some (cntB N)) c X:=by
 obtain⟨PS,his,ok,e⟩:=h.has wd hw
 have hhw:=h.hasW hn h1 (by omega) hw his ok e
 have hpt:=h.parts ok e
 refine⟨PS,hhw,e,?_⟩
 have hin:∀p∈l,inP p=true:=fun p hp=>(hsm p hp).inP
 have hfew:=hhw.few
 have hlw:l.length<=(19+wd.size)*l.length:=Nat.le_mul_of_pos_left _ (by omega)
 have hl6:l.length<=12145:=Nat.le_trans hlw (by omega)
 have hfw6:PS.flatten.length<=12145:=by
  have h2:=h.weigh hn h1 hw his ok e
  rw[e]
  have h3:(L wd).length<=(19+wd.size)*(L wd).length:=Nat.le_mul_of_pos_left _ (by omega)
  exact Nat.le_trans h3 (Nat.le_trans h2 (by omega))
 have hnone:getA K manyK≠none:=by rw[hK];simp
 have fin:∀(A P:List (List GPlace)) (B:List (List GPlace)) (at':AtRow PS A P B row) (hc:CutOk (setOf beforeB (P.flatten++l))) (V':Nat),V'<=V+(19+wd.size)*l.length->
   ∀c' X' K',Sav wtF pg 3 n wd c' X' K' K M E (A++pcs (setOf beforeB (P.flatten++l))) [] B V'->FSt pg n (V+(19+wd.size)*l.length) M E (updL L wd (setOf beforeB (L wd++l))) N K' c' X'/\getA K' manyK=some (cntB N):=by
  intro A P B at' hc V' hV' c' X' K' hsav
  obtain⟨_,hflat⟩:=at'.ok ok hl hin hc
  have hcnt:getA K' manyK=some (cntB N):=hsav.rest.cnt.trans hK
  have hsub:∀y∈K.map Prod.fst,y∈K'.map Prod.fst:=fun y hy=>by
   obtain⟨x,hx,rfl⟩:=List.mem_map.1 hy
   rcases h.keys x hx with e1|⟨w2,r,hw2,_,_,e1⟩
   ·rw[e1]
    exact getA_mem hcnt
   ·have hpre:preB (headW n w2) x.1=true:=by rw[e1];exact keyW_pre n w2 r
    by_cases ew:w2=wd
    ·subst ew
     have hx2:x∈preA K (headW n w2):=List.mem_filter.2 ⟨hx,hpre⟩
     rw[his]at hx2
     obtain⟨m,hm,rfl⟩:=List.mem_map.1 hx2
     have hin2:∀m2∈A++pcs (setOf beforeB (P.flatten++l))++B,(pcE n w2 m2).1∈K'.map Prod.fst:=fun m2 hm2=>by
      have:pcE n w2 m2∈preA K' (headW n w2):=by
       rw[hsav.is]
       exact List.mem_map_of_mem hm2
      exact List.mem_map_of_mem (mem_pre this)
     rw[at'.is]at hm
     rcases List.mem_append.1 hm with hm|hm
     ·exact hin2 m (List.mem_append_left _ (List.mem_append_left _ hm))
     ·rcases List.mem_append.1 hm with hm|hm
      ·have hPm:P=[m]:=by
        have:=at'.one
        cases P with
        |nil=>cases hm
        |cons a r=>
         cases r with
         |nil=>rw[List.mem_singleton.1 hm]
         |cons b r=>simp at this
       subst hPm
       have hmPS:m∈PS:=by rw[at'.is];simp
       have e3:[m].flatten=m:=by simp
       rw[e3]at hc hin2
       obtain⟨m2,hm2,e2⟩:=first_row (ok.pc.ne m hmPS).1 (ok.up m hmPS) hl (at'.low m (by simp)) hc
       have:=hin2 m2 (List.mem_append_left _ (List.mem_append_right _ hm2))
       unfold pcE at this⊢
       rw[e2]at this
       exact this
      ·exact hin2 m (List.mem_append_right _ hm)
    ·have hx2:x∈preA K (headW n w2):=List.mem_filter.2 ⟨hx,hpre⟩
     rw[<-hsav.rest.oth w2 hw2 ew]at hx2
     exact List.mem_map_of_mem (mem_pre hx2)
  have tg':=hsav.done fun y hy=>.inl (hsub y hy)
  refine⟨⟨tg'.less (Nat.le_refl _) hV' fun y hy=>hy,.inr hcnt,fun w2 hw2=>?_,fun w2 p hp=>?_,fun x hx=>?_⟩,hcnt⟩
  ·by_cases ew:w2=wd
   ·subst ew
    refine⟨A++pcs (setOf beforeB (P.flatten++l))++B,hsav.is,?_,?_⟩
    ·have:=hsav.ok
     rw[List.nil_append]at this
     exact this
    ·rw[updL_same,<-e,<-hflat,List.append_assoc]
   ·obtain⟨PS2,a1,a2,a3⟩:=h.has w2 hw2
    exact⟨PS2,by rw[hsav.rest.oth w2 hw2 ew];exact a1,a2,by rw[updL_other _ _ ew];exact a3⟩
  ·by_cases ew:w2=wd
   ·subst ew
    rw[updL_same,setOf_mem]at hp
    rcases List.mem_append.1 hp with hp|hp
    ·exact h.small w2 p hp
    ·exact hsm p hp
   ·rw[updL_other _ _ ew]at hp
    exact h.small w2 p hp
  ·rcases hsav.rest.keys x hx with h2|⟨r,h2,h3⟩
   ·exact h.keys x h2
   ·exact .inr ⟨wd,r,hw,hs,h2,h3⟩
 have hsmall:∀P:List GPlace,(∀p∈P,SmallP p)->∀p∈setOf beforeB (P++l),SmallP p:=fun P hP p hp=>by
  rcases List.mem_append.1 ((setOf_mem _ _ _).1 hp)with hp|hp
  ·exact hP p hp
  ·exact hsm p hp
 have hwp:∀P:List GPlace,(∀p∈P,SmallP p)->wPcs wtF n wd (pcs (setOf beforeB (P++l)))=(19+wd.size)*(setOf beforeB (P++l)).length:=fun P hP=>by
  have hcP:=cut_small (setOf_rising parts_place (P++l)) (hsmall P hP)
  obtain⟨p1,p2⟩:=pcs_ok hcP
  have:=wPcs_is hn hw h1 (PS:=pcs (setOf beforeB (P++l))) fun m hm=>⟨(p2.ne m hm).1,fun p hp=>hsmall P hP p (by rw[<-p1];exact List.mem_flatten.2 ⟨m,hm,hp⟩),by
   have h3:Rising beforeB (pcs (setOf beforeB (P++l))).flatten:=by rw[p1];exact setOf_rising parts_place _
   exact(List.pairwise_flatten.1 h3).1 m hm⟩
  rw[p1]at this
  exact this
 cases h0:cntR PS row with
 |zero=>
  have hR:pieceK n wd PS row=(⟨#[]⟩,[]):=by
   unfold pieceK
   rw[h0]
  rw[hR]
  have at':=atRow_none ok h0
  have hc:CutOk (setOf beforeB ([]++l)):=cut_small (setOf_rising parts_place _) (hsmall [] fun p hp=>by cases hp)
  have hwv:=hwp [] fun p hp=>by cases hp
  have hle:=setOf_len beforeB ([]++l)
  rw[List.nil_append]at hle
  have hmul:(19+wd.size)*(setOf beforeB l).length<=(19+wd.size)*l.length:=Nat.mul_le_mul_left _ hle
  rw[List.nil_append]at hwv
  refine⟨hc,fun p hp=>(hsmall [] (fun p hp=>by cases hp) p hp).inP,by show(setOf beforeB ([]++l)).length<=_;rw[List.nil_append];exact Nat.le_trans hle (Nat.le_trans hl6 (by omega)),.inl ⟨rfl,?_⟩⟩
  have hsav:=sav_new (ω:=wtF) hn hw h.tg hnone his ok at' hl hin hc
  refine(sav_puts wtF_le hn hw (by omega) (by omega) _ hsav).mono fun c' X' ⟨K',h3⟩=>⟨K',fin [] [] PS at' hc _ (by omega) c' X' K' h3⟩
 |succ k=>
  have hk:k<PS.length:=by have:=cntR_le PS row;omega
  have hR:pieceK n wd PS row=((pcE n wd PS[k]).1,PS[k]):=by
   unfold pieceK
   rw[h0]
   simp only[List.getElem?_eq_getElem hk]
  rw[hR]
  have at':=atRow_some ok h0 hk
  obtain⟨q1,q2,q3⟩:=hpt PS[k] (List.getElem_mem hk)
  have hc:CutOk (setOf beforeB (PS[k]++l)):=cut_small (setOf_rising parts_place _) (hsmall _ q2)
  have hwv:=hwp PS[k] q2
  have hle:=setOf_len beforeB (PS[k]++l)
  rw[List.length_append]at hle
  have hge:=setOf_ge (m:=PS[k]++l) q3 fun p hp=>List.mem_append_left _ hp
  have hwo:=wtF_pc hn hw h1 q1 q2 q3
  have hmul:(19+wd.size)*(setOf beforeB (PS[k]++l)).length<=(19+wd.size)*PS[k].length+(19+wd.size)*l.length:=by
   rw[<-Nat.mul_add]
   exact Nat.mul_le_mul_left _ hle
  have hmul2:(19+wd.size)*PS[k].length<=(19+wd.size)*(setOf beforeB (PS[k]++l)).length:=Nat.mul_le_mul_left _ hge
  have hkl:PS[k].length<=PS.flatten.length:=by
   have h3:PS=PS.take k++PS[k]::PS.drop (k+1):=by
    rw[<-List.drop_eq_getElem_cons hk,List.take_append_drop]
   have h4:=congrArg (fun z=>(List.flatten z).length) h3
   simp only[List.flatten_append,List.flatten_cons,List.length_append]at h4
   omega
  obtain⟨c1,X1,hd,hsav⟩:=sav_old (ω:=wtF) wtF_le (by omega) hn hw (by omega) h.tg hnone his ok at' hl hin hc (fun y hy hp m hm=>by
   obtain⟨p1,p2⟩:=pcs_ok hc
   obtain⟨p,hpm,ep⟩:=rowOf_mem (p2.ne m hm).1
   have hps:p∈setOf beforeB (PS[k]++l):=by rw[<-p1];exact List.mem_flatten.2 ⟨m,hm,hpm⟩
   refine hE y hy hp (rowOf m) ⟨p,?_,ep⟩
   rcases List.mem_append.1 ((setOf_mem _ _ _).1 hps)with h7|h7
   ·exact .inl (by rw[<-e];exact List.mem_flatten.2 ⟨_,List.getElem_mem hk,h7⟩)
   ·exact .inr h7)
  refine⟨hc,fun p hp=>(hsmall _ q2 p hp).inP,by show(setOf beforeB (PS[k]++l)).length<=_;exact Nat.le_trans hle (Nat.le_trans (Nat.add_le_add (Nat.le_trans hkl hfw6) hl6) (by omega)),.inr ⟨fun e0=>?_,c1,X1,hd,?_⟩⟩
  ·have h3:=congrArg ByteArray.size e0
   have h4:=keyW_size n wd (rowOf PS[k])
   have h5:(pcE n wd PS[k]).1=keyW n wd (rowOf PS[k]):=rfl
   rw[h5,h4]at h3
   have h6:(⟨#[]⟩:ByteArray).size=0:=rfl
   omega
  ·have e3:[PS[k]].flatten=PS[k]:=by simp
   have hVle:V+(wPcs wtF n wd (pcs (setOf beforeB (PS[k]++l)))-wtF (pcE n wd PS[k]).1 (pcE n wd PS[k]).2)<=V+(19+wd.size)*l.length:=by
    rw[hwv,hwo]
    omega
   refine(sav_puts wtF_le hn hw (by omega) (Nat.lt_of_le_of_lt hVle hV) _ hsav).mono fun c' X' ⟨K',h3⟩=>⟨K',fin _ [PS[k]] _ at' (by rw[e3];exact hc) _ hVle c' X' K' (by rw[e3];exact h3)⟩
end
section
variable{pg:Nat->ByteArray}{n:ByteArray}{N:Nat}{M:PM}{E:ByteArray->Prop}{L:Ct}
theorem FSt.adds_ok(hn:OkW n)(h1:n.size<=1){row:Int}(hr:1<=row/\row<=8000){ws:List ByteArray}(hws:ws.length<=20)(hok:∀w∈ws,OkW w/\w.size<=12):
  ∀(rest dn:List ByteArray) {V:Nat} {K:LP} {c:Ch} {X:Tr},(∀w∈rest,w∈ws)->(∀wd,∀p∈L wd,p.1<=25)->(row<=25)->(∀y,E y->∀wd,OkW wd->preB (headW n wd) y=true->∀r,1<=r/\r<=25->ltB (keyW n wd r) y)->FSt pg n V M E (addL L row ws dn) N K c X->getA K manyK=some (cntB N)->V+budg ws dn rest<12145->
   AddsOk pg n row ws (fun c' X'=>∃K' dn',(∀w,w∈dn'↔w∈dn\/w∈rest)/\FSt pg n (V+budg ws dn rest) M E (addL L row ws dn') N K' c' X'/\getA K' manyK=some (cntB N)) dn rest c X
 |[],dn,V,K,c,X,_,_,_,_,h,hK,hV=>⟨K,dn,by simp,h,hK⟩
 |wd::rest,dn,V,K,c,X,hsub,hlow,hr25,hEE,h,hK,hV=>by
  obtain⟨hw,hs⟩:=hok wd (hsub wd List.mem_cons_self)
  refine⟨fun hd=>?_,fun hd=>⟨h.tg.lays,?_⟩⟩
  ·have hb:budg ws dn (wd::rest)=budg ws (wd::dn) rest:=if_pos hd
   rw[hb]at hV⊢
   have ih:=FSt.adds_ok hn h1 hr hws hok rest (wd::dn) (fun w hw=>hsub w (List.mem_cons_of_mem _ hw)) hlow hr25 hEE (by rw[<-addL_old L row ws hd];exact h) hK hV
   have hmem:∀w,(w∈wd::dn\/w∈rest)↔(w∈dn\/w∈wd::rest):=fun w=>by
    simp only[List.mem_cons]
    constructor
    ·rintro((h1|h1)|h1)
     ·exact .inr (.inl h1)
     ·exact .inl h1
     ·exact .inr (.inr h1)
    ·rintro(h1|h1|h1)
     ·exact .inl (.inr h1)
     ·exact .inl (.inl h1)
     ·exact .inr h1
   simpa only[hmem]using ih
  ·have hb:budg ws dn (wd::rest)=(19+wd.size)*(occ 0 wd ws 0).length+budg ws (wd::dn) rest:=if_neg hd
   rw[hb]at hV⊢
   rw[occ_len (s:=row)]at hV⊢
   obtain⟨PS,h2,h3,h4⟩:=h.save hn h1 hK hw hs (row:=row) (l:=occ row wd ws 0) (fun p hp=>(occ_mem hp).1) (fun p hp=>by
    have:=occ_mem hp
    unfold SmallP
    omega) (by omega) (fun y hy hp r ⟨p,hpp,ep⟩=>hEE y hy wd hw hp r (by
    have hsm:SmallP p:=by
     rcases hpp with h7|h7
     ·exact h.small wd p h7
     ·have:=occ_mem h7
      unfold SmallP
      omega
    unfold SmallP at hsm
    have:p.1<=25:=by
     rcases hpp with h7|h7
     ·unfold addL at h7
      split at h7
      ·rcases List.mem_append.1 ((setOf_mem _ _ _).1 h7)with h8|h8
       ·exact hlow wd p h8
       ·have:=occ_mem h8
        omega
      ·exact hlow wd p h7
     ·have:=occ_mem h7
      omega
    omega))
   refine⟨PS,h2,h4.mono fun c' X' ⟨K',h5,h6⟩=>?_⟩
   rw[addL_step L row ws hd]at h5
   have ih:=FSt.adds_ok hn h1 hr hws hok rest (wd::dn) (fun w hw=>hsub w (List.mem_cons_of_mem _ hw)) hlow hr25 hEE h5 h6 (by omega)
   have hmem:∀w,(w∈wd::dn\/w∈rest)↔(w∈dn\/w∈wd::rest):=fun w=>by
    simp only[List.mem_cons]
    constructor
    ·rintro((h1|h1)|h1)
     ·exact .inr (.inl h1)
     ·exact .inl h1
     ·exact .inr (.inr h1)
    ·rintro(h1|h1|h1)
     ·exact .inl (.inr h1)
     ·exact .inl (.inl h1)
     ·exact .inr h1
   rw[Nat.add_assoc]at ih
   simpa only[hmem]using ih
end
end Go.Proofs.YtldmhjbdahjhdaaGreatDoor.Ev
namespace Go.Proofs.YtldmhjbdahjhdaaGreatDoor.Ev
open Go Go.RowKit
def kA(n w:ByteArray):ByteArray:=keyW n w 999
def kB(n w:ByteArray):ByteArray:=keyW n w 1073741824
def EX(n:ByteArray)(ws:List ByteArray)(R:Int):ByteArray->Prop:=fun y=>∃w∈ws,OkW w/\∃r,(1000<=r/\r<=R)/\y=keyW n w r
def uB(n:ByteArray)(K:LP)(R:Int)(w:ByteArray):Bool:=(getA K (keyW n w R)).isSome
section
variable{n wd:ByteArray}{ws:List ByteArray}{R:Int}{K:LP}{PS:List (List GPlace)}
theorem ex_of{y:ByteArray}(hy:EX n ws R y)(hw:OkW wd)(hp:preB (headW n wd) y=true):∃r,(1000<=r/\r<=R)/\y=keyW n wd r:=by
 obtain⟨w,_,ok,r,hr,rfl⟩:=hy
 obtain rfl:=pre_word hw ok hp
 exact⟨r,hr,rfl⟩
theorem key_of(his:preA K (headW n wd)=PS.map (pcE n wd)){y:ByteArray}(hy:y∈K.map Prod.fst)(hp:preB (headW n wd) y=true):∃b∈PS,y=(pcE n wd b).1:=by
 obtain⟨e,he,rfl⟩:=List.mem_map.1 hy
 have h1:e∈preA K (headW n wd):=List.mem_filter.2 ⟨he,hp⟩
 rw[his]at h1
 obtain⟨b,hb,rfl⟩:=List.mem_map.1 h1
 exact⟨b,hb,rfl⟩
theorem no_between(hn:OkW n)(hw:OkW wd)(his:preA K (headW n wd)=PS.map (pcE n wd))(ok:WsOk PS)(hR:R<=1100){r0 r1:Int}(h0:1<=r0/\r0<=1073741824)(h1:1<=r1/\r1<=1073741824)(hK:∀b∈PS,r0<rowOf b->r1<rowOf b)(hX:∀r,1000<=r->r<=R->r0<r->r1<r){y:ByteArray}(hy:y∈K.map Prod.fst\/EX n ws R y)(hlt:ltB (keyW n wd r0) y):ltB (keyW n wd r1) y:=by
 refine far_key (fun hp=>?_) hlt
 rcases hy with hy|hy
 ·obtain⟨b,hb,rfl⟩:=key_of his hy hp
  have hrb:=ok.row hb
  exact(keyW_lt hn hw h1 hrb).2 (hK b hb ((keyW_lt hn hw h0 hrb).1 hlt))
 ·obtain⟨r,hr,rfl⟩:=ex_of hy hw hp
  have hrr:1<=r/\r<=1073741824:=by omega
  exact(keyW_lt hn hw h1 hrr).2 (hX r hr.1 hr.2 ((keyW_lt hn hw h0 hrr).1 hlt))
theorem keyW_inj(hn:OkW n)(hw:OkW wd){r s:Int}(hr:1<=r/\r<=1073741824)(hs:1<=s/\s<=1073741824)(h:keyW n wd r=keyW n wd s):r=s:=by
 have h1:¬r<s:=fun h2=>by
  have:=(keyW_lt hn hw hr hs).2 h2
  rw[h]at this
  exact ltB_irrefl _ this
 have h3:¬s<r:=fun h2=>by
  have:=(keyW_lt hn hw hs hr).2 h2
  rw[h]at this
  exact ltB_irrefl _ this
 omega
theorem uB_iff(hn:OkW n)(hw:OkW wd)(his:preA K (headW n wd)=PS.map (pcE n wd))(ok:WsOk PS)(hR:1<=R/\R<=1073741824):uB n K R wd=true↔∃m∈PS,rowOf m=R:=by
 unfold uB
 rw[<-getA_pre (keyW_pre n wd R),his]
 constructor
 ·intro h
  cases hg:getA (PS.map (pcE n wd)) (keyW n wd R)with
  |none=>rw[hg]at h;cases h
  |some v=>
   obtain⟨m,hm,e⟩:=List.mem_map.1 (getA_mem hg)
   obtain⟨m2,hm2,rfl⟩:=List.mem_map.1 hm
   exact⟨m2,hm2,keyW_inj hn hw (ok.row hm2) hR e⟩
 ·rintro⟨m,hm,e⟩
  cases hg:getA (PS.map (pcE n wd)) (keyW n wd R)with
  |none=>
   exact absurd (by show keyW n wd (rowOf m)=_;rw[e]) (getA_none hg _ (List.mem_map_of_mem (f:=pcE n wd) hm))
  |some v=>rfl
end
theorem PutsOk_append{pg:Nat->ByteArray}{n wd:ByteArray}{Q:Ch->Tr->Prop}:∀{a b:List (List GPlace)} {c:Ch} {X:Tr},PutsOk pg n wd (fun c' X'=>PutsOk pg n wd Q b c' X') a c X->PutsOk pg n wd Q (a++b) c X
 |[],_,_,_,h=>h
 |_::_,_,_,_,⟨h1,c',X',h2,h3⟩=>⟨h1,c',X',h2,PutsOk_append h3⟩
section
variable{pg:Nat->ByteArray}{n:ByteArray}{V N:Nat}{M M':PM}{E:ByteArray->Prop}{L:Ct}{K K':LP}{c c':Ch}{X X':Tr}
theorem FSt.built(h:FSt pg n V M E L N K c X)(hK:getA K manyK=some (cntB N)){wd:ByteArray}(hw:OkW wd)(hs:wd.size<=12){V':Nat}{E':ByteArray->Prop}{PS':List (List GPlace)}{x:List GPlace}(tg':TG wtF pg manyK 3 c' X' K' M' manyK 0 V' (fun y=>y∈K'.map Prod.fst\/E' y))(rest:Rest n wd K K')(his:preA K' (headW n wd)=PS'.map (pcE n wd))(ok:WsOk PS')(hx:PS'.flatten=x)(hsx:∀p∈x,SmallP p):
  FSt pg n V' M' E' (updL L wd x) N K' c' X'/\getA K' manyK=some (cntB N):=by
 have hcnt:getA K' manyK=some (cntB N):=rest.cnt.trans hK
 refine⟨⟨tg',.inr hcnt,fun w2 hw2=>?_,fun w2 p hp=>?_,fun e he=>?_⟩,hcnt⟩
 ·by_cases ew:w2=wd
  ·subst ew
   exact⟨PS',his,ok,by rw[updL_same,hx]⟩
  ·obtain⟨PS2,a1,a2,a3⟩:=h.has w2 hw2
   exact⟨PS2,by rw[rest.oth w2 hw2 ew];exact a1,a2,by rw[updL_other _ _ ew];exact a3⟩
 ·by_cases ew:w2=wd
  ·subst ew
   rw[updL_same]at hp
   exact hsx p hp
  ·rw[updL_other _ _ ew]at hp
   exact h.small w2 p hp
 ·rcases rest.keys e he with h2|⟨r,h2,h3⟩
  ·exact h.keys e h2
  ·exact .inr ⟨wd,r,hw,hs,h2,h3⟩
theorem FSt.stay(h:FSt pg n V M E L N K c X)(hcnt:getA K' manyK=some (cntB N)){wd:ByteArray}(hw:OkW wd){PS:List (List GPlace)}(his:preA K (headW n wd)=PS.map (pcE n wd))(rest:Rest n wd K K')(hP:∀m∈PS,(pcE n wd m).1∈K'.map Prod.fst\/E (pcE n wd m).1):∀y∈K.map Prod.fst,y∈K'.map Prod.fst\/E y:=fun y hy=>by
 obtain⟨x,hx,rfl⟩:=List.mem_map.1 hy
 rcases h.keys x hx with e1|⟨w2,r,hw2,_,_,e1⟩
 ·rw[e1]
  exact .inl (getA_mem hcnt)
 ·have hpre:preB (headW n w2) x.1=true:=by rw[e1];exact keyW_pre n w2 r
  by_cases ew:w2=wd
  ·subst ew
   obtain⟨b,hb,e2⟩:=key_of his hy hpre
   rw[e2]
   exact hP b hb
  ·have hx2:x∈preA K (headW n w2):=List.mem_filter.2 ⟨hx,hpre⟩
   rw[<-rest.oth w2 hw2 ew]at hx2
   exact .inl (List.mem_map_of_mem (mem_pre hx2))
theorem in_keys{K:LP}{n wd:ByteArray}{PS:List (List GPlace)}(his:preA K (headW n wd)=PS.map (pcE n wd)){m:List GPlace}(hm:m∈PS):(pcE n wd m).1∈K.map Prod.fst:=by
 have:pcE n wd m∈preA K (headW n wd):=by
  rw[his]
  exact List.mem_map_of_mem hm
 exact List.mem_map_of_mem (mem_pre this)
theorem FSt.more_add{M1:PM}(hn:OkW n)(h1:n.size<=1){ws:List ByteArray}{R:Int}(hR:1000<=R/\R<=1100){wd:ByteArray}(hw:OkW wd)(hs:wd.size<=12){l:List GPlace}(hl0:l≠[])(hl:∀p∈l,p.1=R)(hlr:Rising beforeB l)(hsm:∀p∈l,SmallP p){δ:Nat}(hδ:δ=(19+wd.size)*l.length)
  (h:FSt pg n V ((kA n wd,δ)::(kB n wd,δ)::M1) (EX n ws R) L N K c X) (hK:getA K manyK=some (cntB N)) (hlow:∀p∈L wd,p.1<=25) (hV:V<12145) (hl6:l.length<=10000):
  ∃PS,HasW X n wd PS/\PS.flatten=L wd/\SaveOk pg n wd (pieceK n wd PS R).1 (setOf beforeB ((pieceK n wd PS R).2++l)) (fun c' X'=>∃K',FSt pg n V ((if uB n K' R wd=true then(kA n wd,δ)else(kB n wd,δ))::M1) (EX n ws R) (updL L wd (setOf beforeB (L wd++l))) N K' c' X'/\getA K' manyK=some (cntB N)/\Rest n wd K K') c X:=by
 obtain⟨PS,his,ok,e⟩:=h.has wd hw
 have hhw:=h.hasW hn h1 hV hw his ok e
 have hpt:=h.parts ok e
 refine⟨PS,hhw,e,?_⟩
 have hin:∀p∈l,inP p=true:=fun p hp=>(hsm p hp).inP
 have hR6:1<=R/\R<=1073741824:=by omega
 have hPS25:∀m∈PS,rowOf m<=25:=fun m hm=>by
  obtain⟨p,hp,ep⟩:=rowOf_mem (hpt m hm).1
  rw[<-ep]
  exact hlow p (by rw[<-e];exact List.mem_flatten.2 ⟨m,hm,hp⟩)
 have hfw6:PS.flatten.length<=12145:=by
  have h2:=h.weigh hn h1 hw his ok e
  rw[e]
  have h3:(L wd).length<=(19+wd.size)*(L wd).length:=Nat.le_mul_of_pos_left _ (by omega)
  exact Nat.le_trans h3 (Nat.le_trans h2 (by omega))
 have hnone:getA K manyK≠none:=by rw[hK];simp
 have hsmall:∀P:List GPlace,(∀p∈P,SmallP p)->∀p∈setOf beforeB (P++l),SmallP p:=fun P hP p hp=>by
  rcases List.mem_append.1 ((setOf_mem _ _ _).1 hp)with hp|hp
  ·exact hP p hp
  ·exact hsm p hp
 have hwC:∀{C D:List (List GPlace)},PcOk C->D.Sublist C->(∀p∈C.flatten,SmallP p)->Rising beforeB C.flatten->wPcs wtF n wd D=(19+wd.size)*D.flatten.length:=fun{C D} hpc hD hS hri=>wPcs_is hn hw h1 fun m hm=>⟨(hpc.ne m (hD.subset hm)).1,fun p hp=>hS p (List.mem_flatten.2 ⟨m,hD.subset hm,hp⟩),(List.pairwise_flatten.1 hri).1 m (hD.subset hm)⟩
 have fin:∀(PS':List (List GPlace)) (c':Ch) (X':Tr) (K':LP) (M':PM),TG wtF pg manyK 3 c' X' K' M' manyK 0 V (fun y=>(y∈K.map Prod.fst\/y∈K'.map Prod.fst)\/EX n ws R y)->Rest n wd K K'->preA K' (headW n wd)=PS'.map (pcE n wd)->WsOk PS'->PS'.flatten=setOf beforeB (PS.flatten++l)->(∀m∈PS,∃m2∈PS',rowOf m2=rowOf m)->M'=(if(∃m∈PS',rowOf m=R)then(kA n wd,δ)else(kB n wd,δ))::M1->
   ∃K',FSt pg n V ((if uB n K' R wd=true then(kA n wd,δ)else(kB n wd,δ))::M1) (EX n ws R) (updL L wd (setOf beforeB (L wd++l))) N K' c' X'/\getA K' manyK=some (cntB N)/\Rest n wd K K':=by
  intro PS' c' X' K' M' tg' rest his' ok' hf' hst hM'
  have hcnt:getA K' manyK=some (cntB N):=rest.cnt.trans hK
  have hstay:=h.stay hcnt hw his rest fun m hm=>by
   obtain⟨m2,hm2,er⟩:=hst m hm
   have:=in_keys his' hm2
   unfold pcE at this⊢
   rw[er]at this
   exact .inl this
  have hub:=uB_iff hn hw his' ok' hR6
  have hM2:(if uB n K' R wd=true then(kA n wd,δ)else(kB n wd,δ))::M1=M':=by
   rw[hM']
   by_cases h7:∃m∈PS',rowOf m=R
   ·rw[if_pos h7,if_pos (hub.2 h7)]
   ·rw[if_neg h7,if_neg (fun h8=>h7 (hub.1 h8))]
  rw[<-hM2]at tg'
  obtain⟨r1,r2⟩:=h.built hK hw hs (tg'.less (Nat.le_refl _) (Nat.le_refl _) (A':=fun y=>y∈K'.map Prod.fst\/EX n ws R y) fun y hy=>by
   rcases hy with(h7|h7)|h7
   ·exact hstay y h7
   ·exact .inl h7
   ·exact .inr h7) rest his' ok' (by rw[hf',e]) (hsmall _ (fun p hp=>h.small wd p hp))
  exact⟨K',r1,r2,rest⟩
 have hA0:∀{K1:LP} y,(y∈K.map Prod.fst\/EX n ws R y)->((y∈K.map Prod.fst\/y∈K1.map Prod.fst)\/EX n ws R y):=fun{K1} y hy=>hy.elim (fun h7=>.inl (.inl h7)) .inr
 cases h0:cntR PS R with
 |zero=>
  have hRp:pieceK n wd PS R=(⟨#[]⟩,[]):=by
   unfold pieceK
   rw[h0]
  rw[hRp]
  have at':=atRow_none ok h0
  have hnil:PS=[]:=by
   cases hPS:PS with
   |nil=>rfl
   |cons m r=>
    have h7:=at'.high m (by rw[hPS];exact List.mem_cons_self)
    have h8:=hPS25 m (by rw[hPS];exact List.mem_cons_self)
    omega
  subst hnil
  have hc:CutOk (setOf beforeB ([]++l)):=cut_small (setOf_rising parts_place _) (hsmall [] fun p hp=>by cases hp)
  obtain⟨hok,hflat⟩:=at'.ok ok hl hin hc
  obtain⟨C,hC⟩:∃C,pcs (setOf beforeB ([]++l))=C:=⟨_,rfl⟩
  obtain⟨p1,p2⟩:=pcs_ok hc
  rw[show pcs (setOf beforeB ([].flatten++l))=C from hC]at hok hflat
  rw[hC]at p1 p2
  rw[List.append_nil]at hok hflat
  have hok:WsOk C:=hok
  have hflat:C.flatten=setOf beforeB ([].flatten++l):=hflat
  have hrow:∀m∈C,rowOf m=R:=fun m hm=>by
   obtain⟨p,hp,ep⟩:=rowOf_mem (p2.ne m hm).1
   have:p∈setOf beforeB ([]++l):=by rw[<-p1];exact List.mem_flatten.2 ⟨m,hm,hp⟩
   rw[<-ep]
   exact hl p ((setOf_mem _ _ _).1 this)
  have hle:=setOf_len beforeB ([]++l)
  have hwt:wPcs wtF n wd C<=δ:=by
   rw[hwC p2 (List.Sublist.refl C) (fun p hp=>hsmall [] (fun q hq=>by cases hq) p (by rw[<-p1];exact hp)) (by rw[p1];exact setOf_rising parts_place _),p1,hδ]
   exact Nat.mul_le_mul_left _ hle
  have t1:=((h.tg.perm (List.Perm.swap (kB n wd,δ) (kA n wd,δ) M1)).unpack).moveB (k2:=keyW n wd R) (ltB_asymm (many_keyW n wd R)) (fun h7=>by
   have:=(keyW_lt hn hw (by omega) hR6).1 h7
   omega) (fun y hy hlt=>no_between hn hw his ok hR.2 hR6 (by omega) (fun b hb=>by cases hb) (fun r _ h8 h9=>by omega) hy hlt)
  have hsav:Sav wtF pg 3 n wd c X K K ((kA n wd,δ)::M1) (EX n ws R) [] C [] V:=by
   refine⟨⟨keyW n wd R,δ,t1.less (Nat.le_refl _) (Nat.le_refl _) hA0,hwt,fun m hm=>?_,fun y hy hlt m hm=>?_⟩,his,by rw[List.append_nil];exact hok,Rest.refl n wd K,hnone⟩
   ·show¬ltB (keyW n wd (rowOf m)) _
    rw[hrow m hm]
    exact ltB_irrefl _
   ·show ltB (keyW n wd (rowOf m)) y
    rw[hrow m hm]
    exact hlt
  refine⟨hc,fun p hp=>(hsmall [] (fun p hp=>by cases hp) p hp).inP,by show(setOf beforeB ([]++l)).length<=_;exact Nat.le_trans hle (by show l.length<=_;omega),.inl ⟨rfl,?_⟩⟩
  show PutsOk pg n wd _ (pcs (setOf beforeB ([]++l))) c X
  rw[hC]
  refine(sav_puts wtF_le hn hw (by omega) hV _ hsav).mono fun c' X' ⟨K',h3⟩=>?_
  obtain⟨k,r,tg3,_⟩:=h3.tg
  refine fin C c' X' K' _ (tg3.rest (ltB_irrefl _)) h3.rest (by have:=h3.is;rw[List.append_nil]at this;exact this) hok hflat (fun m hm=>by cases hm) ?_
  have hne:C≠[]:=fun e7=>by
   obtain⟨p,hp⟩:=List.exists_mem_of_ne_nil l hl0
   have:p∈setOf beforeB ([]++l):=(setOf_mem _ _ _).2 hp
   rw[<-p1,e7]at this
   cases this
  obtain⟨m,r,hmr⟩:=List.exists_cons_of_ne_nil hne
  rw[if_pos ⟨m,by rw[hmr];exact List.mem_cons_self,hrow m (by rw[hmr];exact List.mem_cons_self)⟩]
 |succ k=>
  have hk:k<PS.length:=by have:=cntR_le PS R;omega
  have hRp:pieceK n wd PS R=((pcE n wd PS[k]).1,PS[k]):=by
   unfold pieceK
   rw[h0]
   simp only[List.getElem?_eq_getElem hk]
  rw[hRp]
  have at':=atRow_some ok h0 hk
  have hPm:=List.getElem_mem hk
  obtain⟨q1,q2,q3⟩:=hpt PS[k] hPm
  obtain⟨P,hP⟩:∃P,PS[k]=P:=⟨_,rfl⟩
  rw[hP]at at' q1 q2 q3 hPm⊢
  obtain⟨A,hA⟩:∃A,PS.take k=A:=⟨_,rfl⟩
  have hBn:PS.drop (k+1)=[]:=by
   cases hB:PS.drop (k+1)with
   |nil=>rfl
   |cons m r=>
    have h7:=at'.high m (by rw[hB];exact List.mem_cons_self)
    have h8:=hPS25 m (List.mem_of_mem_drop (by rw[hB];exact List.mem_cons_self))
    omega
  rw[hA,hBn]at at'
  have hPSe:PS=A++P::[]:=at'.is
  have hPr:=ok.row hPm
  have hP25:=hPS25 P hPm
  have hc:CutOk (setOf beforeB (P++l)):=cut_small (setOf_rising parts_place _) (hsmall _ q2)
  have e3:[P].flatten=P:=by simp
  obtain⟨hok,hflat⟩:=at'.ok ok hl hin (by rw[e3];exact hc)
  rw[e3,List.append_nil]at hok hflat
  obtain⟨C,hC⟩:∃C,pcs (setOf beforeB (P++l))=C:=⟨_,rfl⟩
  obtain⟨p1,p2⟩:=pcs_ok hc
  rw[hC]at p1 p2 hok hflat
  have hS:∀p∈C.flatten,SmallP p:=fun p hp=>hsmall _ q2 p (by rw[<-p1];exact hp)
  have hri:Rising beforeB C.flatten:=by rw[p1];exact setOf_rising parts_place _
  have hwP:wtF (pcE n wd P).1 (pcE n wd P).2=(19+wd.size)*P.length:=wtF_pc hn hw h1 q1 q2 q3
  have hmem:∀m∈C,∀p∈m,p∈P\/p.1=R:=fun m hm p hp=>by
   have h7:p∈setOf beforeB (P++l):=by rw[<-p1];exact List.mem_flatten.2 ⟨m,hm,hp⟩
   rcases List.mem_append.1 ((setOf_mem _ _ _).1 h7)with h8|h8
   ·exact .inl h8
   ·exact .inr (hl p h8)
  have hP25':∀p∈P,p.1<=25:=fun p hp=>hlow p (by rw[<-e];exact List.mem_flatten.2 ⟨P,hPm,hp⟩)
  have hrowC:∀m∈C,rowOf P<=rowOf m/\(rowOf m<=25\/rowOf m=R):=fun m hm=>by
   obtain⟨p,hp,ep⟩:=rowOf_mem (p2.ne m hm).1
   rcases hmem m hm p hp with h8|h8
   ·have h9:=rising_rows q3 p h8
    have h10:=hP25' p h8
    omega
   ·omega
  have hCne:C≠[]:=fun e7=>by
   obtain⟨p,hp⟩:=List.exists_mem_of_ne_nil l hl0
   have:p∈setOf beforeB (P++l):=(setOf_mem _ _ _).2 (List.mem_append_right _ hp)
   rw[<-p1,e7]at this
   cases this
  have hfirst:∃m∈C,rowOf m=rowOf P:=by
   have:=first_row q1 q3 hl (by omega) hc
   rw[hC]at this
   exact this
  have hst:∀m∈PS,∃m2∈A++C,rowOf m2=rowOf m:=fun m hm=>by
   rw[hPSe]at hm
   rcases List.mem_append.1 hm with h7|h7
   ·exact⟨m,List.mem_append_left _ h7,rfl⟩
   ·rw[List.mem_singleton.1 h7]
    obtain⟨m2,a1,a2⟩:=hfirst
    exact⟨m2,List.mem_append_right _ a1,a2⟩
  have hA25:∀m∈A,rowOf m<=25:=fun m hm=>hPS25 m (by rw[hPSe];exact List.mem_append_left _ hm)
  have his2:=his
  have ok2:=ok
  rw[hPSe]at his2 ok2
  obtain⟨d1,d2⟩:=pieces_drop hn hw ok2
  have hget:getA K (pcE n wd P).1=some (pcE n wd P).2:=by rw[<-getA_pre (k:=(pcE n wd P).1) (s:=headW n wd) (keyW_pre n wd (rowOf P)),his2,d2]
  obtain⟨c1,X1,hd,tgd⟩:=h.tg.drop (k2:=(pcE n wd P).1) (by omega) (ltB_asymm (many_keyW n wd (rowOf P))) (keyW_many n wd (rowOf P)) wtF_le hget hV
  have hisd:preA (dropA K (pcE n wd P).1) (headW n wd)=(A++[]).map (pcE n wd):=by
   rw[preA_drop,his2]
   exact d1
  have restd:Rest n wd K (dropA K (pcE n wd P).1):=(Rest.refl n wd K).drop hw _
  have hle:=setOf_len beforeB (P++l)
  rw[List.length_append]at hle
  have hkl:P.length<=PS.flatten.length:=by
   rw[hPSe,List.flatten_append,List.length_append,e3]
   omega
  rw[hwP]at tgd
  obtain⟨C1,m0,hCe⟩:∃C1 m0,C=C1++[m0]:=⟨C.dropLast,C.getLast hCne,(List.dropLast_concat_getLast hCne).symm⟩
  have hm0:m0∈C:=by rw[hCe];simp
  have hC1:∀m∈C1,rowOf m<=25:=fun m hm=>by
   have h7:=(hrowC m (by rw[hCe];exact List.mem_append_left _ hm)).2
   have ap:=p2.apart
   rw[hCe]at ap
   have h8:=rows_lt (p2.ne m (by rw[hCe];exact List.mem_append_left _ hm)).1 (p2.ne m0 hm0).1 ((List.pairwise_append.1 ap).2.2 m hm m0 (List.mem_singleton.2 rfl))
   have h9:=(hrowC m0 hm0).2
   omega
  have far:∀{D:List (List GPlace)},(∀m∈D,m∈C)->(∀m∈D,rowOf m<=25)->∀y,((y∈K.map Prod.fst\/y∈(dropA K (pcE n wd P).1).map Prod.fst)\/EX n ws R y)->ltB (keyW n wd (rowOf P)) y->∀m∈D,ltB (pcE n wd m).1 y:=fun{D} hD hD25 y hy hlt m hm=>by
   have hrm:=hok.row (List.mem_append_right _ (hD m hm))
   refine no_between (r1:=rowOf m) hn hw his ok hR.2 hPr hrm (fun b hb h8=>?_) (fun r h8 h9 _=>by have:=hD25 m hm;omega) (hy.elim (fun h7=>.inl (h7.elim id fun h8=>by
    obtain⟨x,hx,rfl⟩:=List.mem_map.1 h8
    exact List.mem_map_of_mem (mem_dropA hx))) .inr) hlt
   rw[hPSe]at hb
   rcases List.mem_append.1 hb with h9|h9
   ·have ap:=ok2.pc.apart
    have h10:=(List.pairwise_append.1 ap).2.2 b h9 P List.mem_cons_self
    have h11:=rows_lt (ok2.pc.ne b (List.mem_append_left _ h9)).1 q1 h10
    omega
   ·rw[List.mem_singleton.1 h9]at h8
    omega
  have keyLe:∀m∈C,¬ltB (pcE n wd m).1 (keyW n wd (rowOf P)):=fun m hm h7=>by
   have h8:=(keyW_lt hn hw (hok.row (List.mem_append_right _ hm)) hPr).1 h7
   have:=(hrowC m hm).1
   omega
  refine⟨hc,fun p hp=>(hsmall _ q2 p hp).inP,by show(setOf beforeB (P++l)).length<=_;exact Nat.le_trans hle (Nat.le_trans (Nat.add_le_add (Nat.le_trans hkl hfw6) hl6) (by omega)),.inr ⟨fun e0=>?_,c1,X1,hd,?_⟩⟩
  ·have h3:=congrArg ByteArray.size e0
   have h4:=keyW_size n wd (rowOf P)
   have h5:(pcE n wd P).1=keyW n wd (rowOf P):=rfl
   rw[h5,h4]at h3
   have h6:(⟨#[]⟩:ByteArray).size=0:=rfl
   omega
  rw[hC]
  by_cases hmR:rowOf m0=R
  ·
   have hC1P:∀p∈C1.flatten,p∈P:=fun p hp=>by
    obtain⟨m,hm,hpm⟩:=List.mem_flatten.1 hp
    rcases hmem m (by rw[hCe];exact List.mem_append_left _ hm) p hpm with h7|h7
    ·exact h7
    ·exfalso
     have ap:=p2.apart
     rw[hCe]at ap
     obtain⟨q,hq,eq⟩:=rowOf_mem (p2.ne m0 hm0).1
     have h8:=(List.pairwise_append.1 ap).2.2 m hm m0 (List.mem_singleton.2 rfl) p hpm q hq
     omega
   have hm0l:∀p∈m0,p∈l:=fun p hp=>by
    have h7:p∈setOf beforeB (P++l):=by rw[<-p1];exact List.mem_flatten.2 ⟨m0,hm0,hp⟩
    rcases List.mem_append.1 ((setOf_mem _ _ _).1 h7)with h8|h8
    ·exfalso
     have h9:=hP25' p h8
     have h10:=rising_rows ((List.pairwise_flatten.1 hri).1 m0 hm0) p hp
     omega
    ·exact h8
   have hC1r:Rising beforeB C1.flatten:=by
    have:=hri
    rw[hCe,List.flatten_append]at this
    exact(List.pairwise_append.1 this).1
   have w1:wPcs wtF n wd C1<=(19+wd.size)*P.length:=by
    rw[hwC p2 (by rw[hCe];exact List.sublist_append_left _ _) hS hri]
    exact Nat.mul_le_mul_left _ (nodup_len (rising_nodup hC1r) hC1P)
   have w2:wPcs wtF n wd [m0]<=δ:=by
    rw[hwC (D:=[m0]) p2 (by rw[hCe];exact List.sublist_append_right _ _) hS hri,hδ]
    refine Nat.mul_le_mul_left _ ?_
    rw[show[m0].flatten=m0 by simp]
    exact nodup_len (rising_nodup ((List.pairwise_flatten.1 hri).1 m0 hm0)) hm0l
   have hok1:WsOk (A++(C1++[])):=by
    rw[List.append_nil]
    refine hok.sub ?_
    rw[hCe]
    exact(List.Sublist.refl A).append (List.sublist_append_left _ _)
   have hsav1:Sav wtF pg 3 n wd c1 X1 (dropA K (pcE n wd P).1) K ((kA n wd,δ)::(kB n wd,δ)::M1) (EX n ws R) A C1 [] V:=
    ⟨⟨(pcE n wd P).1,_,tgd.less (Nat.le_refl _) (Nat.le_refl _) hA0,w1,fun m hm=>keyLe m (by rw[hCe];exact List.mem_append_left _ hm),far (fun m hm=>by rw[hCe];exact List.mem_append_left _ hm) hC1⟩,hisd,hok1,restd,hnone⟩
   rw[hCe]
   refine PutsOk_append ((sav_puts wtF_le hn hw (by omega) hV _ hsav1).mono fun c2 X2 ⟨K2,h3⟩=>?_)
   obtain⟨k2,r2,tg2,_⟩:=h3.tg
   have his3:preA K2 (headW n wd)=(A++C1).map (pcE n wd):=by have:=h3.is;rw[List.append_nil]at this;exact this
   have ok3:WsOk (A++C1):=by have:=hok1;rw[List.append_nil]at this;exact this
   have t1:=(((tg2.rest (ltB_irrefl _)).perm (List.Perm.swap (kB n wd,δ) (kA n wd,δ) M1)).unpack).moveB (k2:=keyW n wd R) (ltB_asymm (many_keyW n wd R)) (fun h7=>by
    have:=(keyW_lt hn hw (by omega) hR6).1 h7
    omega) (fun y hy hlt=>by
     have hX:∀r,1000<=r->r<=R->R<r->(1073741824:Int)<r:=fun r _ h8 h9=>by omega
     rcases hy with(h7|h7)|h7
     ·exact no_between (ws:=ws) hn hw his ok hR.2 hR6 (by omega) (fun b hb h9=>by have:=hPS25 b hb;omega) hX (.inl h7) hlt
     ·exact no_between (ws:=ws) hn hw his3 ok3 hR.2 hR6 (by omega) (fun b hb h9=>by
       rcases List.mem_append.1 hb with h10|h10
       ·have:=hA25 b h10;omega
       ·have:=hC1 b h10;omega) hX (.inl h7) hlt
     ·exact no_between (ws:=ws) hn hw his ok hR.2 hR6 (by omega) (fun b hb h9=>by have:=hPS25 b hb;omega) hX (.inr h7) hlt)
   have hkm:(pcE n wd m0).1=keyW n wd R:=by
    show keyW n wd (rowOf m0)=_
    rw[hmR]
   have hsav2:Sav wtF pg 3 n wd c2 X2 K2 K ((kA n wd,δ)::M1) (EX n ws R) (A++C1) [m0] [] V:=by
    refine⟨⟨keyW n wd R,δ,t1,w2,fun m hm=>?_,fun y hy hlt m hm=>?_⟩,h3.is,?_,h3.rest,hnone⟩
    ·rw[List.mem_singleton.1 hm,hkm]
     exact ltB_irrefl _
    ·rw[List.mem_singleton.1 hm,hkm]
     exact hlt
    ·have h7:=hok
     rw[hCe,<-List.append_assoc]at h7
     exact h7
   refine(sav_puts wtF_le hn hw (by omega) hV _ hsav2).mono fun c' X' ⟨K',h4⟩=>?_
   obtain⟨k4,r4,tg4,_⟩:=h4.tg
   have e5:A++C1++[m0]++[]=A++C:=by rw[hCe];simp
   refine fin (A++C) c' X' K' _ (tg4.rest (ltB_irrefl _)) h4.rest (by rw[<-e5];exact h4.is) hok hflat hst ?_
   rw[if_pos ⟨m0,List.mem_append_right _ hm0,hmR⟩]
  ·
   have hC25:∀m∈C,rowOf m<=25:=fun m hm=>by
    rw[hCe]at hm
    rcases List.mem_append.1 hm with h7|h7
    ·exact hC1 m h7
    ·rw[List.mem_singleton.1 h7]
     have:=(hrowC m0 hm0).2
     omega
   have w1:wPcs wtF n wd C<=(19+wd.size)*P.length+δ:=by
    rw[hwC p2 (List.Sublist.refl C) hS hri,p1,hδ,<-Nat.mul_add]
    exact Nat.mul_le_mul_left _ hle
   have t1:=tgd.shiftB (k2:=keyW n wd (rowOf P)) (ltB_asymm (many_keyW n wd (rowOf P))) (fun h7=>by
    have:=(keyW_lt hn hw (by omega) hPr).1 h7
    omega) (fun y hy hlt=>no_between hn hw his ok hR.2 hPr (by omega) (fun b hb h8=>by
     rw[hPSe]at hb
     rcases List.mem_append.1 hb with h9|h9
     ·have ap:=ok2.pc.apart
      have h10:=(List.pairwise_append.1 ap).2.2 b h9 P List.mem_cons_self
      have h11:=rows_lt (ok2.pc.ne b (List.mem_append_left _ h9)).1 q1 h10
      omega
     ·rw[List.mem_singleton.1 h9]at h8
      omega) (fun r h8 _ _=>by omega) hy hlt)
   have t2:=t1.take
   have hsav1:Sav wtF pg 3 n wd c1 X1 (dropA K (pcE n wd P).1) K ((kB n wd,δ)::M1) (EX n ws R) A C [] V:=
    ⟨⟨(pcE n wd P).1,_,t2.less (Nat.le_refl _) (Nat.le_refl _) hA0,w1,keyLe,far (fun m hm=>hm) hC25⟩,hisd,by rw[List.append_nil];exact hok,restd,hnone⟩
   refine(sav_puts wtF_le hn hw (by omega) hV _ hsav1).mono fun c' X' ⟨K',h4⟩=>?_
   obtain⟨k4,r4,tg4,_⟩:=h4.tg
   refine fin (A++C) c' X' K' _ (tg4.rest (ltB_irrefl _)) h4.rest (by have:=h4.is;rw[List.append_nil]at this;exact this) hok hflat hst ?_
   rw[if_neg]
   rintro⟨m,hm,er⟩
   rcases List.mem_append.1 hm with h7|h7
   ·have:=hA25 m h7
    omega
   ·have:=hC25 m h7
    omega
end
end Go.Proofs.YtldmhjbdahjhdaaGreatDoor.Ev
