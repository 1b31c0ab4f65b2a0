/-
  Part 27 of the proof.
-/
import Derived.Test.YtldmhjbdahjhdaaGreatDoorZc26
import Derived.Test.YtldmhjbdahjhdaaGreatDoorZc25
set_option maxRecDepth 100000
set_option maxHeartbeats 100000000
set_option linter.all false
namespace Go.Proofs.YtldmhjbdahjhdaaGreatDoor.Ev
open Go Go.RowKit
def wo(R:Int)(P:List GPlace):List GPlace:=P.filter fun x=>!(x.1==R)
theorem wo_mem{R:Int}{P:List GPlace}{p:GPlace}:p∈wo R P↔p∈P/\p.1≠R:=by
 unfold wo
 rw[List.mem_filter]
 simp
theorem wo_len(R:Int):∀P:List GPlace,(wo R P).length+(P.filter fun x=>x.1==R).length=P.length
 |[]=>rfl
 |p::P=>by
  have ih:=wo_len R P
  unfold wo at ih⊢
  rw[List.filter_cons,List.filter_cons,List.length_cons]
  cases(p.1==R)
  ·simp only[Bool.not_false,if_true,Bool.false_eq_true,if_false,List.length_cons]
   omega
  ·simp only[Bool.not_true,Bool.false_eq_true,if_false,if_true,List.length_cons]
   omega
section
variable{pg:Nat->ByteArray}{n:ByteArray}{V N:Nat}{L:Ct}{K:LP}{c:Ch}{X:Tr}
theorem FSt.more_drop{M1:PM}(hn:OkW n)(h1:n.size<=1){ws:List ByteArray}{R:Int}(hR:1000<=R/\R<=1100){wd:ByteArray}(hw:OkW wd)(hs:wd.size<=12)(hwd:wd∈ws){L0 l:List GPlace}(hL:L wd=setOf beforeB (L0++l))(hl0:l≠[])(hl:∀p∈l,p.1=R)(hlr:Rising beforeB l)(h0r:Rising beforeB L0)(hlow:∀p∈L0,p.1<=25){δ:Nat}(hδ:δ=(19+wd.size)*l.length)
  (h:FSt pg n V ((if uB n K R wd=true then(kA n wd,δ)else(kB n wd,δ))::M1) (EX n ws R) L N K c X) (hK:getA K manyK=some (cntB N)) (hV:V<12145) {PS:List (List GPlace)} (his:preA K (headW n wd)=PS.map (pcE n wd)) (ok:WsOk PS) (e:PS.flatten=L wd):
  (pieceK n wd PS R).1≠⟨#[]⟩/\(pieceK n wd PS R).2.length<=100000/\(wo R (pieceK n wd PS R).2).length+l.length=(pieceK n wd PS R).2.length/\
  SaveOk pg n wd (pieceK n wd PS R).1 (wo R (pieceK n wd PS R).2) (fun c' X'=>∃K',FSt pg n V ((kA n wd,δ)::(kB n wd,δ)::M1) (EX n ws R) (updL L wd L0) N K' c' X'/\getA K' manyK=some (cntB N)/\Rest n wd K K') c X:=by
 have hpt:=h.parts ok e
 have hR6:1<=R/\R<=1073741824:=by omega
 have hnone:getA K manyK≠none:=by rw[hK];simp
 have hmemL:∀p,p∈PS.flatten↔p∈L0\/p∈l:=fun p=>by rw[e,hL,setOf_mem,List.mem_append]
 have hfw6:PS.flatten.length<=12145:=by
  have h2:=h.weigh hn h1 hw his ok e
  rw[e]
  have h3:(L wd).length<=(19+wd.size)*(L wd).length:=Nat.le_mul_of_pos_left _ (by omega)
  exact Nat.le_trans h3 (Nat.le_trans h2 (by omega))
 have hrows:∀p∈PS.flatten,p.1<=25\/p.1=R:=fun p hp=>((hmemL p).1 hp).elim (fun h7=>.inl (hlow p h7)) fun h7=>.inr (hl p h7)
 have hrowP:∀m∈PS,rowOf m<=25\/rowOf m=R:=fun m hm=>by
  obtain⟨p,hp,ep⟩:=rowOf_mem (hpt m hm).1
  rw[<-ep]
  exact hrows p (List.mem_flatten.2 ⟨m,hm,hp⟩)
 obtain⟨p0,hp0⟩:=List.exists_mem_of_ne_nil l hl0
 obtain⟨mm,hmm,hpm⟩:=List.mem_flatten.1 ((hmemL p0).2 (.inr hp0))
 obtain⟨k,h0⟩:∃k,cntR PS R=k+1:=by
  cases h0:cntR PS R with
  |zero=>
   have at':=atRow_none ok h0
   have h7:=at'.high mm hmm
   have h8:=hrowP mm hmm
   omega
  |succ k=>exact⟨k,rfl⟩
 have hk:k<PS.length:=by have:=cntR_le PS R;omega
 have hRp:pieceK n wd PS R=((pcE n wd PS[k]).1,PS[k]):=by
  unfold pieceK
  rw[h0]
  simp only[List.getElem?_eq_getElem hk]
 rw[hRp]
 have at':=atRow_some ok h0 hk
 have hPm:=List.getElem_mem hk
 obtain⟨q1,q2,q3⟩:=hpt PS[k] hPm
 obtain⟨P,hP⟩:∃P,PS[k]=P:=⟨_,rfl⟩
 rw[hP]at at' q1 q2 q3 hPm⊢
 obtain⟨A,hA⟩:∃A,PS.take k=A:=⟨_,rfl⟩
 have hBn:PS.drop (k+1)=[]:=by
  cases hB:PS.drop (k+1)with
  |nil=>rfl
  |cons m r=>
   have h7:=at'.high m (by rw[hB];exact List.mem_cons_self)
   have h8:=hrowP m (List.mem_of_mem_drop (by rw[hB];exact List.mem_cons_self))
   omega
 rw[hA,hBn]at at'
 have hPSe:PS=A++P::[]:=at'.is
 have hPr:=ok.row hPm
 have e3:[P].flatten=P:=by simp
 have his2:=his
 have ok2:=ok
 rw[hPSe]at his2 ok2
 have ap:=ok2.pc.apart
 have apA:=(List.pairwise_append.1 ap).2.2
 have hflatP:PS.flatten=A.flatten++P:=by rw[hPSe,List.flatten_append,e3]
 have hProw:∀p∈P,p.1<=25\/p.1=R:=fun p hp=>hrows p (by rw[hflatP];exact List.mem_append_right _ hp)
 have hA25p:∀p∈A.flatten,p.1<=25:=fun p hp=>by
  obtain⟨m,hm,hpm⟩:=List.mem_flatten.1 hp
  obtain⟨q,hq⟩:=List.exists_mem_of_ne_nil P q1
  have h7:=apA m hm P List.mem_cons_self p hpm q hq
  have h8:=hProw q hq
  have h9:=hrows p (by rw[hflatP];exact List.mem_append_left _ hp)
  omega
 have hA25:∀m∈A,rowOf m<=25:=fun m hm=>by
  obtain⟨p,hp,ep⟩:=rowOf_mem (ok2.pc.ne m (List.mem_append_left _ hm)).1
  rw[<-ep]
  exact hA25p p (List.mem_flatten.2 ⟨m,hm,hp⟩)
 have hbig:∀b∈PS,¬rowOf P<rowOf b:=fun b hb h8=>by
  rw[hPSe]at hb
  rcases List.mem_append.1 hb with h9|h9
  ·have h10:=apA b h9 P List.mem_cons_self
   have h11:=rows_lt (ok2.pc.ne b (List.mem_append_left _ h9)).1 q1 h10
   omega
  ·rw[List.mem_singleton.1 h9]at h8
   omega
 have hcl:(P.filter fun x=>x.1==R).length=l.length:=by
  refine Nat.le_antisymm (nodup_len ((rising_nodup q3).sublist List.filter_sublist) fun p hp=>?_) (nodup_len (rising_nodup hlr) fun p hp=>?_)
  ·obtain⟨h7,h8⟩:=List.mem_filter.1 hp
   have h8:p.1=R:=by simpa using h8
   rcases(hmemL p).1 (by rw[hflatP];exact List.mem_append_right _ h7)with h9|h9
   ·have:=hlow p h9
    omega
   ·exact h9
  ·have h7:=(hmemL p).2 (.inr hp)
   have h8:=hl p hp
   rw[hflatP]at h7
   rcases List.mem_append.1 h7 with h9|h9
   ·have:=hA25p p h9
    omega
   ·exact List.mem_filter.2 ⟨h9,by simpa using h8⟩
 have hwl:=wo_len R P
 rw[hcl]at hwl
 have hwr:Rising beforeB (wo R P):=q3.sublist List.filter_sublist
 have hws:∀p∈wo R P,SmallP p:=fun p hp=>q2 p (wo_mem.1 hp).1
 have hw25:∀p∈wo R P,p.1<=25:=fun p hp=>by
  obtain⟨h7,h8⟩:=wo_mem.1 hp
  have:=hProw p h7
  omega
 have hL0:A.flatten++wo R P=L0:=by
  have hr:Rising beforeB (A.flatten++wo R P):=by
   have h7:Rising beforeB (A.flatten++P):=by rw[<-hflatP];exact ok.flat
   exact h7.sublist ((List.Sublist.refl _).append List.filter_sublist)
  have e1:A.flatten++wo R P=setOf beforeB L0:=setOf_eq parts_place hr fun p=>by
   rw[List.mem_append,wo_mem]
   constructor
   ·intro h7
    have h8:p∈PS.flatten:=by
     rw[hflatP]
     exact List.mem_append.2 (h7.imp id fun h=>h.1)
    rcases(hmemL p).1 h8 with h9|h9
    ·exact h9
    ·exfalso
     have h10:=hl p h9
     rcases h7 with h11|h11
     ·have:=hA25p p h11
      omega
     ·exact h11.2 h10
   ·intro h7
    have h8:=(hmemL p).2 (.inl h7)
    rw[hflatP]at h8
    have h9:=hlow p h7
    exact(List.mem_append.1 h8).imp id fun h=>⟨h,by omega⟩
  rw[e1]
  exact(setOf_eq parts_place h0r fun _=>Iff.rfl).symm
 have hPle:P.length<=100000:=by
  have:P.length<=PS.flatten.length:=by rw[hflatP,List.length_append];omega
  omega
 have hwP:wtF (pcE n wd P).1 (pcE n wd P).2=(19+wd.size)*P.length:=wtF_pc hn hw h1 q1 q2 q3
 obtain⟨d1,d2⟩:=pieces_drop hn hw ok2
 have hget:getA K (pcE n wd P).1=some (pcE n wd P).2:=by rw[<-getA_pre (k:=(pcE n wd P).1) (s:=headW n wd) (keyW_pre n wd (rowOf P)),his2,d2]
 obtain⟨c1,X1,hd,tgd⟩:=h.tg.drop (k2:=(pcE n wd P).1) (by omega) (ltB_asymm (many_keyW n wd (rowOf P))) (keyW_many n wd (rowOf P)) wtF_le hget hV
 have hisd:preA (dropA K (pcE n wd P).1) (headW n wd)=(A++[]).map (pcE n wd):=by
  rw[preA_drop,his2]
  exact d1
 have restd:Rest n wd K (dropA K (pcE n wd P).1):=(Rest.refl n wd K).drop hw _
 rw[hwP]at tgd
 have hub:=uB_iff hn hw his ok hR6
 have hcw:CutOk (wo R P):=cut_small hwr hws
 have hkne:(pcE n wd P).1≠⟨#[]⟩:=fun e0=>by
  have h3:=congrArg ByteArray.size e0
  have h4:=keyW_size n wd (rowOf P)
  have h5:(pcE n wd P).1=keyW n wd (rowOf P):=rfl
  rw[h5,h4]at h3
  have h6:(⟨#[]⟩:ByteArray).size=0:=rfl
  omega
 refine⟨hkne,hPle,hwl,hcw,fun p hp=>(hws p hp).inP,by show(wo R P).length<=_;omega,.inr ⟨hkne,c1,X1,hd,?_⟩⟩
 show PutsOk pg n wd _ (pcs (wo R P)) c1 X1
 rcases hrowP P hPm with hP25|hPR
 ·
  have hun:¬uB n K R wd=true:=fun h7=>by
   obtain⟨m,hm,er⟩:=hub.1 h7
   rw[hPSe]at hm
   rcases List.mem_append.1 hm with h8|h8
   ·have:=hA25 m h8
    omega
   ·rw[List.mem_singleton.1 h8]at er
    omega
  rw[if_neg hun]at tgd
  have hwne:wo R P≠[]/\rowOf (wo R P)=rowOf P:=by
   cases hPc:P with
   |nil=>exact absurd hPc q1
   |cons a r=>
    have ha:a.1=rowOf P:=by rw[hPc];rfl
    have hne:(!(a.1==R))=true:=by
     have:a.1≠R:=by omega
     simpa using this
    have e4:wo R (a::r)=a::wo R r:=by
     exact List.filter_cons_of_pos (p:=fun x:GPlace=>!(x.1==R)) hne
    rw[e4]
    exact⟨by simp,rfl⟩
  have hwt0:(19+wd.size)*(wo R P).length+δ<=(19+wd.size)*P.length:=by
   rw[hδ,<-Nat.mul_add,hwl]
   exact Nat.le_refl _
  have t1:=(tgd.lay hwt0).shift (k2:=kA n wd) (fun h7=>by
   have:=(keyW_lt hn hw (by omega) hPr).1 h7
   omega) (fun y hy hlt=>no_between hn hw his ok hR.2 hPr (by omega) (fun b hb h8=>absurd h8 (hbig b hb)) (fun r h8 _ _=>by omega) hy hlt)
  obtain⟨C,hC⟩:∃C,pcs (wo R P)=C:=⟨_,rfl⟩
  obtain⟨p1,p2⟩:=pcs_ok hcw
  rw[hC]at p1 p2⊢
  have hCm:∀m∈C,∀p∈m,p∈wo R P:=fun m hm p hp=>by rw[<-p1];exact List.mem_flatten.2 ⟨m,hm,hp⟩
  have hCr:Rising beforeB C.flatten:=by rw[p1];exact hwr
  have hok:WsOk (A++C):=by
   have okA:WsOk A:=ok2.sub (List.sublist_append_left _ _)
   refine⟨⟨fun m hm=>(List.mem_append.1 hm).elim (okA.pc.ne m) (p2.ne m),List.pairwise_append.2 ⟨okA.pc.apart,p2.apart,fun a ha m hm p hp q hq=>apA a ha P List.mem_cons_self p hp q (wo_mem.1 (hCm m hm q hq)).1⟩⟩,fun m hm=>(List.mem_append.1 hm).elim (okA.fine m) fun h7 p hp=>(hws p (hCm m h7 p hp)).inP,fun m hm=>(List.mem_append.1 hm).elim (okA.up m) fun h7=>(List.pairwise_flatten.1 hCr).1 m h7⟩
  have hrowC:∀m∈C,rowOf P<=rowOf m/\rowOf m<=25:=fun m hm=>by
   obtain⟨p,hp,ep⟩:=rowOf_mem (p2.ne m hm).1
   have h7:=hCm m hm p hp
   have h8:=rising_rows q3 p (wo_mem.1 h7).1
   have h9:=hw25 p h7
   omega
  have w1:wPcs wtF n wd C<=(19+wd.size)*(wo R P).length:=by
   rw[wPcs_is hn hw h1 fun m hm=>⟨(p2.ne m hm).1,fun p hp=>hws p (hCm m hm p hp),(List.pairwise_flatten.1 hCr).1 m hm⟩,p1]
   exact Nat.le_refl _
  have hsav:Sav wtF pg 3 n wd c1 X1 (dropA K (pcE n wd P).1) K ((kA n wd,δ)::(kB n wd,δ)::M1) (EX n ws R) A C [] V:=by
   refine⟨⟨(pcE n wd P).1,_,t1.less (Nat.le_refl _) (Nat.le_refl _) (fun y hy=>hy.elim (fun h7=>.inl (.inl h7)) .inr),w1,fun m hm h7=>?_,fun y hy hlt m hm=>?_⟩,hisd,by rw[List.append_nil];exact hok,restd,hnone⟩
   ·have h8:=(keyW_lt hn hw (hok.row (List.mem_append_right _ hm)) hPr).1 h7
    have:=(hrowC m hm).1
    omega
   ·have hrm:=hok.row (List.mem_append_right _ hm)
    exact no_between (r1:=rowOf m) hn hw his ok hR.2 hPr hrm (fun b hb h8=>absurd h8 (hbig b hb)) (fun r h8 _ _=>by have:=(hrowC m hm).2;omega) (hy.elim (fun h7=>.inl (h7.elim id fun h8=>by
     obtain⟨x,hx,rfl⟩:=List.mem_map.1 h8
     exact List.mem_map_of_mem (mem_dropA hx))) .inr) hlt
  refine(sav_puts wtF_le hn hw (by omega) hV _ hsav).mono fun c' X' ⟨K',h4⟩=>?_
  obtain⟨k4,r4,tg4,_⟩:=h4.tg
  have his4:preA K' (headW n wd)=(A++C).map (pcE n wd):=by have:=h4.is;rw[List.append_nil]at this;exact this
  have hcnt:getA K' manyK=some (cntB N):=h4.rest.cnt.trans hK
  have hfirst:∃m∈C,rowOf m=rowOf P:=by
   cases hC2:C with
   |nil=>
    rw[hC2]at p1
    exact absurd p1.symm hwne.1
   |cons m r=>
    refine⟨m,List.mem_cons_self,?_⟩
    have hm0:m≠[]:=(p2.ne m (by rw[hC2];exact List.mem_cons_self)).1
    rw[<-hwne.2,<-p1,hC2,List.flatten_cons,rowOf_append hm0]
  have hstay:=h.stay hcnt hw his h4.rest fun m hm=>by
   rw[hPSe]at hm
   rcases List.mem_append.1 hm with h7|h7
   ·exact .inl (in_keys his4 (List.mem_append_left _ h7))
   ·rw[List.mem_singleton.1 h7]
    obtain⟨m2,a1,a2⟩:=hfirst
    have:=in_keys his4 (List.mem_append_right A a1)
    unfold pcE at this⊢
    rw[a2]at this
    exact .inl this
  obtain⟨r1,r2⟩:=h.built hK hw hs ((tg4.rest (ltB_irrefl _)).less (Nat.le_refl _) (Nat.le_refl _) (A':=fun y=>y∈K'.map Prod.fst\/EX n ws R y) fun y hy=>by
   rcases hy with(h7|h7)|h7
   ·exact hstay y h7
   ·exact .inl h7
   ·exact .inr h7) h4.rest his4 hok (x:=L0) (by rw[List.flatten_append,p1,hL0]) (fun p hp=>h.small wd p (by rw[hL];exact(setOf_mem _ _ _).2 (List.mem_append_left _ hp)))
  exact⟨K',r1,r2,h4.rest⟩
 ·
  have hup:uB n K R wd=true:=hub.2 ⟨P,hPm,hPR⟩
  rw[if_pos hup]at tgd
  have hw0:wo R P=[]:=by
   refine List.eq_nil_iff_forall_not_mem.2 fun p hp=>?_
   obtain⟨h7,h8⟩:=wo_mem.1 hp
   have h9:=rising_rows q3 p h7
   have h10:=hProw p h7
   omega
  rw[hw0]at hwl hL0⊢
  have hPl:P.length=l.length:=by
   rw[<-hwl]
   simp
  rw[hPl,<-hδ]at tgd
  show∃K',_
  have t1:=(tgd.move (k2:=kB n wd) (fun h7=>by
   have:=(keyW_lt hn hw (by omega) hPr).1 h7
   omega) (fun y hy hlt=>no_between hn hw his ok hR.2 hPr (by omega) (fun b hb h8=>absurd h8 (hbig b hb)) (fun r h8 h9 h10=>by omega) hy hlt)).pack (k2:=manyK) (ltB_irrefl _)
  have t2:=t1.perm (List.Perm.swap (kA n wd,δ) (kB n wd,δ) M1)
  have his4:preA (dropA K (pcE n wd P).1) (headW n wd)=A.map (pcE n wd):=by rw[hisd,List.append_nil]
  have hcnt:getA (dropA K (pcE n wd P).1) manyK=some (cntB N):=restd.cnt.trans hK
  have hstay:=h.stay hcnt hw his restd fun m hm=>by
   rw[hPSe]at hm
   rcases List.mem_append.1 hm with h7|h7
   ·exact .inl (in_keys his4 h7)
   ·rw[List.mem_singleton.1 h7]
    exact .inr ⟨wd,hwd,hw,R,⟨hR.1,Int.le_refl _⟩,by show keyW n wd (rowOf P)=_;rw[hPR]⟩
  obtain⟨r1,r2⟩:=h.built hK hw hs (t2.less (Nat.le_refl _) (Nat.le_refl _) (A':=fun y=>y∈(dropA K (pcE n wd P).1).map Prod.fst\/EX n ws R y) fun y hy=>by
   rcases hy with h7|h7
   ·exact hstay y h7
   ·exact .inr h7) restd his4 (ok2.sub (List.sublist_append_left _ _)) (x:=L0) (by rw[<-hL0,List.append_nil]) (fun p hp=>h.small wd p (by rw[hL];exact(setOf_mem _ _ _).2 (List.mem_append_left _ hp)))
  exact⟨_,r1,r2,restd⟩
end
end Go.Proofs.YtldmhjbdahjhdaaGreatDoor.Ev
namespace Go.Proofs.YtldmhjbdahjhdaaGreatDoor
section
open Go Go.RowKit
def len1{α:Type}(l:List (List α)):Nat:=(l.map fun x=>x.length+1).sum
theorem runs_sum(p:UInt8->Bool):∀(l cur:List UInt8),len1 (runsA p cur l)<=cur.length+l.length+1
 |[],cur=>by
  rw[runsA]
  split
  ·simp[len1]
  ·simp[len1]
 |c::l,cur=>by
  rw[runsA]
  split
  ·have:=runs_sum p l (cur++[c])
   rw[List.length_append]at this
   simp only[List.length_cons,List.length_nil]at this⊢
   omega
  ·split
   ·have:=runs_sum p l []
    simp only[List.length_cons,List.length_nil]at this⊢
    omega
   ·have:=runs_sum p l []
    have e:len1 (cur::runsA p [] l)=cur.length+1+len1 (runsA p [] l):=by simp[len1]
    rw[e]
    simp only[List.length_cons,List.length_nil]at this⊢
    omega
theorem stemL_le:∀(T:List (List UInt8×List UInt8)) (s:List UInt8),(∀e∈T,e.2.length<=e.1.length)->(stemL T s).length<=s.length
 |[],s,_=>Nat.le_refl _
 |( e,r)::rest,s,h=>by
   rw[stemL]
   have h1:=h (e,r) List.mem_cons_self
   simp only at h1
   split
   · rename_i hs
     split
     ·exact Nat.le_refl _
     ·rename_i h3
      have h4:e.length<=s.length:=(List.isSuffixOf_iff_suffix.1 hs).length_le
      rw[List.length_append,List.length_take]
      omega
   · exact stemL_le rest s fun e he=>h e (List.mem_cons_of_mem _ he)
theorem endsT_le:∀e∈endsT,e.2.length<=e.1.length:=by decide
theorem wordY_le(y:List UInt8):(wordY y).data.toList.length<=y.length:=by
 unfold wordY stemS
 refine Nat.le_trans (stemL_le endsT _ endsT_le) ?_
 simp only[List.length_take]
 omega
theorem fine_ok{w:ByteArray}(h:FineW w.data.toList):OkW w/\w.size<=12/\1<=w.size:=by
 refine⟨⟨?_,by have:=h.2.1;omega⟩,by rw[size_data];exact h.2.1,?_⟩
 ·rw[List.all_eq_true]
  intro c hc
  have h2:=List.all_eq_true.1 h.2.2 c hc
  have h3:c≠0:=by
   intro e
   subst e
   revert h2
   decide
  simpa using h3
 ·rw[size_data]
  cases h4:w.data.toList with
  |nil=>exact absurd h4 h.1
  |cons a l=>simp
theorem len1_words(l:List (List UInt8)):len1 (l.map fun x=>(wordY (x.map smallC)).data.toList)<=len1 l:=by
 induction l with
 |nil=>exact Nat.le_refl _
 |cons x l ih=>
  have h1:=wordY_le (x.map smallC)
  rw[List.length_map]at h1
  simp only[len1,List.map_cons,List.sum_cons]at ih⊢
  omega
theorem wSum_len(l:List ByteArray):wSum l=18*l.length+len1 (l.map fun x=>x.data.toList):=by
 induction l with
 |nil=>rfl
 |cons x l ih=>
  rw[wSum_cons,ih]
  simp only[len1,List.map_cons,List.sum_cons,List.length_cons,size_data]
  omega
theorem len1_two(l:List ByteArray)(h:∀x∈l,1<=x.size):2*l.length<=len1 (l.map fun x=>x.data.toList):=by
 induction l with
 |nil=>exact Nat.le_refl _
 |cons x l ih=>
  have h1:=h x List.mem_cons_self
  have h2:=ih fun y hy=>h y (List.mem_cons_of_mem _ hy)
  rw[size_data]at h1
  simp only[len1,List.map_cons,List.sum_cons,List.length_cons]at h2⊢
  omega
theorem short_words{s:ByteArray}(hs:s.size<=40):(splitS s).length<=20/\wSum (splitS s)<=401/\∀w∈splitS s,OkW w/\w.size<=12:=by
 have hf:∀w∈splitS s,OkW w/\w.size<=12/\1<=w.size:=fun w hw=>fine_ok (splitS_fine s w hw)
 have h1:len1 ((splitS s).map fun x=>x.data.toList)<=41:=by
  rw[splitS_eq,List.map_map]
  refine Nat.le_trans (len1_words _) ?_
  have:=runs_sum letterB s.data.toList []
  rw[size_data]at hs
  simp only[List.length_nil]at this
  omega
 have h2:=len1_two (splitS s) fun x hx=>(hf x hx).2.2
 refine⟨by omega,by rw[wSum_len];omega,fun w hw=>⟨(hf w hw).1,(hf w hw).2.1⟩⟩
end
end Go.Proofs.YtldmhjbdahjhdaaGreatDoor
namespace Go.Proofs.YtldmhjbdahjhdaaGreatDoor.Ev
open Go Go.RowKit
section
variable{w0 w:World}{FP TP PB DB M:Nat}{c:Ch}{sv:Head}{t:Int}{d:Dk}
structure DropOk1(pg:Nat->ByteArray)(n wd:ByteArray)(row:Int)(Q:Ch->Tr->Prop)(c:Ch)(X:Tr):Prop where
 lays:X.lays c pg 3
 ex:∃PS N N1,HasW X n wd PS/\X.get manyK=some (cntB N)/\N<=1000/\(pieceK n wd PS row).1≠⟨#[]⟩/\(wo row (pieceK n wd PS row).2).length<(pieceK n wd PS row).2.length/\N1+(pieceK n wd PS row).2.length=N+(wo row (pieceK n wd PS row).2).length/\
  ∃c1 X1,putR c 3 X manyK (cntB N1)=(c1,X1,0)/\X1.lays c1 pg 3/\SaveOk pg n wd (pieceK n wd PS row).1 (wo row (pieceK n wd PS row).2) Q c1 X1
structure DropAt(I:List ByteArray->Ch->Tr->Prop)(w0 w1 w:World)(FP TP PB DB M:Nat)(sv:Head)(t:Int)(d:Dk)(todo:List ByteArray):Prop where
 ex:∃c X,FdW w FP TP PB DB M c sv t d/\I todo c X
 fr:PgF PB DB M M w1 w
 gr0:Gr w0 w
 nd:todo.Nodup
theorem drop_w{I:List ByteArray->Ch->Tr->Prop}(hB:BaseAt w0 PB DB M)(hg0:Gr w0 w)(hF:FdW w FP TP PB DB M c sv t d){X:Tr}{todo0:List ByteArray}(hI:I todo0 c X){n text:ByteArray}(hn:OkW n)(hn1:1<=n.size/\n.size<=16){row:Int}(hrow:1<=row/\row<=1073741824)(htx:text.size<=40)(hnd:todo0.Nodup)(htd:∀x,x∈todo0↔x∈splitS text)(hok:∀x∈splitS text,OkW x)
   (hstep:∀t1 wd t2 c X,I (t1++wd::t2) c X->DropOk1 d.pg n wd row (I (t1++t2)) c X):
   Calls Tryz.prog 17 #[.pointer (some ⟨FP,0,none⟩),.string n,.int .i64 row,.string text] w fun e w'=>e=.returned .nilIface/\∃c' X',FdW w' FP TP PB DB M c' sv t d/\I [] c' X'/\PgF PB DB M M w w':=by
 have hright:=fun W=>right_w (n:=n) (r:=row) hn hn1 hrow W
 have hwords:=fun(W:World) (g:Gr w0 W)=>words_w row text (by omega) W (hB.ends.gr g) (by have:=(short_words htx).1;omega) (fun x hx=>by have:=(hok x hx).len;rw[size_data];omega)
 obtain⟨ws,hws⟩:∃ws,splitS text=ws:=⟨_,rfl⟩
 simp only[hws]at hwords htd hok
 have HRT:=Lib.hid hright
 have HWD:=Lib.hid hwords
 have HOK:=Lib.hid hok
 have HTD:=Lib.hid htd
 have HND:=Lib.hid hnd
 have HST:=Lib.hid hstep
 have HX:=Lib.hid (And.intro hB (And.intro hg0 (And.intro hF (And.intro hI (And.intro hn hrow)))))
 clear hright hwords hok htd hnd hstep hB hg0 hF hI hn hn1 hrow hws
 go_enter Tryz.func17,Tryz.ntmps17
 go_wp2_with fail
 refine(HRT.out w).mono ?_
 rintro e w2 ⟨rfl,hg2⟩
 have hwd:=HWD.out w2 (HX.out.2.1.trans hg2)
 have HWD2:=Lib.hid hwd
 have HG2:=Lib.hid hg2
 clear hg2 hwd
 go_wp2_with fail
 refine HWD2.out.mono ?_
 rintro e w3 ⟨MB,rfl,hgrp,hg3⟩
 have hlt:=HX.out.2.2.1.lt
 have hw2s:=HG2.out.size
 have HMB:=Lib.hid (Nat.le_trans hw2s hgrp.lo)
 obtain⟨⟨F,hmF,hnF,_⟩,hoff⟩:=hgrp.rem (PB:=PB) (DB:=DB) (M:=M) (by omega)
 have HG3:=Lib.hid (HG2.out.trans hg3)
 have HMF:=Lib.hid hmF
 have HNF:=Lib.hid hnF
 have HOFF:=Lib.hid hoff
 have HF3:=Lib.hid (HX.out.2.2.1.gr HG3.out)
 obtain⟨IT,hIT⟩:∃IT,w3.heap.size=IT:=⟨_,rfl⟩
 have HIT:=Lib.hid hIT
 clear hgrp hg3 hlt hw2s hmF hnF hoff hIT
 go_wp2_with(at_range;refine wpList_rangeK (kk:=keyS) mapP_type rfl _ rfl HMF.out rfl ?_;intro w4 cnt4 hr4 hg4 hs4)
 rw[HIT.out]at hr4⊢
 go_frame
 have hg34:Gr w3 w4:=⟨hg4.os,hg4.tape,hg4.output,hg4.size,fun k hk=>hg4.block k hk (by simp)⟩
 have HR4:=Lib.hid hr4
 have HS4:Hid (DropAt I w0 w w4 FP TP PB DB M sv t d todo0):=Lib.hid ⟨⟨c,X,HF3.out.gr hg34,HX.out.2.2.2.1⟩,PgF.of_gr PB DB M (HG3.out.trans hg34),HX.out.2.1.trans (HG3.out.trans hg34),HND.out⟩
 have HL4:=Lib.hid (show MB<w4.heap.size/\IT<w4.heap.size from⟨HR4.out.map.lt,HR4.out.lt⟩)
 have HITN:Hid (IT≠PB/\IT≠DB/\IT≠M/\IT≠FP/\IT≠TP/\w.heap.size<=IT):=Lib.hid (by
   have h1:=HF3.out.lt
   have h2:=HIT.out
   have h3:=HG3.out.size
   omega)
 clear hr4 hg4 hs4 hg34
 go_loopw [10] (fun _ w'=>∃left cnt todo,RangeK keyS w' MB IT 1000 F left cnt/\(∀k,keyS.ok k->F k≠none->(left k=true↔k∈todo))/\(∀k∈todo,k∈ws)/\DropAt I w0 w w' FP TP PB DB M sv t d todo) (fun _ w'=>w'.rangeLeft MB IT)
 case atStart=>
   refine⟨_,_,todo0,HR4.out,fun k hk hF=>?_,fun k hk=>(HTD.out k).1 hk,HS4.out⟩
   constructor
   ·intro _
    refine(HTD.out k).2 ?_
    refine Classical.byContradiction fun h7=>hF ((HNF.out k).2 (occ_nil.2 h7))
   ·intro _
    cases hf:F k with
    |none=>exact absurd hf hF
    |some v=>rfl
 case round=>
  as_aux_lemma=>
   obtain⟨left,cnt,todo,hrg,hlf,hsub,hs⟩:=hrel
   have HRG:=Lib.hid hrg
   have HLF:=Lib.hid hlf
   have HSUB:=Lib.hid hsub
   have HS:=Lib.hid hs
   clear hlf hsub hs
   go_wp2_with(at_next;refine wpList_nextK (kk:=keyS) rfl _ rfl rfl hrg ?_ ?_)
   ·intro _ hall
    have hnil:todo=[]:=by
     refine List.eq_nil_iff_forall_not_mem.2 fun k hk=>?_
     have hkw:=HSUB.out k hk
     have hko:keyS.ok k:=by
      show k.size<=maxLen
      have:=(HOK.out k hkw).len
      rw[size_data]
      unfold maxLen
      omega
     have hFk:F k≠none:=fun e=>occ_nil.1 ((HNF.out k).1 e) hkw
     have h7:=(HLF.out k hko hFk).2 hk
     rw[hall k hko]at h7
     cases h7
    have HE:Hid (∃c' X',FdW wr FP TP PB DB M c' sv t d/\I [] c' X'/\PgF PB DB M M w wr):=Lib.hid (by
     obtain⟨⟨c',X',h1,h2⟩,h3,_,_⟩:=HS.out
     rw[hnil]at h2
     exact⟨c',X',h1,h2,h3⟩)
    clear hrg hall hnil
    go_wp2_with fail
    go_ret
    exact⟨rfl,HE.out⟩
   ·intro wd v wn cnt2 hkr hlr hFr hrn hltc hgn hszn hen
    have hFne:F wd≠none:=by rw[hFr];simp
    have hmem:=(HLF.out wd hkr hFne).1 hlr
    have hwdw:=HSUB.out wd hmem
    have hwdo:=HOK.out wd hwdw
    obtain⟨t1,t2,htt⟩:=List.append_of_mem hmem
    obtain⟨⟨c2,X2,hF2,hI2⟩,hfr,hgr0,hnd⟩:=HS.out
    rw[htt]at hI2 hnd
    obtain⟨hl2,PS,N,N1,hHas,hcnt,hN,hne,hlen,hNN,c3,X3,hput,hl3,hsv⟩:=HST.out t1 wd t2 c2 X2 hI2
    have hxn:GrX (fun b=>b=IT) wr wn:=GrX.of_grown hgn rfl
    have hit:=HITN.out
    have F3:=hF2.keepX hxn (by omega)
    have hfrn:PgF PB DB M M w wn:=hfr.after hxn (by omega)
    have hg0n:=HX.out.1.pg HX.out.2.1 hfrn
    have hpw:=piece_w F3 hl2 HX.out.2.2.2.2.1 hwdo hHas HX.out.2.2.2.2.2
    have hplen:=pieceK_len n wd PS row
    have hfw:=hHas.few
    obtain⟨pk,hpk⟩:∃pk,pieceK n wd PS row=pk:=⟨_,rfl⟩
    obtain⟨old,P⟩:=pk
    rw[hpk]at hpw hplen hne hlen hNN hsv
    simp only at hpw hplen hne hlen hNN hsv
    have hoe:old.toList.isEmpty=false:=by
     cases h:old.toList.isEmpty with
     |false=>rfl
     |true=>
      rw[List.isEmpty_iff,ByteArray.toList_eq]at h
      exact absurd (bytes_ext (b:=⟨#[]⟩) h) hne
    have HPW:=Lib.hid hpw
    have HF3':=Lib.hid F3
    have HFRN:=Lib.hid hfrn
    have HG0N:=Lib.hid hg0n
    have HL2:=Lib.hid hl2
    have HCN:=Lib.hid (And.intro hcnt (And.intro hN (And.intro hput hl3)))
    have HSV:=Lib.hid hsv
    have HPL:Hid (P.length<=1000000):=Lib.hid (by omega)
    have HLEN:=Lib.hid (And.intro hlen hNN)
    have HRN:Hid (RangeK keyS wn MB IT 1000 F (fun x=>left x&&!decide (x=wd)) cnt2):=Lib.hid hrn
    have HLTC:=Lib.hid hltc
    have HND2:=Lib.hid hnd
    have HTT:=Lib.hid htt
    have HWDO:=Lib.hid hwdo
    replace hen:(Instr.entry (.pointer (some ⟨IT,0,none⟩))).run Tryz.prog wn=.ok (.tuple #[.string wd,v]) wn:=hen
    rw[show keyS.kv wd=Value.string wd from rfl]
    clear hrg hkr hlr hFr hrn hltc hgn hszn hFne hmem hwdw hwdo htt hF2 hI2 hfr hgr0 hnd hl2 hHas hcnt hN hne hlen hNN hput hl3 hsv hxn hit F3 hfrn hg0n hpw hplen hfw hpk
    go_wp2_with fail
    refine HPW.out.mono ?_
    rintro e w5 ⟨v5,rfl,ho5,hg5⟩
    have hwt:=without_p P v5 row w5 ho5.own.isP HPL.out
    have HWT:=Lib.hid hwt
    have HG5:=Lib.hid hg5
    obtain⟨a5,c5,hf5⟩:=ho5.own.form
    clear hwt hg5 ho5
    subst hf5
    go_wp2_with fail
    refine HWT.out.mono ?_
    rintro e w6 ⟨v6,rfl,ho6,hg6⟩
    have hg56:=HG5.out.trans hg6
    have hlt6:=(HF3'.out.gr HG5.out).lt
    have HO6:=Lib.hid (ho6.rem (PB:=PB) (DB:=DB) (M:=M) (by omega))
    have HF6:=Lib.hid (HF3'.out.gr hg56)
    have HFR6:=Lib.hid (HFRN.out.trans (PgF.of_gr PB DB M hg56))
    have HG06:=Lib.hid (HG0N.out.trans hg56)
    have HG56:=Lib.hid hg56
    obtain⟨a6,c6,hf6⟩:=ho6.form
    obtain⟨ln,hln⟩:∃ln,(P.filter fun x=>!(x.1==row)).length=ln:=⟨_,rfl⟩
    rw[hln]at hf6
    have hlnP:ln<P.length/\N1+P.length=N+ln:=by
     have:=HLEN.out
     unfold wo at this
     rw[hln]at this
     exact this
    have hne6:((ln:Int)==(P.length:Int))=false:=by simp;omega
    have hwr6:IntKind.i64.wrap ((ln:Int)-(P.length:Int))=(ln:Int)-(P.length:Int):=by
     rw[IntKind.wrap_i64]
     have:=HPL.out
     omega
    have had:=adds_w HF6.out (HX.out.1.err.gr HG06.out) (HX.out.1.max.gr HG06.out) HL2.out (n:=N) (by have:=HCN.out.2.1;omega) (.inr HCN.out.1) (m:=(ln:Int)-(P.length:Int)) (n2:=N1) (by omega) (by have:=HCN.out.2.1;omega) HCN.out.2.2.1
    have HAD:=Lib.hid had
    clear hg6 hg56 ho6 hlt6 had hln hlnP
    subst hf6
    go_wp2_with fail
    refine HAD.out.mono ?_
    rintro e w7 ⟨rfl,hF7,hf7⟩
    have hsw:=save_w HX.out.2.2.2.2.1 HWDO.out hF7 HCN.out.2.2.2 HSV.out (HO6.out.pg hf7)
    have HSW:=Lib.hid hsw
    have HFR7:=Lib.hid (HFR6.out.trans hf7)
    have HF7:=Lib.hid hf7
    clear hsw hF7 hf7
    go_wp2_with fail
    refine HSW.out.mono ?_
    rintro e w8 ⟨rfl,c8,X8,hF8,hI8,hf8⟩
    have HE:Hid (∃left cnt todo,(RangeK keyS w8 MB IT 1000 F left cnt/\(∀k,keyS.ok k->F k≠none->(left k=true↔k∈todo))/\(∀k∈todo,k∈ws)/\DropAt I w0 w w8 FP TP PB DB M sv t d todo)/\w8.rangeLeft MB IT<wr.rangeLeft MB IT):=Lib.hid (by
     have hr6:=HRN.out.gr HG56.out
     have hoff:=HOFF.out
     have hit:=HITN.out
     have hr7:=hr6.blocks (HF7.out.2.block hr6.map.lt (by omega)) (HF7.out.2.block hr6.lt (by omega))
     have hr8:=hr7.blocks (hf8.2.block hr7.map.lt (by omega)) (hf8.2.block hr7.lt (by omega))
     have hfr8:=HFR7.out.trans hf8
     have hnd:=HND2.out
     obtain⟨n1,n2,n3⟩:=List.nodup_append.1 hnd
     obtain⟨n4,n5⟩:=List.nodup_cons.1 n2
     refine⟨fun x=>left x&&!decide (x=wd),cnt2,t1++t2,⟨hr8,fun k hk hF=>?_,fun k hk=>?_,⟨⟨c8,X8,hF8,hI8⟩,hfr8,HX.out.1.pg HX.out.2.1 hfr8,?_⟩⟩,?_⟩
     ·have h7:=HLF.out k hk hF
      rw[HTT.out]at h7
      rw[Bool.and_eq_true,h7]
      simp only[Bool.not_eq_true',decide_eq_false_iff_not,List.mem_append,List.mem_cons]
      constructor
      ·rintro⟨h8|h8|h8,h9⟩
       ·exact .inl h8
       ·exact absurd h8 h9
       ·exact .inr h8
      ·rintro(h8|h8)
       ·exact⟨.inl h8,fun e=>n3 k h8 wd List.mem_cons_self e⟩
       ·exact⟨.inr (.inr h8),fun e=>n4 (by rw[<-e];exact h8)⟩
     ·refine HSUB.out k ?_
      rw[HTT.out]
      rcases List.mem_append.1 hk with h8|h8
      ·exact List.mem_append_left _ h8
      ·exact List.mem_append_right _ (List.mem_cons_of_mem _ h8)
     ·exact List.nodup_append.2 ⟨n1,n5,fun a ha b hb=>n3 a ha b (List.mem_cons_of_mem _ hb)⟩
     ·have h1:=hr8.left_eq
      have h2:=HRG.out.left_eq
      have h3:=HLTC.out
      omega)
    clear hF8 hI8 hf8
    go_wp2_with fail
    obtain⟨left',cnt',todo',h1,h2⟩:=HE.out
    exact⟨⟨left',cnt',todo',h1⟩,h2⟩
end
end Go.Proofs.YtldmhjbdahjhdaaGreatDoor.Ev
namespace Go.Proofs.YtldmhjbdahjhdaaGreatDoor
section
open Go Go.RowKit Go.Shelf Go.Lib Go.Sort
abbrev HitS:Type:={p:GHit//0<=p.1/\p.1<=2147483648}
instance:Inhabited HitS:=⟨⟨(0,0),by decide⟩⟩
def foldP(L:ByteArray->List GPlace)(fs:List ByteArray):List GPlace:=fs.foldl (fun a x=>setOf beforeB (a++L x)) []
def foldF(L:ByteArray->List GPlace)(a:List GPlace)(ws:List ByteArray):List GPlace:=ws.foldl (fun a x=>followP a (L x)) a
section
variable{w:World}{FP TP PB DB M:Nat}{c:Ch}{sv:Head}{t:Int}{d:Dk}
end
def leafN(L:ByteArray->List GPlace)(ls:List (ByteArray×Int×ByteArray))(kind:Int)(ws:List ByteArray)(r:Int):Nat:=
 if kind=1 then cntRow (foldF L (setOf beforeB (L (ws.headD ⟨#[]⟩))) ws.tail) r
 else if kind=2 then cntRow (foldP L (squeeze (begL (ws.headD ⟨#[]⟩) ls))) r
 else if r∈setOf lessI (nearRows 3 (setOf beforeB (L (ws.headD ⟨#[]⟩))) (L (ws.tail.headD ⟨#[]⟩)))then 1 else 0
def HN(L:ByteArray->List GPlace)(ls:List (ByteArray×Int×ByteArray)):Qy->Int->Nat
 | .leaf kind ws _,r=>leafN L ls kind ws r
 | .node kind a b,r=>joinH kind (HN L ls a r) (HN L ls b r)
section
variable{w:World}{FP TP PB DB M:Nat}{c:Ch}{sv:Head}{t:Int}{d:Dk}
end
