/-
  Part 29 of the proof.
-/
import Derived.Test.YtldmhjbdahjhdaaGreatDoorZc27
set_option maxRecDepth 100000
set_option maxHeartbeats 100000000
set_option linter.all false
namespace Go.Proofs.YtldmhjbdahjhdaaGreatDoor
section
open Go Go.RowKit Go.Shelf Go.Lib Go.Sort
theorem same_places(xs ys:List GPlace)(va vb:Value)(w:World)(hx:IsP w va xs)(hy:IsP w vb ys)(hl:xs.length<=1000000)(hly:ys.length<=1000000):
  Calls Tryz.prog 22 #[va,vb] w (Ret w (.bool (decide (xs=ys)))):=by
 have HX:=Lib.hid hx
 have HY:=Lib.hid hy
 obtain⟨ao,ca,rfl⟩:=hx.form
 obtain⟨bo,cb,rfl⟩:=hy.form
 clear hx hy
 by_cases hlen:xs.length=ys.length
 ·generalize hN:xs.length=n at*
  subst hlen
  have HN:=Lib.hid hN
  go_enter Tryz.func22,Tryz.ntmps22
  clear hN
  go_wp2_with fail
  go_loopw [5] (fun kv w'=>∃i:Nat,i<=ys.length/\kv=.int .i64 i/\xs.take i=ys.take i/\Gr w w') (fun kv _=>ys.length-(intOf kv).toNat)
  case atStart=>exact⟨0,Nat.zero_le _,rfl,rfl,Gr.refl _⟩
  case round=>
   obtain⟨i,hi,rfl,ht,hg⟩:=hrel
   by_cases hlt:i<ys.length
   ·have hltx:i<xs.length:=by rw[HN.out];exact hlt
    obtain⟨b,off,rfl,hb,hp⟩:∃b off,ao=some ⟨b,off,none⟩/\b<w.heap.size/\PlacesAt w b off xs:=by
     rcases HX.out with⟨_,e2⟩|⟨b,off,c,e,hb,hp⟩
     ·rw[e2]at hltx
      exact absurd hltx (by simp)
     ·simp only[Value.slice.injEq]at e
      exact⟨b,off,e.1,hb,hp⟩
    obtain⟨b',off',rfl,hb',hp'⟩:∃b off,bo=some ⟨b,off,none⟩/\b<w.heap.size/\PlacesAt w b off ys:=by
     rcases HY.out with⟨_,e2⟩|⟨b,off,c,e,hb,hp⟩
     ·rw[e2]at hlt
      exact absurd hlt (by simp)
     ·simp only[Value.slice.injEq]at e
      exact⟨b,off,e.1,hb,hp⟩
    have hil:(i:Int)<(ys.length:Int):=by omega
    have f1:=fun d os=>cell_regrown (hg.keeps (hp i hltx).1) d os
    have f2:=fun d os=>cell_regrown (hg.keeps (hp i hltx).2) d os
    have f3:=fun d os=>cell_regrown (hg.keeps (hp' i hlt).1) d os
    have f4:=fun d os=>cell_regrown (hg.keeps (hp' i hlt).2) d os
    have hnx:=List.take_succ_eq_append_getElem hltx
    have hny:=List.take_succ_eq_append_getElem hlt
    generalize hx:xs[i]=x at*
    generalize hy:ys[i]=y at*
    by_cases he:x=y
    ·subst he
     obtain⟨x1,x2⟩:=x
     simp only at f1 f2 f3 f4
     have hq:∀W,(Op.equalIn 10000 104 (.agg #[.int .i64 x1,.int .i64 x2]) (.agg #[.int .i64 x1,.int .i64 x2])).run Tryz.prog W=.ok true W:=fun W=>by
      rw[equalIn_place]
      simp
     have ht2:=Lib.hid (hnx.trans ((congrArg (·++[(x1,x2)]) ht).trans hny.symm))
     clear hx hy hp hp' hnx hny ht
     go_wp2_with fail
     refine wp_region_quiet_below (by kernel_rfl) (by kernel_rfl) ?_
     repeat(go_big_quiet_step (fail))
     refine wpQuiet_nil ?_
     intro w3 hw3
     have hg3:=hg.trans (gr_regrown hw3)
     clear hw3 f1 f2 f3 f4
     go_wp2_with fail
     exact⟨⟨i+1,by omega,by go_num,ht2.out,hg3⟩,by simp[intOf];omega⟩
    ·have hd:decide (xs=ys)=false:=by
      rw[decide_eq_false_iff_not]
      intro e
      subst e
      exact he (hx.symm.trans hy)
     obtain⟨x1,x2⟩:=x
     obtain⟨y1,y2⟩:=y
     simp only at f1 f2 f3 f4
     have hq:∀W,(Op.equalIn 10000 104 (.agg #[.int .i64 x1,.int .i64 x2]) (.agg #[.int .i64 y1,.int .i64 y2])).run Tryz.prog W=.ok false W:=fun W=>by
      rw[equalIn_place,show(x1==y1&&x2==y2)=false from by
       rw[Bool.eq_false_iff]
       intro h
       simp only[Bool.and_eq_true,beq_iff_eq]at h
       exact he (by rw[h.1,h.2])]
     clear hx hy hp hp' hnx hny ht
     go_wp2_with fail
     refine wp_region_quiet_below (by kernel_rfl) (by kernel_rfl) ?_
     repeat(go_big_quiet_step (fail))
     refine wpQuiet_nil ?_
     intro w3 hw3
     have hg3:=hg.trans (gr_regrown hw3)
     clear hw3 f1 f2 f3 f4
     go_wp2_with fail
     go_ret
     exact Ret.mk (by rw[hd];rfl) hg3
   ·have hd:decide (xs=ys)=true:=by
     have hii:i=ys.length:=by omega
     subst hii
     rw[List.take_length,List.take_of_length_le (by rw[HN.out];exact Nat.le_refl _)]at ht
     simpa using ht
    clear ht
    go_wp2_with fail
    go_ret
    exact Ret.mk (by rw[hd];rfl) hg
 ·have hne:¬(xs.length:Int)=(ys.length:Int):=by omega
  have hd:decide (xs=ys)=false:=by
   rw[decide_eq_false_iff_not]
   intro e
   exact hlen (by rw[e])
  rw[hd]
  go_enter Tryz.func22,Tryz.ntmps22
  go_wp2_with fail
  go_ret
  exact Ret.mk rfl (Gr.refl _)
end
section
open Go Go.RowKit Go.Shelf Go.Lib
abbrev GNote:Type:=ByteArray×GPlace
def notesR(r:Int):List ByteArray->Nat->List GNote
 |[],_=>[]
 |x::xs,i=>(x,(r,(i:Int)))::notesR r xs (i+1)
theorem notesR_len(r:Int):∀(xs:List ByteArray) (i:Nat),(notesR r xs i).length=xs.length
 |[],_=>rfl
 |x::xs,i=>by
  unfold notesR
  rw[List.length_cons,List.length_cons,notesR_len]
theorem notesR_mem{r:Int}:∀{xs:List ByteArray} {i:Nat} {p:GNote},p∈notesR r xs i->p.2.1=r/\p.1∈xs
 |[],_,_,h=>by cases h
 |x::xs,i,p,h=>by
  unfold notesR at h
  rcases List.mem_cons.1 h with e|h
  ·subst e
   exact⟨rfl,List.mem_cons_self⟩
  ·have:=notesR_mem h
   exact⟨this.1,List.mem_cons_of_mem _ this.2⟩
theorem notesR_occ(r:Int)(wd:ByteArray):∀(xs:List ByteArray) (i:Nat),((notesR r xs i).filter fun x=>decide (x.1=wd)).map (·.2)=occ r wd xs i
 |[],_=>rfl
 |x::xs,i=>by
  have ih:=notesR_occ r wd xs (i+1)
  unfold notesR occ
  by_cases e:x=wd
  ·subst e
   rw[List.filter_cons_of_pos (by simp),List.map_cons,ih,if_pos rfl]
  ·rw[List.filter_cons_of_neg (by simpa using e),ih,if_neg e]
end
section
open Go Go.RowKit Go.Shelf Go.Lib Go.Sort
def ofP(NL:List GNote)(p:ByteArray->Bool):List GPlace:=(NL.filter fun x=>p x.1).map (·.2)
def refL(NL:List GNote):ByteArray->List GPlace:=fun wd=>setOf beforeB (ofP NL fun y=>decide (y=wd))
section
variable{lo:Nat}{w:World}{XB:Nat}{n:ByteArray}{NL:List GNote}
end
end
section
open Go Go.RowKit
theorem setOf_twice(a b:List GPlace):setOf beforeB (setOf beforeB a++b)=setOf beforeB (a++b):=
 (setOf_eq parts_place (setOf_rising parts_place _) fun x=>by simp only[setOf_mem,List.mem_append]).symm
theorem setOf_rise{a:List GPlace}(h:Rising beforeB a):setOf beforeB a=a:=(setOf_eq parts_place h fun _=>Iff.rfl).symm
theorem ofP_append(a b:List GNote)(p:ByteArray->Bool):ofP (a++b) p=ofP a p++ofP b p:=by
 unfold ofP
 rw[List.filter_append,List.map_append]
theorem ofP_occ(r:Int)(wd:ByteArray)(ws:List ByteArray):ofP (notesR r ws 0) (fun y=>decide (y=wd))=occ r wd ws 0:=notesR_occ r wd ws 0
theorem refL_add(NL:List GNote)(row:Int){ws dn:List ByteArray}(hdn:∀w,w∈dn↔w∈ws):addL (refL NL) row ws dn=refL (NL++notesR row ws 0):=by
 funext wd
 unfold addL refL
 rw[ofP_append,ofP_occ]
 by_cases h:wd∈dn
 ·rw[if_pos h,setOf_twice]
 ·rw[if_neg h,occ_nil.2 (fun h2=>h ((hdn wd).2 h2)),List.append_nil]
theorem addL_nil(L:Ct)(row:Int)(ws:List ByteArray):addL L row ws []=L:=by
 funext wd
 unfold addL
 rw[if_neg (by simp)]
theorem notesR_pos{r:Int}:∀{xs:List ByteArray} {i:Nat} {p:GNote},p∈notesR r xs i->(i:Int)<=p.2.2/\p.2.2<(i:Int)+xs.length
 |[],_,_,h=>by cases h
 |x::xs,i,p,h=>by
  unfold notesR at h
  rcases List.mem_cons.1 h with e|h
  ·subst e
   simp only[List.length_cons]
   omega
  ·have:=notesR_pos h
   simp only[List.length_cons]
   omega
theorem AddsOk.mono{pg:Nat->ByteArray}{n:ByteArray}{row:Int}{ws:List ByteArray}{Q Q':Ch->Tr->Prop}(hQ:∀c X,Q c X->Q' c X):∀{rest dn:List ByteArray} {c:Ch} {X:Tr},AddsOk pg n row ws Q dn rest c X->AddsOk pg n row ws Q' dn rest c X
 |[],_,_,_,h=>hQ _ _ h
 |_::_,_,_,_,h=>⟨fun hd=>(h.1 hd).mono hQ,fun hd=>⟨(h.2 hd).1,(h.2 hd).2.imp fun _ hp=>⟨hp.1,hp.2.mono fun _ _ hx=>hx.mono hQ⟩⟩⟩
theorem refL_nil(wd:ByteArray):refL [] wd=[]:=setOf_rise List.Pairwise.nil
end
end Go.Proofs.YtldmhjbdahjhdaaGreatDoor
namespace Go.Proofs.YtldmhjbdahjhdaaGreatDoor.Ev
open Go Go.RowKit
def dl(ws:List ByteArray)(w:ByteArray):Nat:=(19+w.size)*(occ 0 w ws 0).length
def Mw(n:ByteArray)(ws:List ByteArray)(R:Int)(K:LP)(dn:List ByteArray)(w:ByteArray):PM:=
 if w∈dn then[if uB n K R w=true then(kA n w,dl ws w)else(kB n w,dl ws w)]else[(kA n w,dl ws w),(kB n w,dl ws w)]
def Mof(n:ByteArray)(ws:List ByteArray)(R:Int)(K:LP)(dn us:List ByteArray):PM:=us.flatMap (Mw n ws R K dn)
def Mfull(n:ByteArray)(ws us:List ByteArray):PM:=us.flatMap fun w=>[(kA n w,dl ws w),(kB n w,dl ws w)]
theorem Mof_nil(n:ByteArray)(ws:List ByteArray)(R:Int)(K:LP)(us:List ByteArray):Mof n ws R K [] us=Mfull n ws us:=by
 unfold Mof Mfull
 congr 1
theorem Mof_append(n:ByteArray)(ws:List ByteArray)(R:Int)(K:LP)(dn u v:List ByteArray):Mof n ws R K dn (u++v)=Mof n ws R K dn u++Mof n ws R K dn v:=List.flatMap_append
theorem Mof_cons(n:ByteArray)(ws:List ByteArray)(R:Int)(K:LP)(dn:List ByteArray)(w:ByteArray)(v:List ByteArray):Mof n ws R K dn (w::v)=Mw n ws R K dn w++Mof n ws R K dn v:=List.flatMap_cons
theorem Mof_congr{n:ByteArray}{ws:List ByteArray}{R:Int}{K K':LP}{dn dn':List ByteArray}:∀{us:List ByteArray},(∀w∈us,Mw n ws R K dn w=Mw n ws R K' dn' w)->Mof n ws R K dn us=Mof n ws R K' dn' us
 |[],_=>rfl
 |w::us,h=>by
  rw[Mof_cons,Mof_cons,h w List.mem_cons_self,Mof_congr fun x hx=>h x (List.mem_cons_of_mem _ hx)]
theorem mid_perm{α:Type}(a b c:List α):(a++(b++c)).Perm (b++(a++c)):=by
 rw[<-List.append_assoc,<-List.append_assoc]
 exact List.perm_append_comm.append_right c
theorem uB_rest{n wd:ByteArray}{K K':LP}{R:Int}(rest:Rest n wd K K'){w:ByteArray}(hw:OkW w)(hne:w≠wd):uB n K' R w=uB n K R w:=by
 unfold uB
 rw[<-getA_pre (K:=K') (keyW_pre n w R),<-getA_pre (K:=K) (keyW_pre n w R),rest.oth w hw hne]
theorem uB_same{n:ByteArray}{K K':LP}{R:Int}{w:ByteArray}(h:preA K' (headW n w)=preA K (headW n w)):uB n K' R w=uB n K R w:=by
 unfold uB
 rw[<-getA_pre (K:=K') (keyW_pre n w R),<-getA_pre (K:=K) (keyW_pre n w R),h]
section
variable{pg:Nat->ByteArray}{n:ByteArray}{V N:Nat}{M M':PM}{E E':ByteArray->Prop}{L:Ct}{K:LP}{c:Ch}{X:Tr}
theorem FSt.perm(h:FSt pg n V M E L N K c X)(hp:M.Perm M'):FSt pg n V M' E L N K c X:=⟨h.tg.perm hp,h.cnt,h.has,h.small,h.keys⟩
theorem FSt.to(h:FSt pg n V M E L N K c X){V':Nat}(hV:V<=V')(hE:∀y,E y->E' y):FSt pg n V' M E' L N K c X:=
 ⟨h.tg.less (Nat.le_refl _) hV (fun y hy=>hy.imp id (hE y)),h.cnt,h.has,h.small,h.keys⟩
structure MSt(pg:Nat->ByteArray)(n:ByteArray)(V:Nat)(ws us:List ByteArray)(R:Int)(L:Ct)(dn:List ByteArray)(N:Nat)(K:LP)(c:Ch)(X:Tr):Prop where
 st:FSt pg n V (Mof n ws R K dn us) (EX n ws R) (addL L R ws dn) N K c X
 cnt:getA K manyK=some (cntB N)
structure MCx(n:ByteArray)(V:Nat)(ws us:List ByteArray)(R:Int)(L:Ct):Prop where
 hn:OkW n
 h1:n.size<=1
 hR:1000<=R/\R<=1100
 hV:V<12145
 few:ws.length<=20
 ok:∀w∈ws,OkW w/\w.size<=12
 nd:us.Nodup
 mem:∀w,w∈us↔w∈ws
 low:∀wd,∀p∈L wd,p.1<=25
 up:∀wd,Rising beforeB (L wd)
variable{ws us:List ByteArray}{R:Int}{dn:List ByteArray}{wd:ByteArray}
theorem dl_is(ws:List ByteArray)(R:Int)(w:ByteArray):dl ws w=(19+w.size)*(occ R w ws 0).length:=by
 unfold dl
 rw[occ_len (s:=R)]
theorem MCx.parts(h:MCx n V ws us R L)(hw:wd∈ws):∃u v,us=u++wd::v/\(∀w∈u++v,w≠wd/\w∈ws)/\∀K dn,(Mof n ws R K dn us).Perm (Mw n ws R K dn wd++Mof n ws R K dn (u++v)):=by
 obtain⟨u,v,e⟩:=List.append_of_mem ((h.mem wd).2 hw)
 have hnd:=h.nd
 rw[e]at hnd
 obtain⟨n1,n2,n3⟩:=List.nodup_append.1 hnd
 obtain⟨n4,n5⟩:=List.nodup_cons.1 n2
 refine⟨u,v,e,fun w hw=>⟨fun e2=>?_,(h.mem w).1 ?_⟩,fun K dn=>?_⟩
 ·rcases List.mem_append.1 hw with h7|h7
  ·exact n3 w h7 wd List.mem_cons_self e2
  ·rw[e2]at h7
   exact n4 h7
 ·rw[e]
  rcases List.mem_append.1 hw with h7|h7
  ·exact List.mem_append_left _ h7
  ·exact List.mem_append_right _ (List.mem_cons_of_mem _ h7)
 ·rw[e,Mof_append,Mof_cons,Mof_append]
  exact mid_perm _ _ _
theorem occ_small(R:Int)(hR:1000<=R/\R<=1100){ws:List ByteArray}(hf:ws.length<=20)(wd:ByteArray):∀p∈occ R wd ws 0,SmallP p:=fun p hp=>by
 have:=occ_mem hp
 unfold SmallP
 omega
theorem MSt.add(h:MSt pg n V ws us R L dn N K c X)(hx:MCx n V ws us R L)(hw:wd∈ws)(hd:wd∉dn):
  ∃PS,HasW X n wd PS/\PS.flatten=L wd/\SaveOk pg n wd (pieceK n wd PS R).1 (setOf beforeB ((pieceK n wd PS R).2++occ R wd ws 0)) (fun c' X'=>∃K',MSt pg n V ws us R L (wd::dn) N K' c' X') c X:=by
 obtain⟨hwo,hws⟩:=hx.ok wd hw
 obtain⟨u,v,_,huv,hperm⟩:=hx.parts hw
 have hLw:addL L R ws dn wd=L wd:=if_neg hd
 have hM0:Mw n ws R K dn wd=[(kA n wd,dl ws wd),(kB n wd,dl ws wd)]:=if_neg hd
 have h0:=h.st.perm (hperm K dn)
 rw[hM0]at h0
 have hol:=occ_le R wd ws 0
 obtain⟨PS,a1,a2,a3⟩:=FSt.more_add (M1:=Mof n ws R K dn (u++v)) hx.hn hx.h1 hx.hR hwo hws (l:=occ R wd ws 0) (fun e=>occ_nil.1 e hw) (fun p hp=>(occ_mem hp).1) occ_rising (occ_small R hx.hR hx.few wd) (dl_is ws R wd) h0 h.cnt (by rw[hLw];exact hx.low wd) hx.hV (by have:=hx.few;omega)
 rw[hLw]at a2
 refine⟨PS,a1,a2,a3.mono fun c' X' ⟨K',b1,b2,b3⟩=>⟨K',?_,b2⟩⟩
 rw[addL_step L R ws hd]at b1
 refine b1.perm ?_
 refine List.Perm.trans ?_ (hperm K' (wd::dn)).symm
 have e1:Mw n ws R K' (wd::dn) wd=[if uB n K' R wd=true then(kA n wd,dl ws wd)else(kB n wd,dl ws wd)]:=if_pos List.mem_cons_self
 have e2:Mof n ws R K dn (u++v)=Mof n ws R K' (wd::dn) (u++v):=Mof_congr fun w hwm=>by
  obtain⟨hne,hwm2⟩:=huv w hwm
  have e3:=uB_rest (R:=R) b3 (hx.ok w hwm2).1 hne
  unfold Mw
  rw[e3]
  by_cases h7:w∈dn
  ·rw[if_pos h7,if_pos (List.mem_cons_of_mem _ h7)]
  ·rw[if_neg h7,if_neg (by simp[hne,h7])]
 rw[e1,e2]
 exact List.Perm.refl _
theorem addL_mem{L:Ct}{R:Int}{ws dn dn':List ByteArray}(h:∀w,w∈dn↔w∈dn'):addL L R ws dn=addL L R ws dn':=by
 funext w
 unfold addL
 by_cases h7:w∈dn
 ·rw[if_pos h7,if_pos ((h w).1 h7)]
 ·rw[if_neg h7,if_neg (fun h8=>h7 ((h w).2 h8))]
theorem MSt.same(h:MSt pg n V ws us R L dn N K c X){dn':List ByteArray}(he:∀w,w∈dn↔w∈dn'):MSt pg n V ws us R L dn' N K c X:=by
 refine⟨?_,h.cnt⟩
 rw[<-addL_mem he,<-show Mof n ws R K dn us=Mof n ws R K dn' us from Mof_congr fun w _=>by
  unfold Mw
  by_cases h7:w∈dn
  ·rw[if_pos h7,if_pos ((he w).1 h7)]
  ·rw[if_neg h7,if_neg (fun h8=>h7 ((he w).2 h8))]]
 exact h.st
theorem MSt.adds(hx:MCx n V ws us R L):∀(rest dn:List ByteArray) {K:LP} {c:Ch} {X:Tr},(∀w∈rest,w∈ws)->MSt pg n V ws us R L dn N K c X->
  AddsOk pg n R ws (fun c' X'=>∃K' dn',(∀w,w∈dn'↔w∈dn\/w∈rest)/\MSt pg n V ws us R L dn' N K' c' X') dn rest c X
 |[],dn,K,c,X,_,h=>⟨K,dn,by simp,h⟩
 |wd::rest,dn,K,c,X,hsub,h=>by
  have hw:=hsub wd List.mem_cons_self
  have hmem:∀w,(w∈wd::dn\/w∈rest)↔(w∈dn\/w∈wd::rest):=fun w=>by
   simp only[List.mem_cons]
   constructor
   ·rintro((h7|h7)|h7)
    ·exact .inr (.inl h7)
    ·exact .inl h7
    ·exact .inr (.inr h7)
   ·rintro(h7|h7|h7)
    ·exact .inl (.inr h7)
    ·exact .inl (.inl h7)
    ·exact .inr h7
  refine⟨fun hd=>?_,fun hd=>⟨h.st.tg.lays,?_⟩⟩
  ·have h2:MSt pg n V ws us R L (wd::dn) N K c X:=h.same fun w=>by
    rw[List.mem_cons]
    exact⟨.inr,fun h7=>h7.elim (fun e=>by rw[e];exact hd) id⟩
   exact(MSt.adds hx rest (wd::dn) (fun w hw=>hsub w (List.mem_cons_of_mem _ hw)) h2).mono fun c' X' ⟨K',dn',a1,a2⟩=>⟨K',dn',fun w=>(a1 w).trans (hmem w),a2⟩
  ·obtain⟨PS,a1,a2,a3⟩:=h.add hx hw hd
   exact⟨PS,a1,a3.mono fun c' X' ⟨K',h5⟩=>(MSt.adds hx rest (wd::dn) (fun w hw=>hsub w (List.mem_cons_of_mem _ hw)) h5).mono fun c2 X2 ⟨K2,dn',b1,b2⟩=>⟨K2,dn',fun w=>(b1 w).trans (hmem w),b2⟩⟩
theorem MSt.count(h:MSt pg n V ws us R L dn N K c X)(hx:MCx n V ws us R L)(m:Nat):∃c' X' K',putR c 3 X manyK (cntB m)=(c',X',0)/\MSt pg n V ws us R L dn m K' c' X'/\∀wd,preA K' (headW n wd)=preA K (headW n wd):=by
 have hKn:K≠[]:=fun e=>by
  have:=h.cnt
  rw[e]at this
  cases this
 obtain⟨c',X',K',a1,a2,a3,a4⟩:=h.st.adds (V2:=V) (.inr ⟨hKn,rfl⟩) hx.hV m
 refine⟨c',X',K',a1,⟨?_,a3⟩,a4⟩
 rw[show Mof n ws R K' dn us=Mof n ws R K dn us from Mof_congr fun w _=>by
  unfold Mw
  rw[uB_same (a4 w)]]
 exact a2
theorem MSt.drop(h:MSt pg n V ws us R L dn N K c X)(hx:MCx n V ws us R L)(hN:N<=1000)(hw:wd∈ws)(hd:wd∈dn){dn':List ByteArray}(hdn:∀w,w∈dn'↔w∈dn/\w≠wd){N1:Nat}(hN1:N1+(occ 0 wd ws 0).length=N):
  DropOk1 pg n wd R (fun c' X'=>∃K',MSt pg n V ws us R L dn' N1 K' c' X') c X:=by
 obtain⟨hwo,hws⟩:=hx.ok wd hw
 obtain⟨u,v,_,huv,hperm⟩:=hx.parts hw
 obtain⟨c1,X1,K1,p1,p2,p3⟩:=h.count hx N1
 have hLw:addL L R ws dn wd=setOf beforeB (L wd++occ R wd ws 0):=if_pos hd
 have hM1:Mw n ws R K1 dn wd=[if uB n K1 R wd=true then(kA n wd,dl ws wd)else(kB n wd,dl ws wd)]:=if_pos hd
 obtain⟨PS,his,ok,e⟩:=h.st.has wd hwo
 have hhw:=h.st.hasW hx.hn hx.h1 hx.hV hwo his ok e
 have h0:=p2.st.perm (hperm K1 dn)
 rw[hM1]at h0
 have hone:occ R wd ws 0≠[]:=fun e=>occ_nil.1 e hw
 obtain⟨b1,b2,b3,b4⟩:=FSt.more_drop (M1:=Mof n ws R K1 dn (u++v)) hx.hn hx.h1 hx.hR hwo hws hw hLw hone (fun p hp=>(occ_mem hp).1) occ_rising (hx.up wd) (hx.low wd) (dl_is ws R wd) h0 p2.cnt hx.hV (by rw[p3 wd];exact his) ok e
 have hol:(occ R wd ws 0).length=(occ 0 wd ws 0).length:=occ_len
 have hpos:=List.length_pos_iff.2 hone
 refine⟨h.st.tg.lays,PS,N,N1,hhw,?_,hN,b1,by omega,by omega,c1,X1,p1,p2.st.tg.lays,b4.mono fun c' X' ⟨K',d1,d2,d3⟩=>⟨K',?_,d2⟩⟩
 ·rcases h.st.get with⟨h7,_⟩|h7
  ·have:=h.st.tg.get (k2:=manyK) (ltB_irrefl _)
   rw[h7,h.cnt]at this
   cases this
  ·exact h7
 ·have eL:updL (addL L R ws dn) wd (L wd)=addL L R ws dn':=by
   funext w
   unfold updL addL
   by_cases e1:w=wd
   ·subst e1
    rw[if_pos rfl,if_neg (fun h7=>((hdn w).1 h7).2 rfl)]
   ·rw[if_neg e1]
    by_cases e2:w∈dn
    ·rw[if_pos e2,if_pos ((hdn w).2 ⟨e2,e1⟩)]
    ·rw[if_neg e2,if_neg (fun h7=>e2 ((hdn w).1 h7).1)]
  rw[eL]at d1
  refine d1.perm ?_
  refine List.Perm.trans ?_ (hperm K' dn').symm
  have e1:Mw n ws R K' dn' wd=[(kA n wd,dl ws wd),(kB n wd,dl ws wd)]:=if_neg fun h7=>((hdn wd).1 h7).2 rfl
  have e2:Mof n ws R K1 dn (u++v)=Mof n ws R K' dn' (u++v):=Mof_congr fun w hwm=>by
   obtain⟨hne,hwm2⟩:=huv w hwm
   have e3:=uB_rest (R:=R) d3 (hx.ok w hwm2).1 hne
   unfold Mw
   rw[e3]
   by_cases h7:w∈dn
   ·rw[if_pos h7,if_pos ((hdn w).2 ⟨h7,hne⟩)]
   ·rw[if_neg h7,if_neg (fun h8=>h7 ((hdn w).1 h8).1)]
  rw[e1,e2]
  exact List.Perm.refl _
end
end Go.Proofs.YtldmhjbdahjhdaaGreatDoor.Ev
namespace Go.Proofs.YtldmhjbdahjhdaaGreatDoor.Ev
open Go Go.RowKit
theorem sum_plus(f g:ByteArray->Nat):∀us:List ByteArray,(us.map fun w=>f w+g w).sum=(us.map f).sum+(us.map g).sum
 |[]=>rfl
 |w::us=>by
  have ih:=sum_plus f g us
  simp only[List.map_cons,List.sum_cons]at ih⊢
  omega
theorem sum_no(g:ByteArray->Nat)(x:ByteArray):∀us:List ByteArray,x∉us->(us.map fun w=>if x=w then g w else 0).sum=0
 |[],_=>rfl
 |w::us,h=>by
  have ih:=sum_no g x us (fun h2=>h (List.mem_cons_of_mem _ h2))
  have hne:¬x=w:=fun e=>h (by rw[e];exact List.mem_cons_self)
  simp only[List.map_cons,List.sum_cons,if_neg hne]
  omega
theorem sum_one(g:ByteArray->Nat)(x:ByteArray):∀us:List ByteArray,us.Nodup->x∈us->(us.map fun w=>if x=w then g w else 0).sum=g x
 |[],_,h=>by cases h
 |w::us,hn,h=>by
  obtain⟨n1,n2⟩:=List.nodup_cons.1 hn
  by_cases e:x=w
  ·subst e
   have:=sum_no g x us n1
   simp only[List.map_cons,List.sum_cons,if_true]
   omega
  ·have ih:=sum_one g x us n2 ((List.mem_cons.1 h).resolve_left e)
   simp only[List.map_cons,List.sum_cons,if_neg e]
   omega
theorem sum_zero:∀us:List ByteArray,(us.map fun _=>0).sum=0
 |[]=>rfl
 |a::r=>by
  have ih:=sum_zero r
  rw[List.map_cons,List.sum_cons,ih]
theorem sum_occ(g:ByteArray->Nat){us:List ByteArray}(hn:us.Nodup):∀(ws:List ByteArray) (i:Nat),(∀x∈ws,x∈us)->(us.map fun w=>g w*(occ 0 w ws i).length).sum=(ws.map g).sum
 |[],i,_=>by
  have e:(us.map fun w=>g w*(occ 0 w [] i).length)=us.map fun _=>0:=List.map_congr_left fun w _=>by
   unfold occ
   rfl
  rw[e]
  exact sum_zero us
 |x::xs,i,hs=>by
  have ih:=sum_occ g hn xs (i+1) fun y hy=>hs y (List.mem_cons_of_mem _ hy)
  have e:(us.map fun w=>g w*(occ 0 w (x::xs) i).length)=us.map fun w=>(if x=w then g w else 0)+g w*(occ 0 w xs (i+1)).length:=List.map_congr_left fun w _=>by
   rw[occ]
   by_cases h:x=w
   ·rw[if_pos h,if_pos h,List.length_cons,Nat.mul_add,Nat.mul_one,Nat.add_comm]
   ·rw[if_neg h,if_neg h,Nat.zero_add]
  rw[e,sum_plus,ih,sum_one g x us hn (hs x List.mem_cons_self),List.map_cons,List.sum_cons]
def nOcc(ws us:List ByteArray):Nat:=(us.map fun w=>(occ 0 w ws 0).length).sum
theorem nOcc_all{ws us:List ByteArray}(hn:us.Nodup)(hs:∀x∈ws,x∈us):nOcc ws us=ws.length:=by
 have h:=sum_occ (fun _=>1) hn ws 0 hs
 have e:(us.map fun w=>1*(occ 0 w ws 0).length)=us.map fun w=>(occ 0 w ws 0).length:=List.map_congr_left fun w _=>Nat.one_mul _
 unfold nOcc
 rw[<-e]
 refine h.trans ?_
 clear h e hs hn
 induction ws with
 |nil=>rfl
 |cons a r ih=>
  rw[List.map_cons,List.sum_cons,ih,List.length_cons,Nat.add_comm]
theorem nOcc_mid(ws u:List ByteArray)(w:ByteArray)(v:List ByteArray):nOcc ws (u++w::v)=nOcc ws (u++v)+(occ 0 w ws 0).length:=by
 unfold nOcc
 rw[List.map_append,List.map_append,List.sum_append,List.sum_append,List.map_cons,List.sum_cons]
 omega
theorem massA_append:∀a b:PM,massA (a++b)=massA a+massA b
 |[],b=>(Nat.zero_add _).symm
 |x::a,b=>by
  have ih:=massA_append a b
  show x.2+massA (a++b)=x.2+massA a+massA b
  omega
theorem massA_full(n:ByteArray){ws:List ByteArray}:∀us:List ByteArray,massA (Mfull n ws us)=2*(us.map fun w=>dl ws w).sum
 |[]=>rfl
 |w::us=>by
  have ih:=massA_full n (ws:=ws) us
  have e:Mfull n ws (w::us)=[(kA n w,dl ws w),(kB n w,dl ws w)]++Mfull n ws us:=by
   unfold Mfull
   rw[List.flatMap_cons]
  rw[e,massA_append,ih,List.map_cons,List.sum_cons]
  show dl ws w+(dl ws w+0)+_=_
  omega
theorem mass_full(n:ByteArray){ws us:List ByteArray}(hn:us.Nodup)(hs:∀x∈ws,x∈us):massA (Mfull n ws us)=2*wSum ws:=by
 rw[massA_full]
 have h:=sum_occ (fun w=>19+w.size) hn ws 0 hs
 have e:(us.map fun w=>dl ws w)=us.map fun w=>(19+w.size)*(occ 0 w ws 0).length:=List.map_congr_left fun w _=>rfl
 rw[e,h]
 rfl
theorem full_gm{n:ByteArray}(ws us:List ByteArray):GM manyK (Mfull n ws us):=fun x hx=>by
 unfold Mfull at hx
 obtain⟨w,_,h⟩:=List.mem_flatMap.1 hx
 rcases List.mem_cons.1 h with rfl|h
 ·exact ltB_asymm (many_keyW n w 999)
 ·rw[List.mem_singleton.1 h]
  exact ltB_asymm (many_keyW n w 1073741824)
def dist:List ByteArray->List ByteArray
 |[]=>[]
 |w::r=>if w∈dist r then dist r else w::dist r
theorem dist_mem{w:ByteArray}:∀{l:List ByteArray},w∈dist l↔w∈l
 |[]=>Iff.rfl
 |x::r=>by
  have ih:=dist_mem (w:=w) (l:=r)
  unfold dist
  by_cases h:x∈dist r
  ·rw[if_pos h,ih,List.mem_cons]
   exact⟨.inr,fun h2=>h2.elim (fun e=>by rw[e];exact dist_mem.1 h) id⟩
  ·rw[if_neg h,List.mem_cons,List.mem_cons,ih]
theorem dist_nodup:∀l:List ByteArray,(dist l).Nodup
 |[]=>List.nodup_nil
 |x::r=>by
  unfold dist
  by_cases h:x∈dist r
  ·rw[if_pos h]
   exact dist_nodup r
  ·rw[if_neg h]
   exact List.nodup_cons.2 ⟨h,dist_nodup r⟩
theorem DropOk1.mono{pg:Nat->ByteArray}{n wd:ByteArray}{row:Int}{Q Q':Ch->Tr->Prop}{c:Ch}{X:Tr}(h:DropOk1 pg n wd row Q c X)(hQ:∀c X,Q c X->Q' c X):DropOk1 pg n wd row Q' c X:=by
 obtain⟨h1,PS,N,N1,a1,a2,a3,a4,a5,a6,c1,X1,b1,b2,b3⟩:=h
 exact⟨h1,PS,N,N1,a1,a2,a3,a4,a5,a6,c1,X1,b1,b2,b3.mono hQ⟩
section
variable{pg:Nat->ByteArray}{n:ByteArray}{V N:Nat}{L:Ct}{K:LP}{c:Ch}{X:Tr}{ws us:List ByteArray}{R:Int}
theorem more_on(hx:MCx n V ws us R L)(h:FSt pg n V (Mfull n ws us) (EX n ws R) L N K c X)(hK:K≠[]):
  ∃c1 X1,putR c 3 X manyK (cntB (N+ws.length))=(c1,X1,0)/\AddsOk pg n R ws (fun c' X'=>∃K',MSt pg n V ws us R L us (N+ws.length) K' c' X') [] ws c1 X1:=by
 obtain⟨c1,X1,K1,a1,a2,a3,_⟩:=h.adds (V2:=V) (.inr ⟨hK,rfl⟩) hx.hV (N+ws.length)
 refine⟨c1,X1,a1,?_⟩
 have h0:MSt pg n V ws us R L [] (N+ws.length) K1 c1 X1:=by
  refine⟨?_,a3⟩
  rw[Mof_nil,show addL L R ws []=L from funext fun w=>if_neg (by simp)]
  exact a2
 exact(MSt.adds hx ws [] (fun w hw=>hw) h0).mono fun c' X' ⟨K',dn',b1,b2⟩=>⟨K',b2.same fun w=>by rw[b1,hx.mem];simp⟩
theorem more_off(hx:MCx n V ws us R L){t1 t2:List ByteArray}{wd:ByteArray}(h:(t1++wd::t2).Nodup/\(∀w∈t1++wd::t2,w∈ws)/\N+nOcc ws (t1++wd::t2)<=1000/\∃K,MSt pg n V ws us R L (t1++wd::t2) (N+nOcc ws (t1++wd::t2)) K c X):
  DropOk1 pg n wd R (fun c' X'=>(t1++t2).Nodup/\(∀w∈t1++t2,w∈ws)/\N+nOcc ws (t1++t2)<=1000/\∃K',MSt pg n V ws us R L (t1++t2) (N+nOcc ws (t1++t2)) K' c' X') c X:=by
 obtain⟨h1,h2,h3,K,h4⟩:=h
 have hmid:=nOcc_mid ws t1 wd t2
 have hm:wd∈t1++wd::t2:=List.mem_append_right _ List.mem_cons_self
 have hnd:(t1++t2).Nodup/\wd∉t1++t2:=by
  have h5:=(List.perm_middle (a:=wd) (l₁:=t1) (l₂:=t2)).nodup_iff.1 h1
  obtain⟨h6,h7⟩:=List.nodup_cons.1 h5
  exact⟨h7,h6⟩
 have hsub:∀w,w∈t1++t2↔w∈t1++wd::t2/\w≠wd:=fun w=>by
  rw[(List.perm_middle (a:=wd) (l₁:=t1) (l₂:=t2)).mem_iff,List.mem_cons]
  constructor
  ·intro h5
   exact⟨.inr h5,fun e=>hnd.2 (by rw[<-e];exact h5)⟩
  ·rintro⟨h5|h5,h6⟩
   ·exact absurd h5 h6
   ·exact h5
 have hd:=h4.drop hx h3 (h2 wd hm) hm hsub (N1:=N+nOcc ws (t1++t2)) (by omega)
 exact hd.mono fun c' X' ⟨K',h5⟩=>⟨hnd.1,fun w hw=>h2 w ((hsub w).1 hw).1,by omega,K',h5⟩
theorem more_end(h:MSt pg n V ws us R L [] N K c X):FSt pg n V (Mfull n ws us) (EX n ws R) L N K c X:=by
 have:=h.st
 rw[Mof_nil,show addL L R ws []=L from funext fun w=>if_neg (by simp)]at this
 exact this
end
end Go.Proofs.YtldmhjbdahjhdaaGreatDoor.Ev
namespace Go.Proofs.YtldmhjbdahjhdaaGreatDoor.Ev
open Go Go.RowKit
def NR(ts:List ByteArray)(rs:List Nat):List GNote:=rs.flatMap fun(r:Nat)=>notesR ((r:Int)+1) (splitS (ts.getD r ⟨#[]⟩)) 0
theorem NR_snoc(ts:List ByteArray)(rs:List Nat)(r:Nat):NR ts (rs++[r])=NR ts rs++notesR ((r:Int)+1) (splitS (ts.getD r ⟨#[]⟩)) 0:=by
 unfold NR
 rw[List.flatMap_append]
 simp
section
variable{ts:List ByteArray}{rs:List Nat}
theorem nr_mem(hts:∀r∈rs,(ts.getD r ⟨#[]⟩).size<=40){x:GNote}(h:x∈NR ts rs):(∃r∈rs,x.2.1=(r:Int)+1)/\OkW x.1/\x.1.size<=12/\0<=x.2.2/\x.2.2<=19:=by
 unfold NR at h
 obtain⟨r,hr,h⟩:=List.mem_flatMap.1 h
 have h1:=notesR_mem h
 have h2:=notesR_pos h
 obtain⟨w1,_,w3⟩:=short_words (hts r hr)
 have h3:=w3 _ h1.2
 exact⟨⟨r,hr,h1.1⟩,h3.1,h3.2,by omega,by omega⟩
theorem nr_len(hts:∀r∈rs,(ts.getD r ⟨#[]⟩).size<=40):(NR ts rs).length<=20*rs.length:=by
 induction rs with
 |nil=>exact Nat.le_refl _
 |cons a r ih=>
  have h1:=ih fun x hx=>hts x (List.mem_cons_of_mem _ hx)
  have h2:=(short_words (hts a List.mem_cons_self)).1
  have e:NR ts (a::r)=notesR ((a:Int)+1) (splitS (ts.getD a ⟨#[]⟩)) 0++NR ts r:=by
   unfold NR
   rw[List.flatMap_cons]
  rw[e,List.length_append,notesR_len,List.length_cons]
  omega
theorem refL_row(hts:∀r∈rs,(ts.getD r ⟨#[]⟩).size<=40){wd:ByteArray}{p:GPlace}(hp:p∈refL (NR ts rs) wd):∃r∈rs,p.1=(r:Int)+1:=by
 unfold refL at hp
 rw[setOf_mem]at hp
 unfold ofP at hp
 obtain⟨x,hx,rfl⟩:=List.mem_map.1 hp
 exact(nr_mem hts (List.mem_filter.1 hx).1).1
def FinR(pg:Nat->ByteArray)(n:ByteArray)(M:PM)(E:ByteArray->Prop)(V0:Nat)(ts:List ByteArray)(rs:List Nat)(c:Ch)(X:Tr):Prop:=
 ∃K V,FSt pg n V M E (refL (NR ts rs)) (NR ts rs).length K c X/\((K=[]/\V=V0+401*rs.length)\/(K≠[]/\V=V0+12+401*rs.length))
variable{pg:Nat->ByteArray}{n:ByteArray}{M:PM}{E:ByteArray->Prop}{V0:Nat}{c:Ch}{X:Tr}
theorem rin_start(n:ByteArray)(ts:List ByteArray){M:PM}(hM:GM manyK M)(E:ByteArray->Prop){V0:Nat}(h1:massA M<=V0)(h2:347<=V0):FinR dk0.pg n M E V0 ts [] (Ch.new headZ) none:=by
 have tg:TG wtF dk0.pg manyK 3 (Ch.new headZ) none [] M manyK 0 V0 (fun y=>y∈([]:LP).map Prod.fst\/E y):=
  ⟨Ch.new_fine headZ_fine,rfl,trivial,rfl,⟨(fun e h=>by cases h),trivial⟩,allocF_free _ (by omega),rfl,ltB_irrefl _,hM,by
   show max (0+massA M) 347<=V0
   omega,fun y hy=>by cases hy⟩
 exact⟨[],V0,⟨tg,.inl ⟨rfl,rfl⟩,fun wd _=>⟨[],rfl,⟨⟨(fun l h=>by cases h),List.Pairwise.nil⟩,(fun l h=>by cases h),(fun l h=>by cases h)⟩,(refL_nil wd).symm⟩,(fun wd p h=>by rw[show NR ts []=[]from rfl,refL_nil]at h;cases h),(fun e h=>by cases h)⟩,.inl ⟨rfl,rfl⟩⟩
theorem FinR.lays(h:FinR pg n M E V0 ts rs c X):X.lays c pg 3:=by
 obtain⟨K,V,h1,_⟩:=h
 exact h1.tg.lays
theorem rin_step(hn:OkW n)(h1n:n.size<=1)(hV0:V0<=802)(hE:∀y,E y->∀wd,OkW wd->preB (headW n wd) y=true->∀r,1<=r/\r<=25->ltB (keyW n wd r) y)
  (h:FinR pg n M E V0 ts rs c X) (hts:∀r∈rs,(ts.getD r ⟨#[]⟩).size<=40) (hrs:∀r∈rs,r<25) (hl:rs.length<20) {r:Nat} (hr:r<25) (hnew:r∉rs) (hs:(ts.getD r ⟨#[]⟩).size<=40):
  (∀wd∈splitS (ts.getD r ⟨#[]⟩),OkW wd/\∃PS,HasW X n wd PS/\∀p∈PS.flatten,p.1≠(r:Int)+1)/\
  ((X.get manyK=none/\(NR ts rs).length=0)\/X.get manyK=some (cntB (NR ts rs).length))/\
  (NR ts rs).length+(splitS (ts.getD r ⟨#[]⟩)).length<=500/\
  ∃c1 X1,putR c 3 X manyK (cntB ((NR ts rs).length+(splitS (ts.getD r ⟨#[]⟩)).length))=(c1,X1,0)/\AddsOk pg n ((r:Int)+1) (splitS (ts.getD r ⟨#[]⟩)) (fun c' X'=>∃K,FSt pg n (V0+12+401*(rs.length+1)) M E (refL (NR ts (rs++[r]))) (NR ts (rs++[r])).length K c' X'/\K≠[]) [] (splitS (ts.getD r ⟨#[]⟩)) c1 X1:=by
 obtain⟨K,V,h1,h2⟩:=h
 obtain⟨w1,w2,w3⟩:=short_words hs
 have hlen:=nr_len hts
 have hnx:=NR_snoc ts rs r
 obtain⟨ws,hws⟩:∃ws,splitS (ts.getD r ⟨#[]⟩)=ws:=⟨_,rfl⟩
 rw[hws]at w1 w2 w3 hnx⊢
 refine⟨fun wd hwd=>⟨(w3 wd hwd).1,?_⟩,h1.get,by omega,?_⟩
 ·obtain⟨PS,e1,e2,e3⟩:=h1.has wd (w3 wd hwd).1
  refine⟨PS,h1.hasW hn h1n (by omega) (w3 wd hwd).1 e1 e2 e3,fun p hp=>?_⟩
  rw[e3]at hp
  obtain⟨r2,hr2,e4⟩:=refL_row hts hp
  intro e5
  rw[e4]at e5
  have:r2=r:=by omega
  exact hnew (by rw[<-this];exact hr2)
 ·obtain⟨V2,hV2,hV3,hV4⟩:∃V2,((K=[]/\V2=V+12)\/(K≠[]/\V2=V))/\V2<12145/\V2=V0+12+401*rs.length:=by
   rcases h2 with⟨h3,h4⟩|⟨h3,h4⟩
   ·exact⟨V+12,.inl ⟨h3,rfl⟩,by omega,by omega⟩
   ·exact⟨V,.inr ⟨h3,rfl⟩,by omega,by omega⟩
  obtain⟨c1,X1,K1,e1,e2,e3,_⟩:=h1.adds hV2 hV3 ((NR ts rs).length+ws.length)
  refine⟨c1,X1,e1,?_⟩
  have hb:budg ws [] ws<=401:=by
   rw[budg_all]
   exact w2
  have h5:=FSt.adds_ok (row:=(r:Int)+1) hn h1n (by omega) w1 w3 ws [] (fun w hw=>hw) (fun wd p hp=>by
   obtain⟨r2,hr2,e4⟩:=refL_row hts hp
   have:=hrs r2 hr2
   omega) (by omega) hE (by rw[addL_nil];exact e2) e3 (by omega)
  refine h5.mono fun c' X' ⟨K',dn',f1,f2,f3⟩=>?_
  refine⟨K',?_,fun e=>?_⟩
  ·rw[refL_add (NR ts rs) ((r:Int)+1) (fun w=>by rw[f1 w];simp),<-hnx]at f2
   rw[show(NR ts rs).length+ws.length=(NR ts (rs++[r])).length by rw[hnx,List.length_append,notesR_len]]at f2
   exact f2.to (by omega) (fun _ h=>h)
  ·rw[e]at f3
   cases f3
theorem FinR.of{K:LP}{r:Nat}(h:FSt pg n (V0+12+401*(rs.length+1)) M E (refL (NR ts (rs++[r]))) (NR ts (rs++[r])).length K c X)(hK:K≠[]):FinR pg n M E V0 ts (rs++[r]) c X:=
 ⟨K,_,h,.inr ⟨hK,by rw[List.length_append];rfl⟩⟩
theorem ex_far(hn:OkW n){ws:List ByteArray}{R:Int}(hR:R<=1100):∀y,EX n ws R y->∀wd,OkW wd->preB (headW n wd) y=true->∀r,1<=r/\r<=25->ltB (keyW n wd r) y:=fun y hy wd hw hp r hr=>by
 obtain⟨r2,h2,rfl⟩:=ex_of hy hw hp
 exact(keyW_lt hn hw (by omega) (by omega)).2 (by omega)
theorem ex_next{ws:List ByteArray}{R R':Int}(h:R<=R'):∀y,EX n ws R y->EX n ws R' y:=fun y ⟨w,h1,h2,r,h3,h4⟩=>⟨w,h1,h2,r,by omega,h4⟩
theorem rin_mcx(hn:OkW n)(h1n:n.size<=1){V:Nat}(hV:V<12145){more:ByteArray}(hm:more.size<=40){R:Int}(hR:1000<=R/\R<=1100)(hts:∀r∈rs,(ts.getD r ⟨#[]⟩).size<=40)(hrs:∀r∈rs,r<25):MCx n V (splitS more) (dist (splitS more)) R (refL (NR ts rs)):=by
 obtain⟨w1,_,w3⟩:=short_words hm
 exact⟨hn,h1n,hR,hV,w1,w3,dist_nodup _,fun w=>dist_mem,fun wd p hp=>by
  obtain⟨r2,hr2,e4⟩:=refL_row hts hp
  have:=hrs r2 hr2
  omega,fun wd=>setOf_rising parts_place _⟩
end
end Go.Proofs.YtldmhjbdahjhdaaGreatDoor.Ev
namespace Go.Proofs.YtldmhjbdahjhdaaGreatDoor
section
open Go Go.RowKit
theorem keys_list(n:ByteArray):∀(l:LP),(∀e∈l,∃wd r,OkW wd/\wd.size<=12/\(1<=r/\r<=1073741824)/\e.1=keyW n wd r)->∃ls:List (ByteArray×Int×ByteArray),l=ls.map (fun e=>(keyW n e.1 e.2.1,e.2.2))/\∀e∈ls,OkW e.1/\(1<=e.2.1/\e.2.1<=1073741824)
 |[],_=>⟨[],rfl,fun e h=>by cases h⟩
 |( k,v)::l,h=>by
   obtain⟨ls,h1,h2⟩:=keys_list n l fun e he=>h e (List.mem_cons_of_mem _ he)
   obtain⟨wd,r,h3,_,h4,h5⟩:=h (k,v) List.mem_cons_self
   refine⟨(wd,r,v)::ls,?_,fun e he=>?_⟩
   · rw[List.map_cons,<-h1]
     simp only at h5⊢
     rw[h5]
   · rcases List.mem_cons.1 he with e2|he
     ·subst e2
      exact⟨h3,h4⟩
     ·exact h2 e he
theorem wsum_13{n:ByteArray}:∀ls:List (ByteArray×Int×ByteArray),13*ls.length<=wsum wtF (ls.map fun e=>(keyW n e.1 e.2.1,e.2.2))
 |[]=>Nat.zero_le _
 |e::ls=>by
  have ih:=wsum_13 (n:=n) ls
  have h1:=wtF_le (keyW n e.1 e.2.1) e.2.2
  unfold pz at h1
  rw[keyW_size]at h1
  unfold wsum at ih⊢
  simp only[List.map_cons,List.sum_cons,List.length_cons]
  omega
end
end Go.Proofs.YtldmhjbdahjhdaaGreatDoor
namespace Go.Proofs.YtldmhjbdahjhdaaGreatDoor.Ev
open Go Go.RowKit
section
variable{R:ByteArray->ByteArray->Prop}
theorem srt_ext(hR:∀a b,R a b->R b a->False):∀{l m:List ByteArray},l.Pairwise R->m.Pairwise R->(∀x,x∈l↔x∈m)->l=m
 |[],[],_,_,_=>rfl
 |[],y::m,_,_,h=>by cases(h y).2 List.mem_cons_self
 |x::l,[],_,_,h=>by cases(h x).1 List.mem_cons_self
 |x::l,y::m,hl,hm,h=>by
  obtain⟨l1,l2⟩:=List.pairwise_cons.1 hl
  obtain⟨m1,m2⟩:=List.pairwise_cons.1 hm
  have e:x=y:=by
   rcases List.mem_cons.1 ((h x).1 List.mem_cons_self)with e|h1
   ·exact e
   ·rcases List.mem_cons.1 ((h y).2 List.mem_cons_self)with e|h2
    ·exact e.symm
    ·exact(hR _ _ (l1 y h2) (m1 x h1)).elim
  subst e
  have hne:∀z,R x z->z≠x:=fun z hz e=>by
   subst e
   exact hR _ _ hz hz
  refine congrArg (x::·) (srt_ext hR l2 m2 fun z=>⟨fun hz=>?_,fun hz=>?_⟩)
  ·exact(List.mem_cons.1 ((h z).1 (List.mem_cons_of_mem _ hz))).resolve_left (hne z (l1 z hz))
  ·exact(List.mem_cons.1 ((h z).2 (List.mem_cons_of_mem _ hz))).resolve_left (hne z (m1 z hz))
theorem squeeze_srt(hR:∀a b,R a b->R b a->False):∀{l:List ByteArray},l.Pairwise (fun a b=>a=b\/R a b)->(squeeze l).Pairwise R
 |[],_=>List.Pairwise.nil
 |[a],_=>by
  show[a].Pairwise R
  exact List.pairwise_singleton _ _
 |a::b::t,h=>by
  obtain⟨h1,h2⟩:=List.pairwise_cons.1 h
  have ih:=squeeze_srt hR h2
  unfold squeeze
  by_cases e:a=b
  ·rw[if_pos e]
   exact ih
  ·rw[if_neg e]
   refine List.pairwise_cons.2 ⟨fun x hx=>?_,ih⟩
   have hx:=(squeeze_mem x (b::t)).1 hx
   rcases h1 x hx with e2|h3
   ·subst e2
    have hab:=(h1 b List.mem_cons_self).resolve_left e
    rcases List.mem_cons.1 hx with e3|hx
    ·exact absurd e3 e
    ·rcases(List.pairwise_cons.1 h2).1 a hx with e3|h4
     ·exact absurd e3.symm e
     ·exact(hR _ _ hab h4).elim
   ·exact h3
end
def wLt(n:ByteArray)(a b:ByteArray):Prop:=ltB (headW n a) (headW n b)
theorem wLt_asymm(n:ByteArray):∀a b,wLt n a b->wLt n b a->False:=fun _ _ h1 h2=>ltB_asymm h1 h2
theorem wLt_of{n a b:ByteArray}(ha:OkW a)(hb:OkW b){r s:Int}(h:ltB (keyW n a r) (keyW n b s)):a=b\/wLt n a b:=by
 by_cases e:a=b
 ·exact .inl e
 ·refine .inr ?_
  unfold wLt
  have hnp:preB (headW n b) (keyW n a r)=false:=by
   rw[pre_word_iff hb ha]
   simpa using fun h=>e h.symm
  have hnp2:preB (headW n b) (headW n a)=false:=by
   cases hp:preB (headW n b) (headW n a)with
   |false=>rfl
   |true=>
    obtain⟨t,h1⟩:=preB_iff.1 hp
    obtain⟨t2,h2⟩:=preB_iff.1 (keyW_pre n a r)
    have:preB (headW n b) (keyW n a r)=true:=preB_iff.2 ⟨t++t2,by rw[h2,h1,List.append_assoc]⟩
    rw[hnp]at this
    cases this
  rcases ltB_total (headW n a) (headW n b)with h1|h1|h1
  ·exact h1
  ·rw[h1]at hnp2
   rw[show preB (headW n b) (headW n b)=true from preB_iff.2 ⟨[],by simp⟩]at hnp2
   cases hnp2
  ·have h2:=above_pre (ltB_asymm h1) hnp2 (keyW_pre n b s)
   exact absurd (ltB_trans h h2) (pre_le (keyW_pre n a r))
theorem pre_all(x:ByteArray):preB ⟨#[]⟩ x=true:=preB_iff.2 ⟨x.data.toList,rfl⟩
theorem begL_all(ls:List (ByteArray×Int×ByteArray)):begL ⟨#[]⟩ ls=ls.map (·.1):=by
 unfold begL
 exact List.filter_eq_self.2 fun x _=>pre_all x
section
variable{pg:Nat->ByteArray}{n:ByteArray}{V N:Nat}{M:PM}{E:ByteArray->Prop}{L:Ct}{K:LP}{c:Ch}{X:Tr}
theorem ev_begin(hn:OkW n)(h:FSt pg n V M E L N K c X)(hV:V<12145):
  ∃ls,BegW X n ls/\ls.length<=1000/\(squeeze (begL ⟨#[]⟩ ls)).Pairwise (wLt n)/\∀w,w∈squeeze (begL ⟨#[]⟩ ls)↔OkW w/\L w≠[]:=by
 have hkey:∀e∈preA K (headN n),∃wd r,OkW wd/\wd.size<=12/\(1<=r/\r<=1073741824)/\e.1=keyW n wd r:=by
  intro e he
  obtain⟨he1,he2⟩:=List.mem_filter.1 he
  rcases h.keys e he1 with e3|e3
  ·rw[e3,not_preN_many]at he2
   cases he2
  ·exact e3
 obtain⟨ls,hls,hlo⟩:=keys_list n _ hkey
 have hwk:=h.tg.walk (s:=headN n) (ltB_asymm (many_headN n))
 have hcnt:13*ls.length<=V:=by
  refine Nat.le_trans (wsum_13 (n:=n) ls) ?_
  rw[<-hls]
  exact Nat.le_trans (wsum_filter _ K) h.tg.wsum
 have hbeg:BegW X n ls:=by
  refine⟨by rw[hwk,from_pre h.tg.srt,hls],hlo,?_⟩
  rw[hwk]
  have h2:(fromA K (headN n)).length<=K.length:=List.length_filter_le _ _
  have h3:=len_wsum K
  have h4:=h.tg.wsum
  omega
 have hsrt:(ls.map fun e=>(keyW n e.1 e.2.1,e.2.2)).Pairwise fun x y=>ltB x.1 y.1:=by
  rw[<-hls]
  have h7:SrtP (preA K (headN n)):=srt_filter h.tg.srt _
  exact List.pairwise_map.1 h7
 refine⟨ls,hbeg,by omega,?_,fun w=>?_⟩
 ·rw[begL_all]
  refine squeeze_srt (wLt_asymm n) (List.pairwise_map.2 ?_)
  have h1:=List.pairwise_map.1 hsrt
  have h2:ls.Pairwise fun a b=>(a∈ls/\b∈ls)/\ltB (keyW n a.1 a.2.1) (keyW n b.1 b.2.1):=List.Pairwise.and_mem.1 h1|>.imp fun⟨a,b,c⟩=>⟨⟨a,b⟩,c⟩
  exact h2.imp fun⟨⟨ha,hb⟩,h3⟩=>wLt_of (hlo _ ha).1 (hlo _ hb).1 h3
 ·rw[squeeze_mem,begL_all,List.mem_map]
  constructor
  ·rintro⟨e,he,rfl⟩
   have hok:=(hlo e he).1
   refine⟨hok,fun hnil=>?_⟩
   obtain⟨PS,e1,e2,e3⟩:=h.has e.1 hok
   rw[hnil]at e3
   have hk:(keyW n e.1 e.2.1,e.2.2)∈preA K (headN n):=by
    rw[hls]
    exact List.mem_map.2 ⟨e,he,rfl⟩
   have hk2:(keyW n e.1 e.2.1,e.2.2)∈preA K (headW n e.1):=List.mem_filter.2 ⟨(List.mem_filter.1 hk).1,keyW_pre n e.1 e.2.1⟩
   rw[e1]at hk2
   obtain⟨l,hl,_⟩:=List.mem_map.1 hk2
   have hne:=(e2.pc.ne l hl).1
   obtain⟨p,hp⟩:=List.exists_mem_of_ne_nil l hne
   have:p∈PS.flatten:=List.mem_flatten.2 ⟨l,hl,hp⟩
   rw[e3]at this
   cases this
  ·rintro⟨hok,hne0⟩
   obtain⟨PS,e1,e2,e3⟩:=h.has w hok
   have hne:PS≠[]:=by
    intro e
    rw[e]at e3
    exact hne0 e3.symm
   obtain⟨l,PS',rfl⟩:=List.exists_cons_of_ne_nil hne
   have hk:pcE n w l∈preA K (headW n w):=by
    rw[e1]
    exact List.mem_cons_self
   have hk2:pcE n w l∈preA K (headN n):=List.mem_filter.2 ⟨(List.mem_filter.1 hk).1,keyW_preN n w (rowOf l)⟩
   rw[hls]at hk2
   obtain⟨e,he,e4⟩:=List.mem_map.1 hk2
   have e5:keyW n e.1 e.2.1=keyW n w (rowOf l):=congrArg Prod.fst e4
   have e6:w=e.1:=pre_word hok (hlo e he).1 (n:=n) (r:=e.2.1) (by rw[e5];exact keyW_pre n w (rowOf l))
   exact⟨e,he,e6.symm⟩
end
theorem ev_words{n:ByteArray}{L:Ct}{a b:List ByteArray}(ha:a.Pairwise (wLt n))(hb:b.Pairwise (wLt n))(h1:∀w,w∈a↔OkW w/\L w≠[])(h2:∀w,w∈b↔OkW w/\L w≠[]):a=b:=
 srt_ext (wLt_asymm n) ha hb fun x=>(h1 x).trans (h2 x).symm
theorem refL_same{NL NL':List GNote}(h:∀x,x∈NL↔x∈NL'):refL NL=refL NL':=by
 funext wd
 unfold refL
 refine setOf_eq parts_place (setOf_rising parts_place _) fun p=>?_
 rw[setOf_mem]
 unfold ofP
 simp only[List.mem_map,List.mem_filter,h]
theorem NR_mem{ts:List ByteArray}{rs rs':List Nat}(h:rs.Perm rs'):(NR ts rs).Perm (NR ts rs'):=h.flatMap_right _
theorem sum_refL{NL:List GNote}(hnd:NL.Nodup){us:List ByteArray}(hu:us.Nodup)(hs:∀x∈NL,x.1∈us):(us.map fun w=>(refL NL w).length).sum=NL.length:=by
 have e:∀w,(refL NL w).length=(NL.filter fun x=>decide (x.1=w)).length:=fun w=>by
  have h1:(NL.filter fun x=>decide (x.1=w)).length=(ofP NL fun y=>decide (y=w)).length:=by
   unfold ofP
   rw[List.length_map]
  have h2:(ofP NL fun y=>decide (y=w)).Nodup:=by
   unfold ofP
   have h3:(NL.filter fun x=>decide (x.1=w)).Nodup:=hnd.sublist List.filter_sublist
   refine List.pairwise_map.2 ((List.Pairwise.and_mem.1 h3).imp fun⟨ha,hb,hne⟩ e=>hne ?_)
   have h4:=(List.mem_filter.1 ha).2
   have h5:=(List.mem_filter.1 hb).2
   have h4:=of_decide_eq_true h4
   have h5:=of_decide_eq_true h5
   exact Prod.ext (h4.trans h5.symm) e
  rw[h1]
  unfold refL
  refine Nat.le_antisymm (setOf_len _ _) (nodup_len h2 fun p hp=>(setOf_mem _ _ _).2 hp)
 have e2:(us.map fun w=>(refL NL w).length)=us.map fun w=>(NL.filter fun x=>decide (x.1=w)).length:=List.map_congr_left fun w _=>e w
 rw[e2]
 clear e e2 hnd
 induction NL with
 |nil=>exact sum_zero us
 |cons x r ih=>
  have ih:=ih fun y hy=>hs y (List.mem_cons_of_mem _ hy)
  have e:(us.map fun w=>((x::r).filter fun y=>decide (y.1=w)).length)=us.map fun w=>(if x.1=w then 1 else 0)+(r.filter fun y=>decide (y.1=w)).length:=List.map_congr_left fun w _=>by
   by_cases h:x.1=w
   ·rw[List.filter_cons_of_pos (by simpa using h),if_pos h,List.length_cons,Nat.add_comm]
   ·rw[List.filter_cons_of_neg (by simpa using h),if_neg h,Nat.zero_add]
  rw[e,sum_plus,ih,sum_one (fun _=>1) x.1 us hu (hs x List.mem_cons_self),List.length_cons,Nat.add_comm]
theorem notesR_nodup{r:Int}:∀{xs:List ByteArray} {i:Nat},(notesR r xs i).Nodup
 |[],_=>List.nodup_nil
 |x::xs,i=>by
  unfold notesR
  refine List.nodup_cons.2 ⟨fun h=>?_,notesR_nodup⟩
  have:=notesR_pos h
  simp only at this
  omega
theorem NR_nodup{ts:List ByteArray}:∀{rs:List Nat},rs.Nodup->(NR ts rs).Nodup
 |[],_=>List.nodup_nil
 |r::rs,h=>by
  obtain⟨h1,h2⟩:=List.nodup_cons.1 h
  have e:NR ts (r::rs)=notesR ((r:Int)+1) (splitS (ts.getD r ⟨#[]⟩)) 0++NR ts rs:=by
   unfold NR
   rw[List.flatMap_cons]
  rw[e]
  refine List.nodup_append.2 ⟨notesR_nodup,NR_nodup h2,fun a ha b hb e2=>?_⟩
  subst e2
  have h3:=(notesR_mem ha).1
  unfold NR at hb
  obtain⟨s,hs,h4⟩:=List.mem_flatMap.1 hb
  have h5:=(notesR_mem h4).1
  have:s=r:=by omega
  exact h1 (by rw[<-this];exact hs)
end Go.Proofs.YtldmhjbdahjhdaaGreatDoor.Ev
namespace Go.Proofs.YtldmhjbdahjhdaaGreatDoor.Ev
open Go Go.RowKit
def nmN:ByteArray:=⟨#[110]⟩
theorem nmN_ok:OkW nmN:=⟨by decide,by decide⟩
def txN:ByteArray:=⟨#[115,111,109,101,32,119,111,114,100,115]⟩
def wdN:ByteArray:=⟨#[119,111,114,100]⟩
theorem wdN_ok:OkW wdN:=⟨by decide,by decide⟩
theorem txN_words:splitS txN=[⟨#[115,111,109,101]⟩,wdN]:=by kernel_rfl
def ts3:List ByteArray:=[⟨#[]⟩,⟨#[]⟩,⟨#[]⟩,txN]
theorem noted_refl:refL (NR ts3 [3]) wdN=[(4,1)]:=by
 have h:NR ts3 [3]=[(⟨#[115,111,109,101]⟩,(4,0)),(wdN,(4,1))]:=by
  show([3].flatMap fun(r:Nat)=>notesR ((r:Int)+1) (splitS (ts3.getD r ⟨#[]⟩)) 0)=_
  rw[List.flatMap_cons,List.flatMap_nil,List.append_nil,show ts3.getD 3 ⟨#[]⟩=txN from rfl,txN_words]
  rfl
 rw[h]
 unfold refL
 refine setOf_rise ?_
 exact List.pairwise_singleton _ _
theorem noted_len:(NR ts3 [3]).length=2:=by
 show([3].flatMap fun(r:Nat)=>notesR ((r:Int)+1) (splitS (ts3.getD r ⟨#[]⟩)) 0).length=_
 rw[List.flatMap_cons,List.flatMap_nil,List.append_nil,show ts3.getD 3 ⟨#[]⟩=txN from rfl,txN_words]
 rfl
theorem noted_t(w:World)(he:EndsAt w)(hE:ErrTypeAt w)(hM:MaxAt w):Calls Tryz.prog 14 #[] w (Ret w (.bool true)):=by
 have hst:=rin_step (pg:=dk0.pg) nmN_ok (by decide) (V0:=347) (by omega) (E:=fun _=>False) (fun _ h=>h.elim) (rin_start nmN ts3 (M:=[]) (fun _ h=>by cases h) (fun _=>False) (by decide) (by omega)) (fun _ h=>by cases h) (fun _ h=>by cases h) (by decide) (r:=3) (by omega) (by simp) (by decide)
 rw[show ts3.getD 3 ⟨#[]⟩=txN from rfl,show(((3:Nat):Int)+1)=4 from rfl]at hst
 have HB:=Lib.hid (And.intro he (And.intro hE hM))
 have HST:=Lib.hid hst
 clear hst he hE hM
 go_enter Tryz.func14,Tryz.ntmps14
 go_wp2_with fail
 refine(found_w w).mono ?_
 rintro e w1 ⟨FP,TP,PB,DB,M,rfl,hF,hlo,hg⟩
 have hBA:BaseAt w PB DB M:=⟨HB.out.1,HB.out.2.1,HB.out.2.2,hlo.2.2⟩
 have had:=fun W (g:Gr w1 W)=>add_w (X:=none) hBA (hg.trans g) (hF.gr g) rfl nmN_ok (by decide) (row:=4) (by omega) (text:=txN) (by decide) HST.out.1 HST.out.2.1 HST.out.2.2.1 HST.out.2.2.2
 have HAD:=Lib.hid had
 have HG:=Lib.hid hg
 have HBA:=Lib.hid hBA
 clear had hg hBA hF hlo
 go_wp2_with fail
 refine(HAD.out w1 (Gr.refl w1)).mono ?_
 rintro e w2 ⟨rfl,c2,X2,hF2,⟨K2,hs2,_⟩,hf2⟩
 have hg2:=HBA.out.pg HG.out hf2
 have hpc:∃PS,HasW X2 nmN wdN PS/\PS.flatten=[(4,1)]:=by
  obtain⟨PS,e1,e2,e3⟩:=hs2.has wdN wdN_ok
  exact⟨PS,hs2.hasW nmN_ok (by decide) (by show 347+12+401*(0+1)<_;omega) wdN_ok e1 e2 e3,e3.trans noted_refl⟩
 obtain⟨PS,hh,hfl⟩:=hpc
 have hpl:=places_w hF2 hs2.tg.lays nmN_ok wdN_ok hh
 rw[hfl]at hpl
 have hget:=hs2.get
 rw[show NR ts3 ([]++[3])=NR ts3 [3]from rfl,noted_len]at hget
 have HM2:=Lib.hid (fun W (g:Gr w2 W)=>many_w (hF2.gr g) (HBA.out.err.gr (hg2.trans g)) (HBA.out.max.gr (hg2.trans g)) hs2.tg.lays (by omega) hget)
 have HPL:=Lib.hid hpl
 have HG2:=Lib.hid hg2
 clear hs2 hf2 hF2 hg2 hpl hget hh hfl
 go_wp2_with fail
 refine HPL.out.mono ?_
 rintro e w3 ⟨v,rfl,ho3,hg3⟩
 obtain⟨ao3,b3,cap3,rfl,hao3,hp3⟩:=ho3.places
 obtain rfl:=hao3 (by decide)
 have k0:=(hp3 0 (by decide)).1
 have k1:=(hp3 0 (by decide)).2
 have HG3:=Lib.hid (HG2.out.trans hg3)
 have hm3:=HM2.out w3 hg3
 clear ho3 hg3 hp3
 go_wp2_with fail
 refine hm3.mono ?_
 rintro e w4 ⟨rfl,hg4⟩
 have k0:=hg4.keeps k0
 have k1:=hg4.keeps k1
 have HG4:=Lib.hid (HG3.out.trans hg4)
 clear hg4
 go_wp2_with fail
 go_ret
 exact Ret.mk rfl HG4.out
end Go.Proofs.YtldmhjbdahjhdaaGreatDoor.Ev
