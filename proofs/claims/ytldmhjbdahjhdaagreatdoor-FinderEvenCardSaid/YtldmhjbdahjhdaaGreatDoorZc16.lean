/-
  Part 16 of the proof.
-/
import Derived.Test.YtldmhjbdahjhdaaGreatDoorZc15
set_option maxRecDepth 100000
set_option maxHeartbeats 100000000
set_option linter.all false
namespace Go.Proofs.YtldmhjbdahjhdaaGreatDoor
section
open Go Go.RowKit Go.Shelf Go.Lib Go.Sort
theorem squeeze_snoc{α:Type}[DecidableEq α](a:α):∀l:List α,squeeze (l++[a])=if l.getLast?=some a then squeeze l else squeeze l++[a]
 |[]=>rfl
 |[b]=>by
  by_cases h:b=a<;>simp[squeeze,h]
 |b::c::t=>by
  have ih:=squeeze_snoc a (c::t)
  simp only[List.cons_append]at ih⊢
  unfold squeeze
  by_cases h:b=c
  ·rw[if_pos h,if_pos h,ih,List.getLast?_cons_cons]
  ·rw[if_neg h,if_neg h,ih,List.getLast?_cons_cons]
   split<;>simp
theorem take_last{α:Type}(l:List α)(k:Nat)(h0:0<k)(hk:k<=l.length):(l.take k).getLast?=some (l[k-1]'(by omega)):=by
 rw[List.getLast?_eq_getElem?,List.length_take,Nat.min_eq_left hk,List.getElem?_take,if_pos (by omega),List.getElem?_eq_getElem]
theorem squeeze_next{α:Type}[DecidableEq α](l:List α)(k:Nat)(h0:0<k)(hk:k<l.length):squeeze (l.take (k+1))=if l[k]=l[k-1]then squeeze (l.take k)else squeeze (l.take k)++[l[k]]:=by
 rw[List.take_succ_eq_append_getElem hk,squeeze_snoc,take_last l k h0 (by omega)]
 simp only[Option.some.injEq]
 by_cases h:l[k]=l[k-1]
 ·rw[if_pos h,if_pos h.symm]
 ·rw[if_neg h,if_neg (fun e=>h e.symm)]
theorem squeeze_len{α:Type}[DecidableEq α]:∀l:List α,(squeeze l).length<=l.length
 |[]=>Nat.le_refl _
 |[a]=>Nat.le_refl _
 |a::b::t=>by
  have ih:=squeeze_len (b::t)
  unfold squeeze
  split
  ·simp only[List.length_cons]at*;omega
  ·simp only[List.length_cons]at*;omega
theorem GrX.setCells{S:Nat->Prop}(b:Nat):∀(vs:List Value) (o:Nat) (w:World),S b->GrX S w (w.setCells b o vs)
 |[],_,w,_=>GrX.refl S w
 |v::vs,o,w,h=>(GrX.setCell w v h).trans (GrX.setCells b vs (o+1) _ h)
theorem RowP.gr{w w':World}{B:Nat}{xs:List GPlace}(h:RowP w B xs)(g:Gr w w')(hB:B<w.heap.size):RowP w' B xs:=
 fun i hi=>⟨⟨g.keeps (h i hi).1.1,(g.frozen _ hB).trans (h i hi).1.2⟩,⟨g.keeps (h i hi).2.1,(g.frozen _ hB).trans (h i hi).2.2⟩⟩
theorem RowP.set{w:World}{B i:Nat}{ys:List GPlace}(h:RowP w B ys)(hi:i<ys.length)(a1 a2:Int):
  RowP ((w.setCell ⟨B,i*2,none⟩ (.int .i64 a1)).setCell ⟨B,i*2+1,none⟩ (.int .i64 a2)) B (ys.set i (a1,a2)):=by
 intro k hk
 rw[List.length_set]at hk
 have h0:=h k hk
 have hi0:=h i hi
 have n1:(⟨B,i*2+1,none⟩:Addr)≠⟨B,k*2,none⟩:=fun e=>by
  have:=congrArg Addr.off e
  simp at this
  omega
 have n2:(⟨B,i*2,none⟩:Addr)≠⟨B,k*2+1,none⟩:=fun e=>by
  have:=congrArg Addr.off e
  simp at this
  omega
 refine⟨⟨?_,by rw[World.frozen?_setCell,World.frozen?_setCell];exact h0.1.2⟩,⟨?_,by rw[World.frozen?_setCell,World.frozen?_setCell];exact h0.2.2⟩⟩
 ·rw[World.cell?_setCell_other _ _ _ _ n1]
  by_cases hki:k=i
  ·subst hki
   rw[World.cell?_setCell_same _ _ _ hi0.1.1]
   simp
  ·have n3:(⟨B,i*2,none⟩:Addr)≠⟨B,k*2,none⟩:=fun e=>by
    have:=congrArg Addr.off e
    simp at this
    omega
   rw[World.cell?_setCell_other _ _ _ _ n3,h0.1.1]
   simp[Ne.symm hki]
 ·by_cases hki:k=i
  ·subst hki
   rw[World.cell?_setCell_same _ _ _ ((World.cell?_setCell_other _ _ _ _ n2).trans hi0.2.1)]
   simp
  ·have n3:(⟨B,i*2+1,none⟩:Addr)≠⟨B,k*2+1,none⟩:=fun e=>by
    have:=congrArg Addr.off e
    simp at this
    omega
   rw[World.cell?_setCell_other _ _ _ _ n3,World.cell?_setCell_other _ _ _ _ n2,h0.2.1]
   simp[Ne.symm hki]
theorem run_clear_places(w:World)(ty:TypeId)(b o n c:Nat)(hn:0<n)(hc:∀j,j<n*2->(w.cell? ⟨b,o+j,none⟩).isSome=true)(hf:∀j,j<n*2->w.frozen? ⟨b,o+j,none⟩=false):
  (Builtin.clear_ #[57] ty #[.slice (some ⟨b,o,none⟩) n c]).run Tryz.prog w=.ok (.tuple #[]) (w.setCells b o (List.replicate (n*2) (.int .i64 0))):=by
 have hv:∀w,(zeroValue 104).run Tryz.prog w=.ok (.agg #[.int .i64 0,.int .i64 0]) w:=Tryz.zeroValue104
 have hzc:(Builtin.zeroCells (Value.agg #[.int .i64 0,.int .i64 0]).cells n).toList=List.replicate (n*2) (.int .i64 0):=by
  apply List.ext_getElem
  ·simp[Builtin.zeroCells,Value.cells]
  ·intro i h1 h2
   simp only[Builtin.zeroCells,Value.cells,List.getElem_replicate]
   rcases Nat.mod_two_eq_zero_or_one i with e|e<;>simp[e]
 have hst:=run_storeCells_cells (P:=Tryz.prog) b o (List.replicate (n*2) (.int .i64 0)) 0 w (by simpa using hc) (by simpa using hf) (by intro v hv';rw[List.eq_of_mem_replicate hv'];rfl)
 simp only[Nat.add_zero]at hst
 obtain⟨m,rfl⟩:∃m,n=m+1:=⟨n-1,by omega⟩
 simp[Builtin.clear_,run_underlying Tryz.underlying57,hv,hzc,hst]
theorem equalIn_place(x1 x2 y1 y2:Int)(W:World):(Op.equalIn 10000 104 (.agg #[.int .i64 x1,.int .i64 x2]) (.agg #[.int .i64 y1,.int .i64 y2])).run Tryz.prog W=.ok (x1==y1&&x2==y2) W:=by
 have u3:=Tryz.underlying3
 have a3:=Tryz.isAgg3
 have z3:=Tryz.sizeOf3
 have hS:Tryz.prog.underlying 104=some (.struct (Tryz.prog.fieldsOf 104)):=by kernel_rfl
 have hp:Tryz.prog.stoodInHeld 104=false:=by kernel_rfl
 rw[show(10000:Nat)=9999+1 from rfl,run_equalIn_agg W 9999 104 _ _ hS hp]
 simp only[Program.fieldsOf,Tryz.underlying104]
 go_simp
 by_cases h1:x1=y1<;>by_cases h2:x2=y2<;>simp[h1,h2]
theorem compact_p(xs:List GPlace)(B cap:Nat)(hl:xs.length<=1000000)(hcap:xs.length<=cap)(w:World)(h:RowP w B xs)(hB:B<w.heap.size):
  Calls Tryz.prog 98 #[.slice (some ⟨B,0,none⟩) xs.length cap] w fun e w'=>
   e=.returned (.slice (some ⟨B,0,none⟩) (squeeze xs).length cap)/\RowP w' B (squeeze xs)/\GrX (fun i=>i=B) w w':=by
 have H:=Lib.hid h
 clear h
 by_cases h2:xs.length<2
 ·have e:squeeze xs=xs:=by
   match xs,h2 with
   |[],_=>rfl
   |[a],_=>rfl
   |_::_::_,h=>simp at h;omega
  rw[e]
  have g1:decide ((xs.length:Int)<2)=true:=by simp;omega
  go_enter Tryz.func98,Tryz.ntmps98
  go_wp2_with fail
  go_ret
  exact⟨rfl,H.out,GrX.refl _ _⟩
 ·have g1:decide ((xs.length:Int)<2)=false:=by simp;omega
  go_enter Tryz.func98,Tryz.ntmps98
  go_wp2_with fail
  go_loopw [3] (fun kv w'=>∃k:Nat,1<=k/\k<=xs.length/\kv=.int .i64 k/\squeeze (xs.take k)=xs.take k/\Gr w w') (fun kv _=>xs.length-(intOf kv).toNat)
  case atStart=>exact⟨1,Nat.le_refl _,by omega,rfl,by cases xs<;>rfl,Gr.refl _⟩
  case round=>
   obtain⟨k,h1,hk,rfl,hs,hg⟩:=hrel
   obtain⟨m,rfl⟩:∃m,k=m+1:=⟨k-1,by omega⟩
   by_cases hlt:m+1<xs.length
   ·have hr1:=H.out (m+1) hlt
    have hr0:=H.out m (by omega)
    have f1:=fun d os=>cell_regrown (hg.keeps hr1.1.1) d os
    have f2:=fun d os=>cell_regrown (hg.keeps hr1.2.1) d os
    have f3:=fun d os=>cell_regrown (hg.keeps hr0.1.1) d os
    have f4:=fun d os=>cell_regrown (hg.keeps hr0.2.1) d os
    have hnx:squeeze (xs.take (m+1+1))=if xs[m+1]=xs[m]'(by omega)then squeeze (xs.take (m+1))else squeeze (xs.take (m+1))++[xs[m+1]]:=squeeze_next xs (m+1) (by omega) hlt
    have hi1:(m:Int)+1<(xs.length:Int):=by omega
    have hi0:(m:Int)<(xs.length:Int):=by omega
    generalize hx1:xs[m+1]=x at*
    generalize hx0:xs[m]'(by omega)=y at*
    by_cases he:x=y
    ·have hst:=(hnx.trans (if_pos he)).trans hs
     clear hnx
     subst he
     obtain⟨x1,x2⟩:=x
     simp only at f1 f2 f3 f4
     have hq:∀W,(Op.equalIn 10000 104 (.agg #[.int .i64 x1,.int .i64 x2]) (.agg #[.int .i64 x1,.int .i64 x2])).run Tryz.prog W=.ok true W:=fun W=>by
      rw[equalIn_place]
      simp
     clear hr1 hr0
     go_wp2_with fail
     refine wp_region_quiet_below (by kernel_rfl) (by kernel_rfl) ?_
     repeat(go_big_quiet_step (fail))
     refine wpQuiet_nil ?_
     intro w3 hw3
     have hg3:=hg.trans (gr_regrown hw3)
     clear hw3 f1 f2 f3 f4 hg
     have hcm:¬cap=m+1:=by omega
     have hz1:(m:Int)+1<=(xs.length:Int):=by omega
     have hrow3:RowP w3 B xs:=fun i hi=>⟨⟨hg3.keeps (H.out i hi).1.1,(hg3.frozen _ hB).trans (H.out i hi).1.2⟩,⟨hg3.keeps (H.out i hi).2.1,(hg3.frozen _ hB).trans (H.out i hi).2.2⟩⟩
     have HR3:=Lib.hid hrow3
     have HST:=Lib.hid hst
     clear hrow3 hst hx1 hx0 hs
     go_wp2_with fail
     go_loopw [3,5] (fun kv jv w'=>∃(q j:Nat) (ys:List GPlace),1<=j/\m+1+j<=xs.length/\kv=.int .i64 q/\jv=.int .i64 j/\m+1<=q/\q<=m+j/\ys.length=xs.length/\(∀i,q<=i->ys[i]?=xs[i]?)/\squeeze (xs.take (m+1+j))=ys.take q/\RowP w' B ys/\GrX (fun i=>i=B) w w') (fun _ jv _=>xs.length-(intOf jv).toNat)
     case atStart=>exact⟨m+1,1,xs,Nat.le_refl _,by omega,by go_num,rfl,Nat.le_refl _,Nat.le_refl _,rfl,fun _ _=>rfl,HST.out,HR3.out,GrX.of_gr hg3⟩
     case round=>
      obtain⟨q,j,ys,hj1,hjn,rfl,rfl,hq1,hq2,hyl,hyx,hsq,hrow,hgx⟩:=hrel
      have HROW:=Lib.hid hrow
      have HSQ:=Lib.hid hsq
      have HYX:=Lib.hid hyx
      clear hrow hsq hyx hg3
      by_cases hlt2:j<xs.length-(m+1)
      ·obtain⟨p,rfl⟩:∃p,j=p+1:=⟨j-1,by omega⟩
       have hi1':m+1+(p+1)<xs.length:=by omega
       have ey1:ys[m+1+(p+1)]'(by omega)=xs[m+1+(p+1)]:=by
        have:=HYX.out (m+1+(p+1)) (by omega)
        rw[List.getElem?_eq_getElem (by omega),List.getElem?_eq_getElem hi1']at this
        exact Option.some.inj this
       have ey0:ys[m+1+p]'(by omega)=xs[m+1+p]'(by omega):=by
        have:=HYX.out (m+1+p) (by omega)
        rw[List.getElem?_eq_getElem (by omega),List.getElem?_eq_getElem (by omega)]at this
        exact Option.some.inj this
       have hr1:=HROW.out (m+1+(p+1)) (by omega)
       have hr0:=HROW.out (m+1+p) (by omega)
       rw[ey1,show(m+1+(p+1))*2=(m+1)*2+(p+1)*2 by omega]at hr1
       rw[ey0,show(m+1+p)*2=(m+1)*2+p*2 by omega]at hr0
       have f1:=fun d os=>cell_regrown hr1.1.1 d os
       have f2:=fun d os=>cell_regrown hr1.2.1 d os
       have f3:=fun d os=>cell_regrown hr0.1.1 d os
       have f4:=fun d os=>cell_regrown hr0.2.1 d os
       have hnx:squeeze (xs.take (m+1+(p+1)+1))=if xs[m+1+(p+1)]=xs[m+1+p]'(by omega)then squeeze (xs.take (m+1+(p+1)))else squeeze (xs.take (m+1+(p+1)))++[xs[m+1+(p+1)]]:=squeeze_next xs (m+1+(p+1)) (by omega) hi1'
       rw[HSQ.out]at hnx
       have hz2:(p:Int)+1<((xs.length-(m+1):Nat):Int):=by omega
       have hz3:(p:Int)<((xs.length-(m+1):Nat):Int):=by omega
       generalize hx1:xs[m+1+(p+1)]=x at*
       generalize hx0:xs[m+1+p]'(by omega)=y at*
       by_cases he:x=y
       ·have hst:=hnx.trans (if_pos he)
        clear hnx
        subst he
        obtain⟨a1,a2⟩:=x
        simp only at f1 f2 f3 f4
        have hq:∀W,(Op.equalIn 10000 104 (.agg #[.int .i64 a1,.int .i64 a2]) (.agg #[.int .i64 a1,.int .i64 a2])).run Tryz.prog W=.ok true W:=fun W=>by
         rw[equalIn_place]
         simp
        clear hr1 hr0
        go_wp2_with fail
        refine wp_region_quiet_below (by kernel_rfl) (by kernel_rfl) ?_
        repeat(go_big_quiet_step (fail))
        refine wpQuiet_nil ?_
        intro w4 hw4
        have hg4:=gr_regrown hw4
        clear hw4 f1 f2 f3 f4
        have hBw:B<wr.heap.size:=Nat.lt_of_lt_of_le hB hgx.2.2.2.1
        go_wp2_with fail
        exact⟨⟨q,p+2,ys,by omega,by omega,rfl,by go_num,hq1,by omega,hyl,HYX.out,hst,HROW.out.gr hg4 hBw,hgx.trans (GrX.of_gr hg4)⟩,by simp[intOf];omega⟩
       ·have hst:=hnx.trans (if_neg he)
        clear hnx
        obtain⟨a1,a2⟩:=x
        obtain⟨b1,b2⟩:=y
        simp only at f1 f2 f3 f4
        have hq:∀W,(Op.equalIn 10000 104 (.agg #[.int .i64 a1,.int .i64 a2]) (.agg #[.int .i64 b1,.int .i64 b2])).run Tryz.prog W=.ok false W:=fun W=>by
         rw[equalIn_place,show(a1==b1&&a2==b2)=false from by
          rw[Bool.eq_false_iff]
          intro h
          simp only[Bool.and_eq_true,beq_iff_eq]at h
          exact he (by rw[h.1,h.2])]
        go_wp2_with fail
        refine wp_region_quiet_below (by kernel_rfl) (by kernel_rfl) ?_
        repeat(go_big_quiet_step (fail))
        refine wpQuiet_nil ?_
        intro w4 hw4
        have hg4:=gr_regrown hw4
        clear hw4 f1 f2 f3 f4
        have hBw:B<wr.heap.size:=Nat.lt_of_lt_of_le hB hgx.2.2.2.1
        have e1:=hg4.keeps hr1.1.1
        have e2:=hg4.keeps hr1.2.1
        have hrq:=HROW.out q (by omega)
        have d1:=hg4.keeps hrq.1.1
        have d2:=hg4.keeps hrq.2.1
        have z1:=(hg4.frozen _ hBw).trans hrq.1.2
        have z2:=(hg4.frozen _ hBw).trans hrq.2.2
        have hz4:(q:Int)<(xs.length:Int):=by omega
        clear hr1 hr0 hrq
        go_wp2_with fail
        go_roundw
        case measure=>
         simp[intOf]
         omega
        case rel=>
         have hyx':∀i,q+1<=i->(ys.set q (a1,a2))[i]?=xs[i]?:=fun i hi=>by
          rw[List.getElem?_set_ne (by omega)]
          exact HYX.out i (by omega)
         have hsq':squeeze (xs.take (m+1+(p+2)))=(ys.set q (a1,a2)).take (q+1):=by
          rw[show m+1+(p+2)=m+1+(p+1)+1 by omega,hst,List.take_succ_eq_append_getElem (by rw[List.length_set];omega),List.take_set_of_le (Nat.le_refl q)]
          simp
         have hrow':=(HROW.out.gr hg4 hBw).set (i:=q) (by omega) a1 a2
         have hgx':=((hgx.trans (GrX.of_gr hg4)).trans (GrX.setCell (S:=fun i=>i=B) w4 (p:=⟨B,q*2,none⟩) (.int .i64 a1) rfl)).trans (GrX.setCell (S:=fun i=>i=B) _ (p:=⟨B,q*2+1,none⟩) (.int .i64 a2) rfl)
         first|exact⟨_,_,_,_,_,_,_,_,_,_,_,_,_,_,_,_,_,_,_,_,_,_,_,_,_,_,⟨q+1,p+2,ys.set q (a1,a2),by omega,by omega,by go_num,by go_num,by omega,by omega,by rw[List.length_set];exact hyl,hyx',hsq',hrow',hgx'⟩,rfl⟩|exact⟨_,_,_,_,_,_,_,_,_,_,_,_,_,_,_,_,_,_,_,_,_,_,_,_,_,_,_,⟨q+1,p+2,ys.set q (a1,a2),by omega,by omega,by go_num,by go_num,by omega,by omega,by rw[List.length_set];exact hyl,hyx',hsq',hrow',hgx'⟩,rfl⟩|exact⟨_,_,_,_,_,_,_,_,_,_,_,_,_,_,_,_,_,_,_,_,_,_,_,_,_,⟨q+1,p+2,ys.set q (a1,a2),by omega,by omega,by go_num,by go_num,by omega,by omega,by rw[List.length_set];exact hyl,hyx',hsq',hrow',hgx'⟩,rfl⟩|exact⟨_,_,_,_,_,_,_,_,_,_,_,_,_,_,_,_,_,_,_,_,_,_,_,_,_,_,_,_,⟨q+1,p+2,ys.set q (a1,a2),by omega,by omega,by go_num,by go_num,by omega,by omega,by rw[List.length_set];exact hyl,hyx',hsq',hrow',hgx'⟩,rfl⟩|exact⟨_,_,_,_,_,_,_,_,_,_,_,_,_,_,_,_,_,_,_,_,_,_,_,_,⟨q+1,p+2,ys.set q (a1,a2),by omega,by omega,by go_num,by go_num,by omega,by omega,by rw[List.length_set];exact hyl,hyx',hsq',hrow',hgx'⟩,rfl⟩|exact⟨_,_,_,_,_,_,_,_,_,_,_,_,_,_,_,_,_,_,_,_,_,_,_,_,_,_,_,_,_,⟨q+1,p+2,ys.set q (a1,a2),by omega,by omega,by go_num,by go_num,by omega,by omega,by rw[List.length_set];exact hyl,hyx',hsq',hrow',hgx'⟩,rfl⟩
      ·have hjn':m+1+j=xs.length:=by omega
       have hsqx:=HSQ.out
       rw[List.take_of_length_le (by omega)]at hsqx
       have hBw:B<wr.heap.size:=Nat.lt_of_lt_of_le hB hgx.2.2.2.1
       have hql:q<xs.length:=by omega
       have hcl:=run_clear_places wr 0 B (q*2) (xs.length-q) (cap-q) (by omega) (fun j hj=>by
        have hh:=HROW.out (q+j/2) (by omega)
        rcases Nat.mod_two_eq_zero_or_one j with e|e
        ·rw[show q*2+j=(q+j/2)*2 by omega,hh.1.1]
         rfl
        ·rw[show q*2+j=(q+j/2)*2+1 by omega,hh.2.1]
         rfl) (fun j hj=>by
        have hh:=HROW.out (q+j/2) (by omega)
        rcases Nat.mod_two_eq_zero_or_one j with e|e
        ·rw[show q*2+j=(q+j/2)*2 by omega,hh.1.2]
        ·rw[show q*2+j=(q+j/2)*2+1 by omega,hh.2.2])
       go_wp2_with fail
       go_ret
       have hlen:(ys.take q).length=q:=by
        rw[List.length_take]
        omega
       have hout:=World.cell?_setCells_out B (List.replicate ((xs.length-q)*2) (.int .i64 0)) (q*2) wr
       have hfro:=World.frozen?_setCells B (List.replicate ((xs.length-q)*2) (.int .i64 0)) (q*2) wr
       refine⟨by rw[hsqx,hlen];rfl,?_,hgx.trans (GrX.setCells B _ _ wr rfl)⟩
       rw[hsqx]
       intro i hi
       rw[hlen]at hi
       have hh:=HROW.out i (by omega)
       rw[List.getElem_take]
       exact⟨⟨(hout _ (fun _ _=>Or.inl (by show i*2<q*2;omega))).trans hh.1.1,(hfro _).trans hh.1.2⟩,⟨(hout _ (fun _ _=>Or.inl (by show i*2+1<q*2;omega))).trans hh.2.1,(hfro _).trans hh.2.2⟩⟩
    ·obtain⟨x1,x2⟩:=x
     obtain⟨y1,y2⟩:=y
     simp only at f1 f2 f3 f4
     have hq:∀W,(Op.equalIn 10000 104 (.agg #[.int .i64 x1,.int .i64 x2]) (.agg #[.int .i64 y1,.int .i64 y2])).run Tryz.prog W=.ok false W:=fun W=>by
      rw[equalIn_place,show(x1==y1&&x2==y2)=false from by
       rw[Bool.eq_false_iff]
       intro h
       simp only[Bool.and_eq_true,beq_iff_eq]at h
       exact he (by rw[h.1,h.2])]
     clear hr1 hr0
     go_wp2_with fail
     refine wp_region_quiet_below (by kernel_rfl) (by kernel_rfl) ?_
     repeat(go_big_quiet_step (fail))
     refine wpQuiet_nil ?_
     intro w3 hw3
     have hg3:=hg.trans (gr_regrown hw3)
     clear hw3 f1 f2 f3 f4 hg
     go_wp2_with fail
     refine⟨⟨m+2,by omega,by omega,by go_num,?_,hg3⟩,by simp[intOf];omega⟩
     rw[List.take_succ_eq_append_getElem hlt,hx1]
     have:=hnx
     rw[if_neg he,List.take_succ_eq_append_getElem hlt,hx1,hs]at this
     exact this
   ·obtain hkk:m+1=xs.length:=by omega
    go_wp2_with fail
    go_ret
    have e:squeeze xs=xs:=by
     have:=hs
     rw[List.take_of_length_le (by omega)]at this
     exact this
    rw[e]
    exact⟨rfl,fun i hi=>⟨⟨hg.keeps (H.out i hi).1.1,(hg.frozen _ hB).trans (H.out i hi).1.2⟩,⟨hg.keeps (H.out i hi).2.1,(hg.frozen _ hB).trans (H.out i hi).2.2⟩⟩,GrX.of_gr hg⟩
end
section
open Go Go.RowKit
def get5(l:List UInt8):Option (Nat×List UInt8):=getF 5 l
def getVal(l:List UInt8):Value:=match get5 l with
 |some (n,r)=>.tuple #[.int .i64 (n:Int),.string ⟨r.toArray⟩,.bool true]
 |none=>.tuple #[.int .i64 0,.string ⟨#[]⟩,.bool false]
def GInv(l:List UInt8)(k n:Nat):Prop:=n<128^k/\get5 l=(getF (5-k) (l.drop k)).map fun x=>(n+128^k*x.1,x.2)
theorem ginv_zero(l:List UInt8):GInv l 0 0:=⟨by simp,by simp[get5]⟩
theorem ginv_step{l:List UInt8}{k n:Nat}(h:GInv l k n)(h5:k<5)(hk:k<l.length)(hc:¬l[k].toNat<128):GInv l (k+1) (n+128^k*(l[k].toNat-128)):=by
 have h8:=UInt8.toNat_lt l[k]
 refine⟨?_,?_⟩
 ·have h1:=h.1
  rw[Nat.pow_succ]
  generalize 128^k=P at h1⊢
  have h2:P*(l[k].toNat-128)<=P*127:=Nat.mul_le_mul_left _ (by omega)
  exact Nat.lt_of_lt_of_eq (Nat.add_lt_add_of_lt_of_le h1 h2) (by omega)
 ·have h2:=h.2
  obtain⟨m,hm⟩:∃m,5-k=m+1:=⟨4-k,by omega⟩
  have hm':5-(k+1)=m:=by omega
  rw[hm,List.drop_eq_getElem_cons hk,getF,if_neg hc,Option.map_map]at h2
  rw[h2,hm']
  refine Option.map_congr fun x _=>?_
  simp only[Function.comp_apply,Prod.mk.injEq,and_true]
  rw[Nat.pow_succ,Nat.mul_add,<-Nat.mul_assoc,Nat.add_assoc]
theorem ginv_hit{l:List UInt8}{k n:Nat}(h:GInv l k n)(h5:k<5)(hk:k<l.length)(hc:l[k].toNat<128):get5 l=some (n+128^k*l[k].toNat,l.drop (k+1)):=by
 have h2:=h.2
 rw[List.drop_eq_getElem_cons hk,show 5-k=(5-(k+1))+1 by omega,getF,if_pos hc]at h2
 exact h2
theorem ginv_out{l:List UInt8}{k n:Nat}(h:GInv l k n)(hk:k=5\/l.length<=k):get5 l=none:=by
 have h2:=h.2
 rcases hk with rfl|hk
 ·rw[Nat.sub_self,getF]at h2
  exact h2
 ·rw[List.drop_of_length_le hk]at h2
  rw[h2]
  cases 5-k<;>rfl
theorem and_u8(c:UInt8):bits BinOp.and IntKind.u8 (c.toNat:Int) 127=((c.toNat % 128:Nat):Int):=by
 have h:∀r:Fin 256,bits BinOp.and IntKind.u8 ((r.val:Nat):Int) 127=((r.val % 128:Nat):Int):=by decide+kernel
 exact h ⟨c.toNat,UInt8.toNat_lt c⟩
theorem or_shift(n d k:Nat)(hn:n<128^k)(hk:k<5)(hd:d<128):bits BinOp.or IntKind.i64 (n:Int) ((128^k*d:Nat):Int)=((n+128^k*d:Nat):Int):=by
 have hp:128^k<=268435456:=by
  rw[show(268435456:Nat)=128^4 by decide]
  exact Nat.pow_le_pow_right (by omega) (by omega)
 have hm:128^k*d<=268435456*127:=Nat.mul_le_mul hp (by omega)
 show IntKind.i64.wrap ((BitVec.ofInt 64 (n:Int)|||BitVec.ofInt 64 ((128^k*d:Nat):Int)).toNat:Int)=_
 rw[BitVec.toNat_or,ofInt_64 _ (by omega),ofInt_64 _ (by omega),IntKind.wrap_i64]
 have h:=Nat.two_pow_add_eq_or_of_lt (i:=7*k) (b:=n) (by rw[Nat.pow_mul];exact hn) d
 rw[Nat.pow_mul,show(2:Nat)^7=128 by decide]at h
 rw[Nat.or_comm,<-h]
 omega
theorem get_p(s:ByteArray)(hs:s.size<4294967281)(w:World):Calls Tryz.prog 123 #[.string s] w (Ret w (getVal s.data.toList)):=by
 go_enter Tryz.func123,Tryz.ntmps123
 go_wp2_with fail
 go_loop [10,5] (fun i u=>∃k n:Nat,k<=5/\k<=s.size/\i=.int .i64 k/\u=.int .i64 n/\GInv s.data.toList k n) (fun i _=>5-(intOf i).toNat)
 case atStart=>exact⟨0,0,by omega,by omega,rfl,rfl,ginv_zero _⟩
 case round=>
  obtain⟨k,n,hk5,hks,rfl,rfl,hi⟩:=hrel
  have HI:=Lib.hid hi
  have hn:=hi.1
  clear hi
  by_cases hlt:k<5/\k<s.size
  ·obtain⟨h5,hlt⟩:=hlt
   have hmin:(k:Int)<min (s.size:Int) 5:=by omega
   have hc8:=UInt8.toNat_lt s[k]
   have hcl:=get_data s k hlt
   have hb:=and_u8 s[k]
   have hd:=Nat.mod_lt s[k].toNat (show 128>0 by omega)
   generalize hcc:s[k]=cc at*
   generalize hdd:cc.toNat % 128=d at*
   have HCL:=Lib.hid hcl
   have HDD:=Lib.hid hdd
   have ho:=or_shift n d k hn h5 hd
   clear hcl hdd
   rcases(show k=0\/k=1\/k=2\/k=3\/k=4 by omega)with rfl|rfl|rfl|rfl|rfl
   ·simp only[Nat.reducePow,Nat.one_mul,Int.natCast_mul,Int.natCast_add,Int.cast_ofNat_Int,Int.mul_comm _ (d:Int)]at ho hn
    cases h128:decide ((cc.toNat:Int)<128)
    ·go_wp2_with fail
     simp only[decide_eq_false_iff_not]at h128
     have hst:=ginv_step HI.out (by omega) (by rw[<-size_data];exact hlt) (by rw[<-HCL.out];omega)
     rw[<-HCL.out]at hst
     have hdd:=HDD.out
     refine⟨⟨_,_,?_,?_,?_,?_,hst⟩,by simp[intOf]⟩
     ·omega
     ·omega
     ·rfl
     ·rw[show cc.toNat-128=d by omega]
      simp[Int.mul_comm]
    ·simp only[decide_eq_true_eq]at h128
     have hht:=ginv_hit HI.out (by omega) (by rw[<-size_data];exact hlt) (by rw[<-HCL.out];omega)
     rw[<-HCL.out]at hht
     have hdd:=HDD.out
     have HHT:=Lib.hid hht
     clear hht
     go_wp2_with fail
     go_region
     go_wp2
     have hex:s.extract 1 s.size=⟨(s.data.toList.drop 1).toArray⟩:=by
      apply bytes_ext
      rw[Lib.extract_data,List.take_of_length_le (by rw[List.length_drop,<-size_data];omega)]
     refine bodyPost_ret (v:=.tuple #[.int .i64 ((n:Int)+(d:Int)),.string (s.extract 1 s.size),.bool true]) (by simp[results,Tryz.results123,go_sem]) rfl ?_
     unfold getVal
     rw[HHT.out,hex]
     refine Ret.mk ?_ (by repeat(first|exact Gr.refl _|refine Gr.drew ?_))
     simp only
     rw[show cc.toNat=d by omega]
     simp[Int.mul_comm]
   ·simp only[Nat.reducePow,Nat.one_mul,Int.natCast_mul,Int.natCast_add,Int.cast_ofNat_Int,Int.mul_comm _ (d:Int)]at ho hn
    cases h128:decide ((cc.toNat:Int)<128)
    ·go_wp2_with fail
     simp only[decide_eq_false_iff_not]at h128
     have hst:=ginv_step HI.out (by omega) (by rw[<-size_data];exact hlt) (by rw[<-HCL.out];omega)
     rw[<-HCL.out]at hst
     have hdd:=HDD.out
     refine⟨⟨_,_,?_,?_,?_,?_,hst⟩,by simp[intOf]⟩
     ·omega
     ·omega
     ·rfl
     ·rw[show cc.toNat-128=d by omega]
      simp[Int.mul_comm]
    ·simp only[decide_eq_true_eq]at h128
     have hht:=ginv_hit HI.out (by omega) (by rw[<-size_data];exact hlt) (by rw[<-HCL.out];omega)
     rw[<-HCL.out]at hht
     have hdd:=HDD.out
     have HHT:=Lib.hid hht
     clear hht
     go_wp2_with fail
     go_region
     go_wp2
     have hex:s.extract 2 s.size=⟨(s.data.toList.drop 2).toArray⟩:=by
      apply bytes_ext
      rw[Lib.extract_data,List.take_of_length_le (by rw[List.length_drop,<-size_data];omega)]
     refine bodyPost_ret (v:=.tuple #[.int .i64 ((n:Int)+(d:Int)*128),.string (s.extract 2 s.size),.bool true]) (by simp[results,Tryz.results123,go_sem]) rfl ?_
     unfold getVal
     rw[HHT.out,hex]
     refine Ret.mk ?_ (by repeat(first|exact Gr.refl _|refine Gr.drew ?_))
     simp only
     rw[show cc.toNat=d by omega]
     simp[Int.mul_comm]
   ·simp only[Nat.reducePow,Nat.one_mul,Int.natCast_mul,Int.natCast_add,Int.cast_ofNat_Int,Int.mul_comm _ (d:Int)]at ho hn
    cases h128:decide ((cc.toNat:Int)<128)
    ·go_wp2_with fail
     simp only[decide_eq_false_iff_not]at h128
     have hst:=ginv_step HI.out (by omega) (by rw[<-size_data];exact hlt) (by rw[<-HCL.out];omega)
     rw[<-HCL.out]at hst
     have hdd:=HDD.out
     refine⟨⟨_,_,?_,?_,?_,?_,hst⟩,by simp[intOf]⟩
     ·omega
     ·omega
     ·rfl
     ·rw[show cc.toNat-128=d by omega]
      simp[Int.mul_comm]
    ·simp only[decide_eq_true_eq]at h128
     have hht:=ginv_hit HI.out (by omega) (by rw[<-size_data];exact hlt) (by rw[<-HCL.out];omega)
     rw[<-HCL.out]at hht
     have hdd:=HDD.out
     have HHT:=Lib.hid hht
     clear hht
     go_wp2_with fail
     go_region
     go_wp2
     have hex:s.extract 3 s.size=⟨(s.data.toList.drop 3).toArray⟩:=by
      apply bytes_ext
      rw[Lib.extract_data,List.take_of_length_le (by rw[List.length_drop,<-size_data];omega)]
     refine bodyPost_ret (v:=.tuple #[.int .i64 ((n:Int)+(d:Int)*16384),.string (s.extract 3 s.size),.bool true]) (by simp[results,Tryz.results123,go_sem]) rfl ?_
     unfold getVal
     rw[HHT.out,hex]
     refine Ret.mk ?_ (by repeat(first|exact Gr.refl _|refine Gr.drew ?_))
     simp only
     rw[show cc.toNat=d by omega]
     simp[Int.mul_comm]
   ·simp only[Nat.reducePow,Nat.one_mul,Int.natCast_mul,Int.natCast_add,Int.cast_ofNat_Int,Int.mul_comm _ (d:Int)]at ho hn
    cases h128:decide ((cc.toNat:Int)<128)
    ·go_wp2_with fail
     simp only[decide_eq_false_iff_not]at h128
     have hst:=ginv_step HI.out (by omega) (by rw[<-size_data];exact hlt) (by rw[<-HCL.out];omega)
     rw[<-HCL.out]at hst
     have hdd:=HDD.out
     refine⟨⟨_,_,?_,?_,?_,?_,hst⟩,by simp[intOf]⟩
     ·omega
     ·omega
     ·rfl
     ·rw[show cc.toNat-128=d by omega]
      simp[Int.mul_comm]
    ·simp only[decide_eq_true_eq]at h128
     have hht:=ginv_hit HI.out (by omega) (by rw[<-size_data];exact hlt) (by rw[<-HCL.out];omega)
     rw[<-HCL.out]at hht
     have hdd:=HDD.out
     have HHT:=Lib.hid hht
     clear hht
     go_wp2_with fail
     go_region
     go_wp2
     have hex:s.extract 4 s.size=⟨(s.data.toList.drop 4).toArray⟩:=by
      apply bytes_ext
      rw[Lib.extract_data,List.take_of_length_le (by rw[List.length_drop,<-size_data];omega)]
     refine bodyPost_ret (v:=.tuple #[.int .i64 ((n:Int)+(d:Int)*2097152),.string (s.extract 4 s.size),.bool true]) (by simp[results,Tryz.results123,go_sem]) rfl ?_
     unfold getVal
     rw[HHT.out,hex]
     refine Ret.mk ?_ (by repeat(first|exact Gr.refl _|refine Gr.drew ?_))
     simp only
     rw[show cc.toNat=d by omega]
     simp[Int.mul_comm]
   ·simp only[Nat.reducePow,Nat.one_mul,Int.natCast_mul,Int.natCast_add,Int.cast_ofNat_Int,Int.mul_comm _ (d:Int)]at ho hn
    cases h128:decide ((cc.toNat:Int)<128)
    ·go_wp2_with fail
     simp only[decide_eq_false_iff_not]at h128
     have hst:=ginv_step HI.out (by omega) (by rw[<-size_data];exact hlt) (by rw[<-HCL.out];omega)
     rw[<-HCL.out]at hst
     have hdd:=HDD.out
     refine⟨⟨_,_,?_,?_,?_,?_,hst⟩,by simp[intOf]⟩
     ·omega
     ·omega
     ·rfl
     ·rw[show cc.toNat-128=d by omega]
      simp[Int.mul_comm]
    ·simp only[decide_eq_true_eq]at h128
     have hht:=ginv_hit HI.out (by omega) (by rw[<-size_data];exact hlt) (by rw[<-HCL.out];omega)
     rw[<-HCL.out]at hht
     have hdd:=HDD.out
     have HHT:=Lib.hid hht
     clear hht
     go_wp2_with fail
     go_region
     go_wp2
     have hex:s.extract 5 s.size=⟨(s.data.toList.drop 5).toArray⟩:=by
      apply bytes_ext
      rw[Lib.extract_data,List.take_of_length_le (by rw[List.length_drop,<-size_data];omega)]
     refine bodyPost_ret (v:=.tuple #[.int .i64 ((n:Int)+(d:Int)*268435456),.string (s.extract 5 s.size),.bool true]) (by simp[results,Tryz.results123,go_sem]) rfl ?_
     unfold getVal
     rw[HHT.out,hex]
     refine Ret.mk ?_ (by repeat(first|exact Gr.refl _|refine Gr.drew ?_))
     simp only
     rw[show cc.toNat=d by omega]
     simp[Int.mul_comm]
  ·have hmin:¬(k:Int)<min (s.size:Int) 5:=by omega
   go_wp2_with fail
   refine bodyPost_ret (v:=.tuple #[.int .i64 0,.string ⟨#[]⟩,.bool false]) (by simp[results,Tryz.results123,go_sem]) rfl ?_
   unfold getVal
   rw[ginv_out HI.out (by rw[<-size_data];omega)]
   exact Ret.mk rfl (Gr.refl _)
def cellsP(xs:List GPlace):List Value:=xs.flatMap fun p=>[.int .i64 p.1,.int .i64 p.2]
def OwnP(a0 w:World)(v:Value)(xs:List GPlace):Prop:=w.ownsRow a0.heap.size 104 2 v xs.length (cellsP xs)
theorem OwnP.row{a0 w:World}{v:Value}{xs:List GPlace}(h:OwnP a0 w v xs):w.ownsRow a0.heap.size 104 2 v xs.length (cellsP xs):=h
theorem info_place:(Tryz.prog.info? 104).map (fun i=>(i.zero,i.size,i.bytes))=some (some (.agg #[.int .i64 0,.int .i64 0]),2,16):=by kernel_rfl
theorem ownP_snoc{a0 w:World}{v:Value}{xs:List GPlace}{x:GPlace}(h:w.ownsRow a0.heap.size 104 2 v (xs.length+1) (cellsP xs++[.int .i64 x.1,.int .i64 x.2])):OwnP a0 w v (xs++[x]):=by
 unfold OwnP
 have e:cellsP (xs++[x])=cellsP xs++[.int .i64 x.1,.int .i64 x.2]:=by unfold cellsP;rw[List.flatMap_append];simp
 rw[e,List.length_append]
 exact h
theorem placeCells_one(a b:Int):∀u∈[Value.int .i64 a,Value.int .i64 b],u.oneCell'=true:=by
 intro u hu
 simp only[List.mem_cons,List.mem_nil_iff,or_false]at hu
 rcases hu with rfl|rfl<;>rfl
theorem cellsP_get:∀(xs:List GPlace) (i:Nat) (h:i<xs.length),(cellsP xs)[i*2]?=some (.int .i64 xs[i].1)/\(cellsP xs)[i*2+1]?=some (.int .i64 xs[i].2)
 |[],i,h=>by simp at h
 |x::xs,0,_=>by simp[cellsP]
 |x::xs,i+1,h=>by
  have:=cellsP_get xs i (by simpa using h)
  have e:(i+1)*2=i*2+2:=by omega
  rw[e]
  unfold cellsP
  rw[List.flatMap_cons]
  simpa[cellsP]using this
theorem OwnP.places{a0 w:World}{v:Value}{xs:List GPlace}(h:OwnP a0 w v xs):∃ao b c,v=.slice ao xs.length c/\(0<xs.length->ao=some ⟨b,0,none⟩)/\PlacesAt w b 0 xs:=by
 have hc:=fun g hg=>World.ownsRow.cells (g:=g) h.row hg
 rcases h.row.2 with⟨rfl,h0⟩|⟨g,cap,cur,rfl,_⟩
 ·have h0':xs.length=0:=h0
  exact⟨none,0,0,by rw[h0'],fun h=>by omega,fun i hi=>by omega⟩
 ·refine⟨_,g,cap,rfl,fun _=>rfl,fun i hi=>?_⟩
  have hg:=cellsP_get xs i hi
  have c1:=hc g rfl _ _ hg.1
  have c2:=hc g rfl _ _ hg.2
  have e:∀j,(⟨g,0,none⟩:Addr).add j=⟨g,0+j,none⟩:=by
   intro j;unfold Addr.add;split<;>simp_all
  rw[e]at c1 c2
  exact⟨c1,by rw[Nat.add_assoc];exact c2⟩
def PReadPost(w:World)(l:List UInt8)(e:Ending)(w':World):Prop:=
 match readP l with
 |none=>e=.returned (.tuple #[.slice none 0 0,.iface 24 (.int .i64 3)])/\Gr w w'
 |some xs=>∃v,e=.returned (.tuple #[v,.nilIface])/\OwnP w w' v xs/\Gr w w'
theorem and_one(n:Nat)(h:n<9223372036854775808):bits BinOp.and IntKind.i64 (n:Int) 1=((n % 2:Nat):Int):=by
 show IntKind.i64.wrap ((BitVec.ofInt 64 (n:Int)&&&BitVec.ofInt 64 ((1:Nat):Int)).toNat:Int)=_
 rw[BitVec.toNat_and,ofInt_64 _ (by omega),ofInt_64 _ (by omega),Nat.and_two_pow_sub_one_eq_mod n 1]
 rw[IntKind.wrap_i64]
 omega
theorem getVal_some{l r:List UInt8}{n:Nat}(h:getF 5 l=some (n,r)):getVal l=.tuple #[.int .i64 (n:Int),.string ⟨r.toArray⟩,.bool true]:=by
 unfold getVal get5;rw[h]
theorem getVal_none{l:List UInt8}(h:getF 5 l=none):getVal l=.tuple #[.int .i64 0,.string ⟨#[]⟩,.bool false]:=by
 unfold getVal get5;rw[h]
theorem readP_none{l:List UInt8}(h:rdL (0,0) l=none):readP l=none:=by unfold readP;rw[h]
theorem append_moved'{P:Program}{a0 w:World}{ops:Array Oper}{rest:List Oper}{o:Oper}{a:Act}{Q:Exit->Act->World->Prop}(hgd:o.guard=none)(s x:Operand)(t:TypeId)
  (ho:o.op=.call {callee:=.builtin .append,args:=#[s,x],argTypes:=#[t,t]}) (e:TypeId) (i:TypeInfo) (z:Value) (size bytes:Nat) (ht:P.underlying t=some (.slice e)) (hi:P.info? e=some i)
  (hz:i.zero=some z) (hsize:i.size=size) (hby:i.bytes=bytes) (hzs:z.cells.size=size) (hsz:0<size) (v:Value) (n:Nat) (xs:List Value) (hs:a.eval s=v) (hown:w.ownsRow a0.heap.size e size v n xs)
  (us:List Value) (hul:us.length=size) (h1:∀u∈us,u.oneCell'=true) (H:Nat) (hH:w.heap.size=H) (hx:a.eval x=.slice (some ⟨H,0,none⟩) 1 1) (hg:Gr a0 w) (h63:n+1<=4611686018427387904) (hbytes:(n+1)*bytes<=140737488355328)
  (h:∀v' w',w'.ownsRow a0.heap.size e size v' (n+1) (xs++us)->Gr a0 w'->Moved v v' w w'->wpList P ops Q rest (a.put o.dst v') w'):wpList P ops Q (o::rest) a (w.alloc (.cells us.toArray e)):=by
 subst hH
 exact append_moved hgd s x t ho e i z size bytes ht hi hz hsize hby hzs hsz v n xs hs hown us hul h1 hx hg h63 hbytes h
def PInv(w:World)(L:Nat)(s:ByteArray)(x u:Value)(w':World):Prop:=
 ∃(t:ByteArray) (us:List GPlace) (a:GPlace),x=.string t/\t.size+us.length<=s.size/\Gr w w'/\OwnP w w' u us/\u.ownBlock≠some L/\L<w'.heap.size/\
  (w'.cell? ⟨L,0,none⟩=some (.int .i64 a.1)/\w'.cell? ⟨L,1,none⟩=some (.int .i64 a.2)/\∀o,w'.frozen? ⟨L,o,none⟩=false)/\
  (0<=a.1/\a.1<=34359738368*us.length/\0<=a.2/\a.2<=34359738368*(us.length+1))/\rdL (0,0) s.data.toList=(rdL a t.data.toList).map (us++·)
theorem rd_even{l t r:List UInt8}{us:List GPlace}{a1 a2:Int}{n:Nat}(h:rdL (0,0) l=(rdL (a1,a2) t).map (us++·))(hg:getF 5 t=some (n,r))(he:n % 2=0):
  rdL (0,0) l=(rdL (a1,a2+(n:Int)/2) r).map ((us++[(a1,a2+(n:Int)/2)])++·):=by
 rw[h,rdL_even hg he,Option.map_map,show((n/2:Nat):Int)=(n:Int)/2 by omega]
 refine Option.map_congr fun x _=>?_
 simp
theorem rd_odd{l t r q:List UInt8}{us:List GPlace}{a1 a2:Int}{n m:Nat}(h:rdL (0,0) l=(rdL (a1,a2) t).map (us++·))(hg:getF 5 t=some (n,r))(he:¬n % 2=0)(hg2:getF 5 r=some (m,q)):
  rdL (0,0) l=(rdL (a1+(n:Int)/2,(m:Int)) q).map ((us++[(a1+(n:Int)/2,(m:Int))])++·):=by
 rw[h,rdL_odd hg he hg2,Option.map_map,show((n/2:Nat):Int)=(n:Int)/2 by omega]
 refine Option.map_congr fun x _=>?_
 simp
theorem rd_bad{l t:List UInt8}{us:List GPlace}{a:GPlace}(h:rdL (0,0) l=(rdL a t).map (us++·))(hb:rdL a t=none):readP l=none:=by
 apply readP_none
 rw[h,hb];rfl
theorem read_p(s:ByteArray)(hs:s.size<=1000000)(w:World):Calls Tryz.prog 70 #[.string s] w (PReadPost w s.data.toList):=by
 obtain⟨i0,hi,hz0,hz1,hz2⟩:=info_parts info_place
 go_enter Tryz.func70,Tryz.ntmps70
 go_wp2_with fail
 have hgL:=(Gr.refl w).alloc (.cells #[.int .i64 0,.int .i64 0] 104)
 have q0:(w.alloc (.cells #[.int .i64 0,.int .i64 0] 104)).cell? ⟨w.heap.size,0,none⟩=some (.int .i64 0):=by rw[World.cell?_alloc_new];rfl
 have q1:(w.alloc (.cells #[.int .i64 0,.int .i64 0] 104)).cell? ⟨w.heap.size,1,none⟩=some (.int .i64 0):=by rw[World.cell?_alloc_new];rfl
 have z0:∀o,(w.alloc (.cells #[.int .i64 0,.int .i64 0] 104)).frozen? ⟨w.heap.size,o,none⟩=false:=fun o=>by simp
 have hL1:w.heap.size<(w.alloc (.cells #[.int .i64 0,.int .i64 0] 104)).heap.size:=by simp
 generalize(w.alloc (.cells #[.int .i64 0,.int .i64 0] 104))=W0 at*
 generalize hLL:w.heap.size=L at hL1 q0 q1 z0⊢
 have hL0:w.heap.size<=L:=Nat.le_of_eq hLL
 clear hLL
 have HQ:=Lib.hid (And.intro q0 (And.intro q1 z0))
 clear q0 q1 z0
 go_loopw [6,4] (fun x u w'=>PInv w L s x u w') (fun x _ _=>lenOf x)
 case atStart=>exact⟨s,[],(0,0),rfl,by simp,hgL,⟨rfl,.inl ⟨rfl,rfl⟩⟩,by simp[Value.ownBlock],hL1,HQ.out,by simp,by simp⟩
 case round=>
  obtain⟨t,us,⟨a1,a2⟩,rfl,hsz,hg,ho,hul,hlL,⟨q0,q1,z⟩,hbd,hrd⟩:=hrel
  have HO:=Lib.hid ho
  have HR:=Lib.hid hrd
  clear ho hrd
  simp only at q0 q1 hbd
  by_cases hte:t.data.toList=[]
  ·have hb:(!t.toList.isEmpty)=false:=by rw[ByteArray.toList_eq,hte];rfl
   have HT:=Lib.hid hte
   clear hte
   rw[HT.out]at HR
   have hus:rdL (0,0) s.data.toList=some us:=by rw[HR.out,rdL_nil];simp
   have HUS:=Lib.hid hus
   clear hus
   obtain⟨ao,bb,cc,rfl,hao,hpl⟩:=OwnP.places HO.out
   have HA:=Lib.hid hao
   have HP:=Lib.hid hpl
   clear hao hpl
   go_wp2_with fail
   refine(write_p us bb 0 cc ao HA.out (by omega) _ HP.out).mono ?_
   rintro e w1 ⟨rfl,hg1⟩
   cases hp:placesB us
   ·have hrp:readP s.data.toList=none:=by unfold readP;rw[HUS.out];simp[hp]
    have HRP:=Lib.hid hrp
    unfold wErr wS
    simp only[hp]
    clear hp hrp
    go_wp2_with fail
    refine bodyPost_ret (v:=.tuple #[.slice none 0 0,.iface 24 (.int .i64 3)]) (by simp[results,Tryz.results70,go_sem]) rfl ?_
    unfold PReadPost
    rw[HRP.out]
    exact⟨rfl,hg.trans hg1⟩
   ·have hwl:(wS us)=writeP us:=by unfold wS;rw[hp];rfl
    have hwe:wErr us=.nilIface:=by unfold wErr;rw[hp];rfl
    rw[hwl,hwe]
    cases hw:writeP us==s.data.toList
    ·have hrp:readP s.data.toList=none:=by unfold readP;rw[HUS.out];simp[hp,hw]
     have HRP:=Lib.hid hrp
     clear hp hrp hwl hwe
     have hne:(writeP us==s.toList)=false:=by rw[ByteArray.toList_eq];exact hw
     clear hw
     go_wp2_with fail
     refine bodyPost_ret (v:=.tuple #[.slice none 0 0,.iface 24 (.int .i64 3)]) (by simp[results,Tryz.results70,go_sem]) rfl ?_
     unfold PReadPost
     rw[HRP.out]
     exact⟨rfl,hg.trans hg1⟩
    ·have hrp:readP s.data.toList=some us:=by unfold readP;rw[HUS.out];simp[hp,hw]
     have HRP:=Lib.hid hrp
     have hws:(⟨(writeP us).toArray⟩:ByteArray)=s:=by apply bytes_ext;simpa using hw
     rw[hws]
     clear hp hrp hwl hwe hws
     go_wp2_with fail
     refine bodyPost_ret (v:=.tuple #[.slice ao us.length cc,.nilIface]) (by simp[results,Tryz.results70,go_sem]) rfl ?_
     unfold PReadPost
     rw[HRP.out]
     exact⟨_,rfl,ownsRow_gr (OwnP.row HO.out) hg1,hg.trans hg1⟩
  ·have hb:(!t.toList.isEmpty)=true:=by rw[ByteArray.toList_eq];simpa using hte
   have HT:=Lib.hid hte
   clear hte
   cases hgt:getF 5 t.data.toList with
   |none=>
    have HG:=Lib.hid hgt
    clear hgt
    go_wp2_with fail
    refine(get_p t (by omega) _).mono ?_
    rintro e w1 ⟨rfl,hg1⟩
    rw[getVal_none HG.out]
    go_wp2_with fail
    refine bodyPost_ret (v:=.tuple #[.slice none 0 0,.iface 24 (.int .i64 3)]) (by simp[results,Tryz.results70,go_sem]) rfl ?_
    unfold PReadPost
    rw[rd_bad HR.out (rdL_none HT.out HG.out)]
    exact⟨rfl,hg.trans hg1⟩
   |some nr=>
    obtain⟨n,r⟩:=nr
    have HG:=Lib.hid hgt
    have hnb:=getF_le 5 _ _ _ hgt
    have hrl:=getF_lt 5 _ _ _ hgt
    rw[show 128^5=34359738368 by decide]at hnb
    rw[<-size_data]at hrl
    have hand:=and_one n (by omega)
    obtain⟨R,rfl⟩:∃R:ByteArray,R.data.toList=r:=⟨⟨r.toArray⟩,rfl⟩
    rw[<-size_data]at hrl
    clear hgt
    by_cases hodd:n % 2=0
    ·have hodd':((n % 2:Nat):Int)=0:=by omega
     rw[hodd']at hand
     go_wp2_with fail
     refine(get_p t (by omega) _).mono ?_
     rintro e w1 ⟨rfl,hg1⟩
     rw[getVal_some HG.out]
     have q0':=hg1.keeps q0
     have q1':=hg1.keeps q1
     have z':=fun o=>(hg1.frozen o hlL).trans (z o)
     have zz0:=z' 0
     have zz1:=z' 1
     have ho1:=ownsRow_setCell_at (ownsRow_gr (OwnP.row HO.out) hg1) (a:=⟨L,1,none⟩) (u:=.int .i64 (a2+(n:Int)/2)) hul
     have hgw:=(hg.trans hg1).setCell (p:=⟨L,1,none⟩) hL0 (.int .i64 (a2+(n:Int)/2))
     have tw0:(w1.setCell ⟨L,1,none⟩ (.int .i64 (a2+(n:Int)/2))).cell? ⟨L,0,none⟩=some (.int .i64 a1):=(World.cell?_setCell_other _ _ _ _ (by simp)).trans q0'
     have tw1:(w1.setCell ⟨L,1,none⟩ (.int .i64 (a2+(n:Int)/2))).cell? ⟨L,1,none⟩=some (.int .i64 (a2+(n:Int)/2)):=World.cell?_setCell_same _ _ _ q1'
     have hs1:=hg1.size
     go_wp2_with(at_builtin;refine append_moved' (a0:=w) rfl _ _ 57 rfl 104 i0 (.agg #[.int .i64 0,.int .i64 0]) 2 16 Tryz.underlying57 hi hz0 hz1 hz2 rfl (by decide) _ _ _ rfl ho1 [_,_] rfl (placeCells_one _ _) w1.heap.size (by simp) rfl hgw (by omega) (by omega) ?_;intro v4 w4 hown4 hg4 hmv4)
     have hmL:=hmv4.2 L (by simp;omega) hul
     refine⟨⟨R,us++[(a1,a2+(n:Int)/2)],(a1,a2+(n:Int)/2),rfl,by rw[List.length_append];simp only[List.length_cons,List.length_nil];omega,hg4,ownP_snoc (x:=(a1,a2+(n:Int)/2)) hown4,hmL.1,by have:=hmv4.1;simp at this;omega,⟨hmv4.keeps hul tw0,hmv4.keeps hul tw1,fun o=>(hmL.2 o).2.trans (by simpa using z' o)⟩,?_,rd_even HR.out HG.out hodd⟩,?_⟩
     ·rw[List.length_append]
      simp only[List.length_cons,List.length_nil]
      omega
     ·show R.size<t.size
      omega
    ·have hodd':((n % 2:Nat):Int)=1:=by omega
     rw[hodd']at hand
     go_wp2_with fail
     refine(get_p t (by omega) _).mono ?_
     rintro e w1 ⟨rfl,hg1⟩
     rw[getVal_some HG.out]
     have q0':=hg1.keeps q0
     have q1':=hg1.keeps q1
     have z':=fun o=>(hg1.frozen o hlL).trans (z o)
     have zz0:=z' 0
     have zz1:=z' 1
     have hsv:=hg1.size
     have hgv:=((hg.trans hg1).setCell (p:=⟨L,0,none⟩) hL0 (.int .i64 (a1+(n:Int)/2))).setCell (p:=⟨L,1,none⟩) hL0 (.int .i64 0)
     have tw:=two_set (u:=.int .i64 (a1+(n:Int)/2)) (v:=.int .i64 0) q0' q1'
     have hov:=ownsRow_setCell_at (ownsRow_setCell_at (ownsRow_gr (OwnP.row HO.out) hg1) (a:=⟨L,0,none⟩) (u:=.int .i64 (a1+(n:Int)/2)) hul) (a:=⟨L,1,none⟩) (u:=.int .i64 0) hul
     have hzv:∀o,((w1.setCell ⟨L,0,none⟩ (.int .i64 (a1+(n:Int)/2))).setCell ⟨L,1,none⟩ (.int .i64 0)).frozen? ⟨L,o,none⟩=false:=fun o=>by simpa using z' o
     have hsz:((w1.setCell ⟨L,0,none⟩ (.int .i64 (a1+(n:Int)/2))).setCell ⟨L,1,none⟩ (.int .i64 0)).heap.size=w1.heap.size:=by simp
     go_wp2_with fail
     generalize((w1.setCell ⟨L,0,none⟩ (.int .i64 (a1+(n:Int)/2))).setCell ⟨L,1,none⟩ (.int .i64 0))=V at*
     refine(get_p R (by omega) _).mono ?_
     rintro e w2 ⟨rfl,hg2⟩
     cases hgt2:getF 5 R.data.toList with
     |none=>
      have HG2:=Lib.hid hgt2
      clear hgt2
      rw[getVal_none HG2.out]
      have y0:=hg2.keeps tw.1
      have y1:=hg2.keeps tw.2
      have yz:=(hg2.frozen 1 (by omega)).trans (hzv 1)
      go_wp2_with fail
      refine bodyPost_ret (v:=.tuple #[.slice none 0 0,.iface 24 (.int .i64 3)]) (by simp[results,Tryz.results70,go_sem]) rfl ?_
      unfold PReadPost
      rw[rd_bad HR.out (rdL_odd_none HG.out hodd HG2.out)]
      exact⟨rfl,(hgv.trans hg2).setCell (p:=⟨L,1,none⟩) hL0 _⟩
     |some nr2=>
      obtain⟨m,r2⟩:=nr2
      have HG2:=Lib.hid hgt2
      have hnb2:=getF_le 5 _ _ _ hgt2
      have hrl2:=getF_lt 5 _ _ _ hgt2
      rw[show 128^5=34359738368 by decide]at hnb2
      rw[<-size_data]at hrl2
      obtain⟨R2,rfl⟩:∃R:ByteArray,R.data.toList=r2:=⟨⟨r2.toArray⟩,rfl⟩
      rw[<-size_data]at hrl2
      clear hgt2
      rw[getVal_some HG2.out]
      have y0:=hg2.keeps tw.1
      have y1:=hg2.keeps tw.2
      have yz:=(hg2.frozen 1 (by omega)).trans (hzv 1)
      have ho1:=ownsRow_setCell_at (ownsRow_gr hov hg2) (a:=⟨L,1,none⟩) (u:=.int .i64 (m:Int)) hul
      have hgw:=(hgv.trans hg2).setCell (p:=⟨L,1,none⟩) hL0 (.int .i64 (m:Int))
      have tw0:(w2.setCell ⟨L,1,none⟩ (.int .i64 (m:Int))).cell? ⟨L,0,none⟩=some (.int .i64 (a1+(n:Int)/2)):=(World.cell?_setCell_other _ _ _ _ (by simp)).trans y0
      have tw1:(w2.setCell ⟨L,1,none⟩ (.int .i64 (m:Int))).cell? ⟨L,1,none⟩=some (.int .i64 (m:Int)):=World.cell?_setCell_same _ _ _ y1
      have hs2:=hg2.size
      have hzz:=fun o=>(hg2.frozen o (by omega)).trans (hzv o)
      go_wp2_with(at_builtin;refine append_moved' (a0:=w) rfl _ _ 57 rfl 104 i0 (.agg #[.int .i64 0,.int .i64 0]) 2 16 Tryz.underlying57 hi hz0 hz1 hz2 rfl (by decide) _ _ _ rfl ho1 [_,_] rfl (placeCells_one _ _) w2.heap.size (by simp) rfl hgw (by omega) (by omega) ?_;intro v4 w4 hown4 hg4 hmv4)
      have hmL:=hmv4.2 L (by simp;omega) hul
      refine⟨⟨R2,us++[(a1+(n:Int)/2,(m:Int))],(a1+(n:Int)/2,(m:Int)),rfl,by rw[List.length_append];simp only[List.length_cons,List.length_nil];omega,hg4,ownP_snoc (x:=(a1+(n:Int)/2,(m:Int))) hown4,hmL.1,by have:=hmv4.1;simp at this;omega,⟨hmv4.keeps hul tw0,hmv4.keeps hul tw1,fun o=>(hmL.2 o).2.trans (by simpa using hzz o)⟩,?_,rd_odd HR.out HG.out hodd HG2.out⟩,?_⟩
      ·rw[List.length_append]
       simp only[List.length_cons,List.length_nil]
       omega
      ·show R2.size<t.size
       omega
end
section
open Go Go.RowKit Go.Shelf Go.Lib Go.Sort
def IsP(w:World)(v:Value)(xs:List GPlace):Prop:=(v=.slice none 0 0/\xs=[])\/∃b off c,v=.slice (some ⟨b,off,none⟩) xs.length c/\b<w.heap.size/\PlacesAt w b off xs
theorem IsP.gr{w w':World}{v:Value}{xs:List GPlace}(h:IsP w v xs)(g:Gr w w'):IsP w' v xs:=by
 rcases h with h|⟨b,off,c,h1,h2,h3⟩
 ·exact .inl h
 ·exact .inr ⟨b,off,c,h1,Nat.lt_of_lt_of_le h2 g.size,h3.gr g⟩
theorem cellsP_append(xs ys:List GPlace):cellsP (xs++ys)=cellsP xs++cellsP ys:=by
 unfold cellsP
 rw[List.flatMap_append]
theorem cellsP_len:∀xs:List GPlace,(cellsP xs).length=xs.length*2
 |[]=>rfl
 |x::xs=>by
  have:=cellsP_len xs
  unfold cellsP at*
  rw[List.flatMap_cons,List.length_append,this]
  simp only[List.length_cons,List.length_nil]
  omega
theorem cellsP_one:∀(xs:List GPlace),∀u∈cellsP xs,u.oneCell'=true:=by
 intro xs u hu
 unfold cellsP at hu
 rw[List.mem_flatMap]at hu
 obtain⟨p,_,h⟩:=hu
 exact placeCells_one _ _ u h
theorem PlacesAt.cells{w:World}{b off:Nat}{xs:List GPlace}(h:PlacesAt w b off xs):∀j u,(cellsP xs)[j]?=some u->w.cell? ((⟨b,off,none⟩:Addr).add j)=some u:=by
 intro j u hj
 have hlt:j<xs.length*2:=by
  rw[<-cellsP_len]
  exact(List.getElem?_eq_some_iff.1 hj).1
 have ha:(⟨b,off,none⟩:Addr).add j=⟨b,off+j,none⟩:=by
  unfold Addr.add
  split<;>simp_all
 have hg:=cellsP_get xs (j/2) (by omega)
 have hp:=h (j/2) (by omega)
 rw[ha]
 rcases Nat.mod_two_eq_zero_or_one j with e|e
 ·rw[show j/2*2=j by omega]at hg hp
  rw[hg.1]at hj
  rw[hp.1,Option.some.inj hj]
 ·rw[show j/2*2+1=j by omega]at hg
  rw[show off+j/2*2+1=off+j by omega]at hp
  rw[hg.2]at hj
  rw[hp.2,Option.some.inj hj]
theorem append_places{a0 w:World}{ops:Array Oper}{rest:List Oper}{o:Oper}{a:Act}{Q:Exit->Act->World->Prop}(hgd:o.guard=none)(s x:Operand)
  (ho:o.op=.call {callee:=.builtin .append,args:=#[s,x],argTypes:=#[57,57]}) (v:Value) (us:List GPlace) (hs:a.eval s=v) (hown:OwnP a0 w v us)
  (vs:Value) (xs:List GPlace) (hx:a.eval x=vs) (hi:IsP w vs xs) (hl:us.length+xs.length<=1000000) (hg:Gr a0 w)
  (h:∀v' w',OwnP a0 w' v' (us++xs)->Gr a0 w'->wpList Tryz.prog ops Q rest (a.put o.dst v') w'):wpList Tryz.prog ops Q (o::rest) a w:=by
 obtain⟨i0,hinf,hz⟩:∃i0,Tryz.prog.info? 104=some i0/\(i0.zero,i0.size,i0.bytes)=(some (.agg #[.int .i64 0,.int .i64 0]),2,16):=by
  have h:=info_place
  cases h0:Tryz.prog.info? 104 with
  |none=>rw[h0]at h;cases h
  |some i0=>rw[h0]at h;exact⟨i0,rfl,Option.some.inj h⟩
 simp only[Prod.mk.injEq]at hz
 obtain⟨hz0,hz1,hz2⟩:=hz
 rcases hi with⟨rfl,rfl⟩|⟨b,off,c,rfl,hb,hp⟩
 ·rw[List.append_nil]at h
  exact Lib.wpList_append_run w hgd s x 57 57 ho v (.slice none 0 0) hs hx v w (run_append_owned_none w a0.heap.size 57 o.type 104 i0 2 Tryz.underlying57 hinf v us.length (cellsP us) hown) (h v w hown hg)
 ·refine wpList_append_own w hgd s x 57 ho a0.heap.size 104 i0 (.agg #[.int .i64 0,.int .i64 0]) 2 16 Tryz.underlying57 hinf hz0 hz1 hz2 rfl (by decide) v us.length (cellsP us) hs hown ⟨b,off,none⟩ xs.length c (cellsP xs) hx (cellsP_len xs) hp.cells (cellsP_one xs) (by unfold maxLen;omega) (by omega) hg.size
   (fun v' w' h1 h2 _=>h v' w' ?_ (gr_grown hg h2 (ownBlock_ge hown)))
  unfold OwnP
  rw[List.length_append,cellsP_append]
  exact h1
theorem OwnP.row'{a0 w:World}{v:Value}{xs:List GPlace}(h:OwnP a0 w v xs):(v=.slice none 0 0/\xs=[])\/∃B cap,v=.slice (some ⟨B,0,none⟩) xs.length cap/\xs.length<=cap/\a0.heap.size<=B/\B<w.heap.size/\RowP w B xs:=by
 have hc:=fun g hg=>World.ownsRow.cells (g:=g) h.row hg
 rcases h.row.2 with⟨rfl,h0⟩|⟨g,cap,cur,rfl,hb,hh,hle,_⟩
 ·exact .inl ⟨rfl,List.eq_nil_of_length_eq_zero h0⟩
 ·refine .inr ⟨g,cap,rfl,hle,hb,(Array.getElem?_eq_some_iff.1 hh).1,fun i hi=>?_⟩
  have hg:=cellsP_get xs i hi
  have c1:=hc g rfl _ _ hg.1
  have c2:=hc g rfl _ _ hg.2
  have e:∀j,(⟨g,0,none⟩:Addr).add j=⟨g,j,none⟩:=by
   intro j;unfold Addr.add;split<;>simp_all
  rw[e]at c1 c2
  exact⟨⟨c1,Lib.frozen_of_heap hh _⟩,⟨c2,Lib.frozen_of_heap hh _⟩⟩
theorem grow_p(n:Nat)(hn:n<=1000000)(w:World):
  Calls Tryz.prog 148 #[.slice none 0 0,.int .i64 n] w fun e w'=>∃v,e=.returned v/\OwnP w w' v []/\Gr w w':=by
 obtain⟨i0,hi,hz⟩:∃i0,Tryz.prog.info? 104=some i0/\(i0.zero,i0.size,i0.bytes)=(some (.agg #[.int .i64 0,.int .i64 0]),2,16):=by
  have h:=info_place
  cases h0:Tryz.prog.info? 104 with
  |none=>rw[h0]at h;cases h
  |some i0=>rw[h0]at h;exact⟨i0,rfl,Option.some.inj h⟩
 simp only[Prod.mk.injEq]at hz
 obtain⟨hz0,hz1,hz2⟩:=hz
 have hz00:=Lib.hid hz0
 have g0:¬(n:Int)<0:=by omega
 clear hz0
 by_cases h0:n=0
 ·subst h0
  go_enter Tryz.func148,Tryz.ntmps148
  go_wp2_with fail
  go_ret
  exact⟨_,rfl,World.ownsRow_nil _ _ _ _,Gr.refl _⟩
 ·have g1:0<(n:Int):=by omega
  go_enter Tryz.func148,Tryz.ntmps148
  have hr:∀W:World,(Builtin.append_ #[57,3] 57 #[.slice none 0 0,.int .i64 n]).run Tryz.prog W=_:=fun W=>Lib.run_append_nil_zeros (P:=Tryz.prog) (ty:=57) W 57 3 104 i0 (.agg #[.int .i64 0,.int .i64 0]) .i64 .i64 Tryz.underlying57 Tryz.underlying3 hi hz00.out n (by omega) (by omega) (by omega) (by rw[hz2];omega)
  go_wp2_with(at_builtin;refine Lib.wpList_append_run _ rfl _ _ _ _ rfl _ _ rfl rfl _ _ (hr _) ?_)
  go_ret
  refine⟨_,rfl,?_,((Gr.refl w).alloc _).drew⟩
  have hge:=grownCap_ge w n 0 104
  have hm:=grownCap_le_maxLen w n 0 104 (by unfold maxLen;omega)
  exact World.ownsRow_made (base:=w.heap.size) (size:=2) (e:=104) w _ _ (Nat.le_refl _) hm (by
   simp only[Array.size_append,size_zeroCells]
   show n*2+(_-n)*2=_
   omega)
theorem concat_p(xs ys:List GPlace)(va vb:Value)(B c:Nat)(w:World)(hx:IsP w va xs)(hy:IsP w vb ys)(hl:xs.length+ys.length<=1000000)(h0:w.cell? ⟨B,0,none⟩=some va)(h1:w.cell? ⟨B,1,none⟩=some vb):
  Calls Tryz.prog 96 #[.slice (some ⟨B,0,none⟩) 2 c] w fun e w'=>∃v,e=.returned v/\OwnP w w' v (xs++ys)/\Gr w w':=by
 have HX:=Lib.hid hx
 have HY:=Lib.hid hy
 obtain⟨ao,ca,rfl⟩:∃ao ca,va=.slice ao xs.length ca:=by
  rcases hx with⟨rfl,rfl⟩|⟨b,off,c,rfl,_⟩
  ·exact⟨none,0,rfl⟩
  ·exact⟨_,c,rfl⟩
 obtain⟨bo,cb,rfl⟩:∃bo cb,vb=.slice bo ys.length cb:=by
  rcases hy with⟨rfl,rfl⟩|⟨b,off,c,rfl,_⟩
  ·exact⟨none,0,rfl⟩
  ·exact⟨_,c,rfl⟩
 clear hx hy
 go_enter Tryz.func96,Tryz.ntmps96
 go_wp2_with fail
 go_loop [3,11] (fun kv iv=>(iv=.int .i64 0/\kv=.int .i64 0)\/(iv=.int .i64 1/\kv=.int .i64 xs.length)\/(iv=.int .i64 2/\kv=.int .i64 ((xs.length:Int)+ys.length))) (fun _ iv=>2-(intOf iv).toNat)
 case atStart=>exact .inl ⟨rfl,rfl⟩
 case round=>
  rcases hrel with⟨rfl,rfl⟩|⟨rfl,rfl⟩|⟨rfl,rfl⟩
  ·have g1:¬(xs.length:Int)<0:=by omega
   go_wp2_with fail
   exact⟨.inr (.inl ⟨rfl,by go_num⟩),by simp[intOf]⟩
  ·have g1:¬(xs.length:Int)+ys.length<0:=by omega
   go_wp2_with fail
   exact⟨.inr (.inr ⟨rfl,by go_num⟩),by simp[intOf]⟩
  ·have hgr:=grow_p (xs.length+ys.length) hl w
   rw[Int.natCast_add]at hgr
   go_wp2_with fail
   refine hgr.mono ?_
   rintro e w1 ⟨v,rfl,hown,hg⟩
   have HO:=Lib.hid hown
   have c0:=hg.keeps h0
   have c1:=hg.keeps h1
   have hsz:=hg.size
   have HG:=Lib.hid hg
   clear hown hg
   go_wp2_with fail
   go_loopw [6,27] (fun kv iv w'=>∃(i:Nat) (us:List GPlace),iv=.int .i64 i/\OwnP w w' kv us/\Gr w w'/\((i=0/\us=[])\/(i=1/\us=xs)\/(i=2/\us=xs++ys))) (fun _ iv _=>2-(intOf iv).toNat)
   case atStart=>exact⟨0,[],rfl,HO.out,HG.out,.inl ⟨rfl,rfl⟩⟩
   case round=>
    obtain⟨i,us,rfl,ho,hg,hcs⟩:=hrel
    have d0:=hg.keeps h0
    have d1:=hg.keeps h1
    have HO2:=Lib.hid ho
    have HG2:=Lib.hid hg
    have HX2:=Lib.hid (HX.out.gr hg)
    have HY2:=Lib.hid (HY.out.gr hg)
    clear ho hg c0 c1 h0 h1
    rcases hcs with⟨rfl,rfl⟩|⟨rfl,rfl⟩|⟨rfl,rfl⟩
    ·go_wp2_with(at_builtin;refine append_places (a0:=w) rfl _ _ rfl _ [] rfl HO2.out _ xs rfl HX2.out (by simp;omega) HG2.out ?_;intro v3 w3 ho3 hg3)
     exact⟨⟨1,xs,by go_num,ho3,hg3,.inr (.inl ⟨rfl,rfl⟩)⟩,by simp[intOf]⟩
    ·go_wp2_with(at_builtin;refine append_places (a0:=w) rfl _ _ rfl _ us rfl HO2.out _ ys rfl HY2.out hl HG2.out ?_;intro v3 w3 ho3 hg3)
     exact⟨⟨2,us++ys,by go_num,ho3,hg3,.inr (.inr ⟨rfl,rfl⟩)⟩,by simp[intOf]⟩
    ·go_wp2_with fail
     go_ret
     exact⟨_,rfl,HO2.out,HG2.out⟩
def OwnR(a0 w:World)(v:Value)(xs:List GPlace):Prop:=(v=.slice none 0 0/\xs=[])\/∃B cap,v=.slice (some ⟨B,0,none⟩) xs.length cap/\xs.length<=cap/\a0.heap.size<=B/\B<w.heap.size/\RowP w B xs
theorem OwnP.own{a0 w:World}{v:Value}{xs:List GPlace}(h:OwnP a0 w v xs):OwnR a0 w v xs:=h.row'
theorem OwnR.isP{a0 w:World}{v:Value}{xs:List GPlace}(h:OwnR a0 w v xs):IsP w v xs:=by
 rcases h with h|⟨B,cap,h1,h2,h3,h4,h5⟩
 ·exact .inl h
 ·refine .inr ⟨B,0,cap,h1,h4,fun i hi=>?_⟩
  have:=h5 i hi
  rw[Nat.zero_add]
  exact⟨this.1.1,this.2.1⟩
theorem OwnR.back{a0 a1 w:World}{v:Value}{xs:List GPlace}(h:OwnR a1 w v xs)(g:Gr a0 a1):OwnR a0 w v xs:=by
 rcases h with h|⟨B,cap,h1,h2,h3,h4,h5⟩
 ·exact .inl h
 ·exact .inr ⟨B,cap,h1,h2,Nat.le_trans g.size h3,h4,h5⟩
theorem compact_nil(w:World):
  Calls Tryz.prog 98 #[.slice none 0 0] w (Ret w (.slice none 0 0)):=by
 go_enter Tryz.func98,Tryz.ntmps98
 go_wp2_with fail
 go_ret
 exact Ret.mk rfl (Gr.refl _)
theorem sort_nil(w:World)(fv:Value):
  Calls Tryz.prog 97 #[.slice none 0 0,fv] w (Ret w (.tuple #[])):=by
 exact Ret.of_same (AnyF.slices_SortFunc_none Tryz.sortPlaces none 0 fv w)
theorem IsP.form{w:World}{v:Value}{xs:List GPlace}(h:IsP w v xs):∃ao c,v=.slice ao xs.length c:=by
 rcases h with⟨rfl,rfl⟩|⟨b,off,c,rfl,_⟩
 ·exact⟨none,0,rfl⟩
 ·exact⟨_,c,rfl⟩
theorem OwnR.form{a0 w:World}{v:Value}{xs:List GPlace}(h:OwnR a0 w v xs):∃ao c,v=.slice ao xs.length c:=h.isP.form
theorem sort_own(a0 w:World)(v:Value)(xs:List GPlace)(h:OwnR a0 w v xs)(hg:Gr a0 w)(hl:xs.length<=1000000):
  Calls Tryz.prog 97 #[v,.func (.func 71) #[] #[]] w fun e w'=>
   e=.returned (.tuple #[])/\∃ys:List GPlace,ys.Perm xs/\Weakly beforeB ys/\OwnR a0 w' v ys/\Gr a0 w':=by
 rcases h with⟨rfl,rfl⟩|⟨B,cap,rfl,h2,h3,h4,h5⟩
 ·refine(sort_nil w _).mono ?_
  rintro e w' ⟨rfl,hg'⟩
  exact⟨rfl,[],List.Perm.refl _,List.Pairwise.nil,.inl ⟨rfl,rfl⟩,hg.trans hg'⟩
 ·refine(sort_places xs B cap w h5 h4 hl).mono ?_
  rintro e w' ⟨rfl,ys,hp,hw,hr,hx⟩
  refine⟨rfl,ys,hp,hw,.inr ⟨B,cap,by rw[hp.length_eq],by rw[hp.length_eq];exact h2,h3,Nat.lt_of_lt_of_le h4 hx.2.2.2.1,hr⟩,hx.gr hg (fun k hk=>by rw[hk];exact h3)⟩
theorem compact_own(a0 w:World)(v:Value)(xs:List GPlace)(h:OwnR a0 w v xs)(hg:Gr a0 w)(hl:xs.length<=1000000):
  Calls Tryz.prog 98 #[v] w fun e w'=>∃v',e=.returned v'/\OwnR a0 w' v' (squeeze xs)/\Gr a0 w':=by
 rcases h with⟨rfl,rfl⟩|⟨B,cap,rfl,h2,h3,h4,h5⟩
 ·refine(compact_nil w).mono ?_
  rintro e w' ⟨rfl,hg'⟩
  exact⟨_,rfl,.inl ⟨rfl,rfl⟩,hg.trans hg'⟩
 ·refine(compact_p xs B cap hl h2 w h5 h4).mono ?_
  rintro e w' ⟨rfl,hr,hx⟩
  exact⟨_,rfl,.inr ⟨B,cap,rfl,Nat.le_trans (squeeze_len xs) h2,h3,Nat.lt_of_lt_of_le h4 hx.2.2.2.1,hr⟩,hx.gr hg (fun k hk=>by rw[hk];exact h3)⟩
theorem merge_p(xs ys:List GPlace)(va vb:Value)(w:World)(hx:IsP w va xs)(hy:IsP w vb ys)(hl:xs.length+ys.length<=1000000):
  Calls Tryz.prog 48 #[va,vb] w fun e w'=>∃v,e=.returned v/\OwnR w w' v (setOf beforeB (xs++ys))/\Gr w w':=by
 have HX:=Lib.hid hx
 have HY:=Lib.hid hy
 obtain⟨ao,ca,rfl⟩:=hx.form
 obtain⟨bo,cb,rfl⟩:=hy.form
 clear hx hy
 go_enter Tryz.func48,Tryz.ntmps48
 go_wp2_with fail
 refine(concat_p xs ys (.slice ao xs.length ca) (.slice bo ys.length cb) w.heap.size 2 _ (HX.out.gr ((Gr.refl w).alloc _)) (HY.out.gr ((Gr.refl w).alloc _)) hl (by rw[World.cell?_alloc_new];rfl) (by rw[World.cell?_alloc_new];rfl)).mono ?_
 rintro e w1 ⟨v,rfl,ho,hg⟩
 have hg1:Gr w w1:=((Gr.refl w).alloc _).trans hg
 have HO:=Lib.hid (ho.own.back ((Gr.refl w).alloc _))
 clear ho hg
 have hln:(xs++ys).length<=1000000:=by rw[List.length_append];exact hl
 obtain⟨L,HL⟩:∃L,Hid (L=xs++ys):=⟨_,Lib.hid rfl⟩
 rw[<-HL.out]at HO hln
 obtain⟨vo,vc,rfl⟩:=HO.out.form
 go_wp2_with fail
 refine(sort_own w w1 _ _ HO.out hg1 hln).mono ?_
 rintro e w2 ⟨rfl,zs,hp,hw,ho2,hg2⟩
 have HO2:=Lib.hid ho2
 have HP:=Lib.hid hp
 have HW:=Lib.hid hw
 clear ho2 hp hw HO
 go_wp2_with fail
 refine(compact_own w w2 _ _ HO2.out hg2 (by rw[HP.out.length_eq];exact hln)).mono ?_
 rintro e w3 ⟨v3,rfl,ho3,hg3⟩
 have HO3:=Lib.hid ho3
 clear ho3 HO2
 have hs:squeeze zs=setOf beforeB (xs++ys):=squeeze_set parts_place HW.out (fun x=>by rw[<-HL.out];exact HP.out.mem_iff)
 rw[hs]at HO3
 have HS:=Lib.hid hs
 clear hs
 go_wp2_with fail
 go_ret
 exact⟨_,rfl,HO3.out,hg3⟩
