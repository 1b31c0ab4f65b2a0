/-
  Part 17 of the proof.
-/
import Derived.Test.YtldmhjbdahjhdaaGreatDoorZc16
import Derived.Test.YtldmhjbdahjhdaaGreatDoorZc11
set_option maxRecDepth 100000
set_option maxHeartbeats 100000000
set_option linter.all false
namespace Go.Proofs.YtldmhjbdahjhdaaGreatDoor
section
open Go Go.RowKit Go.Shelf Go.Lib Go.Sort
theorem compact_squeeze(zs:List Int):Lib.compact zs=squeeze zs:=by
 have key:∀m,m<=zs.length->Lib.compactUpTo zs.toArray m=squeeze (zs.take m):=by
  intro m
  induction m with
  |zero=>intro _;rfl
  |succ m ih=>
   intro hm
   rw[Lib.compactUpTo_succ,ih (by omega)]
   have hg:∀j,j<zs.length->zs.toArray[j]! =zs.getD j 0:=fun j hj=>by simp[List.getD_eq_getElem?_getD,hj]
   rcases Nat.eq_zero_or_pos m with rfl|hp
   ·have:Lib.keeps zs.toArray 0=true:=by simp[Lib.keeps]
    rw[this,if_pos rfl]
    match zs,hm with
    |a::t,_=>simp[squeeze]
   ·rw[squeeze_next zs m hp (by omega)]
    have h1:zs.toArray[m]! =zs[m]:=by simp[show m<zs.length by omega]
    have h2:zs.toArray[m-1]! =zs[m-1]'(by omega):=by simp[show m-1<zs.length by omega]
    by_cases he:zs[m]=zs[m-1]'(by omega)
    ·rw[if_pos he,Lib.keeps_neg hp (by rw[h1,h2];exact he)]
     simp
    ·rw[if_neg he,Lib.keeps_pos (by rw[h1,h2];exact he),if_pos rfl,h1]
 unfold Lib.compact
 rw[key _ (Nat.le_refl _),List.take_length]
def OwnI(a0 w:World)(v:Value)(zs:List Int):Prop:=(v=.slice none 0 0/\zs=[])\/∃B cap,v=.slice (some ⟨B,0,none⟩) zs.length cap/\zs.length<=cap/\a0.heap.size<=B/\B<w.heap.size/\Holds (Value.int .i64) w B 0 zs.toArray
theorem OwnI.form{a0 w:World}{v:Value}{zs:List Int}(h:OwnI a0 w v zs):∃ao c,v=.slice ao zs.length c:=by
 rcases h with⟨rfl,rfl⟩|⟨B,cap,rfl,_⟩
 ·exact⟨none,0,rfl⟩
 ·exact⟨_,cap,rfl⟩
def OwnN(a0 w:World)(v:Value)(zs:List Int):Prop:=w.ownsRow a0.heap.size 3 1 v zs.length (zs.map (Value.int .i64))
theorem OwnN.own{a0 w:World}{v:Value}{zs:List Int}(h:OwnN a0 w v zs):OwnI a0 w v zs:=by
 have hc:=fun g hg=>World.ownsRow.cells (g:=g) h hg
 rcases h.2 with⟨rfl,h0⟩|⟨g,cap,cur,rfl,hb,hh,hle,_⟩
 ·exact .inl ⟨rfl,List.eq_nil_of_length_eq_zero h0⟩
 ·refine .inr ⟨g,cap,rfl,hle,hb,(Array.getElem?_eq_some_iff.1 hh).1,fun j hj=>?_⟩
  have hj':j<zs.length:=by simpa using hj
  have c1:=hc g rfl j (.int .i64 zs[j]) (by simp[hj'])
  have e:(⟨g,0,none⟩:Addr).add j=⟨g,0+j,none⟩:=by
   unfold Addr.add;split<;>simp_all
  rw[e]at c1
  refine⟨?_,Lib.frozen_of_heap hh _⟩
  rw[c1]
  simp[hj']
theorem sorted_weak(zs:List Int):Weakly lessI (zs.mergeSort fun x y=>decide (x<=y)):=by
 have h:=List.pairwise_mergeSort (le:=fun x y:Int=>decide (x<=y)) (by
  intro a b c h1 h2
  simp only[decide_eq_true_eq]at*
  omega) (by
  intro a b
  simp only[Bool.or_eq_true,decide_eq_true_eq]
  omega) zs
 exact h.imp fun{x y} hxy=>by
  simp only[decide_eq_true_eq]at hxy
  simp only[lessI,decide_eq_false_iff_not]
  omega
theorem heap_putRow_other(w:World)(blk off:Nat)(d:Array Int)(k:Nat)(h:k≠blk):(putRow (Value.int .i64) w blk off d).heap[k]?=w.heap[k]?:=by
 unfold putRow mapBlock
 simp[Array.getElem?_modify,Ne.symm h]
theorem size_putRow(w:World)(blk off:Nat)(d:Array Int):(putRow (Value.int .i64) w blk off d).heap.size=w.heap.size:=by
 unfold putRow mapBlock
 simp
theorem row_laid(w:World)(B n:Nat)(zs ys:List Int)(os:Array Obj)(h:Holds (Value.int .i64) w B 0 zs.toArray)(hB:B<w.heap.size)(hl:ys.length=zs.length):
  Holds (Value.int .i64) (Sort.grow (putRow (Value.int .i64) (Sort.ahead w n) B 0 ys.toArray) os) B 0 ys.toArray/\GrX (fun i=>i=B) w (Sort.grow (putRow (Value.int .i64) (Sort.ahead w n) B 0 ys.toArray) os):=by
 have hs:(putRow (Value.int .i64) (Sort.ahead w n) B 0 ys.toArray).heap.size=w.heap.size:=by
  rw[size_putRow]
  rfl
 refine⟨?_,rfl,rfl,rfl,?_,fun k hk hkB=>?_⟩
 ·have h2:=holds_putRow (Value.int .i64) (Sort.ahead w n) B 0 zs.toArray ys.toArray (holds_ahead _ _ n _ _ _ h) (by simp[hl])
  exact holds_grow _ _ os B 0 _ (by rw[hs];exact hB) h2
 ·simp only[Sort.grow,Array.size_append]
  omega
 ·rw[heap_grow_old _ os (by rw[hs];exact hk),heap_putRow_other _ _ _ _ _ hkB]
  rfl
theorem sortS_own(a0 w:World)(v:Value)(zs:List Int)(h:OwnI a0 w v zs)(hg:Gr a0 w)(hl:zs.length<=1000000):
  Calls Tryz.prog 127 #[v] w fun e w'=>e=.returned (.tuple #[])/\∃ys:List Int,ys.Perm zs/\Weakly lessI ys/\OwnI a0 w' v ys/\Gr a0 w':=by
 rcases h with⟨rfl,rfl⟩|⟨B,cap,rfl,h2,h3,h4,h5⟩
 ·refine(Tryz.slices_Sort_int_none none 0 w).mono ?_
  rintro e w' ⟨rfl,rfl⟩
  exact⟨rfl,[],List.Perm.refl _,List.Pairwise.nil,.inl ⟨rfl,rfl⟩,hg⟩
 ·refine(Tryz.slices_Sort_int B 0 cap zs w h5 h4 (by omega)).mono ?_
  rintro e w' ⟨rfl,n,os,rfl⟩
  have hp:=List.mergeSort_perm zs (fun x y=>decide (x<=y))
  obtain⟨r1,r2⟩:=row_laid w B n zs _ os h5 h4 hp.length_eq
  exact⟨rfl,_,hp,sorted_weak zs,.inr ⟨B,cap,by rw[hp.length_eq],by rw[hp.length_eq];exact h2,h3,Nat.lt_of_lt_of_le h4 r2.2.2.2.1,r1⟩,r2.gr hg (fun k hk=>by rw[hk];exact h3)⟩
theorem compactI_own(a0 w:World)(v:Value)(zs:List Int)(h:OwnI a0 w v zs)(hg:Gr a0 w)(hl:zs.length<=1000000):
  Calls Tryz.prog 128 #[v] w fun e w'=>∃v',e=.returned v'/\OwnI a0 w' v' (squeeze zs)/\Gr a0 w':=by
 rcases h with⟨rfl,rfl⟩|⟨B,cap,rfl,h2,h3,h4,h5⟩
 ·refine(Tryz.slices_Compact_int_empty none 0 w).mono ?_
  rintro e w' ⟨rfl,rfl⟩
  exact⟨_,rfl,.inl ⟨rfl,rfl⟩,hg⟩
 ·refine(Tryz.slices_Compact_int B 0 cap zs w h5 (by omega) h2).mono ?_
  rintro e w' ⟨rfl,n,rfl⟩
  rw[compact_squeeze]
  have hle:=squeeze_len zs
  obtain⟨r1,r2⟩:=row_laid w B n zs (squeeze zs++List.replicate (zs.length-(squeeze zs).length) 0) #[] h5 h4 (by simp;omega)
  rw[grow_empty]at r1 r2
  refine⟨_,rfl,.inr ⟨B,cap,rfl,Nat.le_trans hle h2,h3,Nat.lt_of_lt_of_le h4 r2.2.2.2.1,fun j hj=>?_⟩,r2.gr hg (fun k hk=>by rw[hk];exact h3)⟩
  have hj':j<(squeeze zs).length:=by simpa using hj
  have:=r1 j (by simp;omega)
  refine⟨this.1.trans ?_,this.2⟩
  simp[hj',show j<(squeeze zs).length+(zs.length-(squeeze zs).length)by omega,List.getElem_append_left hj']
theorem info_int:(Tryz.prog.info? 3).map (fun i=>(i.zero,i.size,i.bytes))=some (some (.int .i64 0),1,8):=by kernel_rfl
theorem ownN_snoc{a0 w:World}{v:Value}{zs:List Int}{x:Int}(h:w.ownsRow a0.heap.size 3 1 v (zs.length+1) (zs.map (Value.int .i64)++[.int .i64 x])):OwnN a0 w v (zs++[x]):=by
 unfold OwnN
 rw[List.length_append,List.map_append]
 exact h
theorem append_int{a0 w:World}{ops:Array Oper}{rest:List Oper}{o:Oper}{a:Act}{Q:Exit->Act->World->Prop}(hgd:o.guard=none)(s x:Operand)
  (ho:o.op=.call {callee:=.builtin .append,args:=#[s,x],argTypes:=#[49,49]}) (v:Value) (zs:List Int) (n:Int) (hs:a.eval s=v) (hown:OwnN a0 w v zs) (B:Nat) (hB:B=w.heap.size) (hx:a.eval x=.slice (some ⟨B,0,none⟩) 1 1) (hl:zs.length<=1000000) (hg:Gr a0 w)
  (h:∀v' w',OwnN a0 w' v' (zs++[n])->Gr a0 w'->wpList Tryz.prog ops Q rest (a.put o.dst v') w'):wpList Tryz.prog ops Q (o::rest) a (w.alloc (.cells #[.int .i64 n] 3)):=by
 obtain⟨i0,hinf,hz⟩:∃i0,Tryz.prog.info? 3=some i0/\(i0.zero,i0.size,i0.bytes)=(some (.int .i64 0),1,8):=by
  have h:=info_int
  cases h0:Tryz.prog.info? 3 with
  |none=>rw[h0]at h;cases h
  |some i0=>rw[h0]at h;exact⟨i0,rfl,Option.some.inj h⟩
 subst hB
 simp only[Prod.mk.injEq]at hz
 obtain⟨hz0,hz1,hz2⟩:=hz
 exact append_one (a0:=a0) hgd s x 49 ho 3 i0 (.int .i64 0) 1 8 Tryz.underlying49 hinf hz0 hz1 hz2 rfl (by decide) v zs.length (zs.map (Value.int .i64)) hs hown [.int .i64 n] rfl (by intro u hu;simp at hu;rw[hu];rfl) hx hg (by omega) (by omega) (fun v' w' h1 h2=>h v' w' (ownN_snoc h1) h2)
theorem rows_p(xs:List GPlace)(v:Value)(w:World)(hx:IsP w v xs)(hl:xs.length<=1000000):
  Calls Tryz.prog 73 #[v] w fun e w'=>∃v',e=.returned v'/\OwnI w w' v' (setOf lessI (xs.map (·.1)))/\Gr w w':=by
 have HX:=Lib.hid hx
 obtain⟨ao,ca,rfl⟩:=hx.form
 clear hx
 go_enter Tryz.func73,Tryz.ntmps73
 go_wp2_with fail
 go_loopw [3,8] (fun kv iv w'=>∃i:Nat,i<=xs.length/\iv=.int .i64 i/\OwnN w w' kv ((xs.take i).map (·.1))/\Gr w w') (fun _ iv _=>xs.length-(intOf iv).toNat)
 case atStart=>exact⟨0,Nat.zero_le _,rfl,World.ownsRow_nil _ _ _ _,Gr.refl _⟩
 case round=>
  obtain⟨i,hi,rfl,ho,hg⟩:=hrel
  have HO:=Lib.hid ho
  have HG:=Lib.hid hg
  by_cases hlt:i<xs.length
  ·obtain⟨b,off,rfl,hb,hp⟩:∃b off,ao=some ⟨b,off,none⟩/\b<w.heap.size/\PlacesAt w b off xs:=by
    rcases HX.out with⟨_,e2⟩|⟨b,off,c,e,hb,hp⟩
    ·rw[e2]at hlt
     exact absurd hlt (by simp)
    ·cases e
     exact⟨b,off,rfl,hb,hp⟩
   have hil:(i:Int)<(xs.length:Int):=by omega
   have c1:=hg.keeps (hp i hlt).1
   have c2:=hg.keeps (hp i hlt).2
   have hnx:(xs.take (i+1)).map (·.1)=(xs.take i).map (·.1)++[xs[i].1]:=by
    rw[List.take_succ_eq_append_getElem hlt,List.map_append]
    rfl
   generalize hx:xs[i]=x at*
   obtain⟨x1,x2⟩:=x
   simp only at c1 c2 hnx
   have HN:=Lib.hid hnx
   have hll:((xs.take i).map (·.1)).length<=1000000:=by
    rw[List.length_map,List.length_take]
    omega
   have HG1:=Lib.hid (hg.alloc (.cells #[.int .i64 x1,.int .i64 x2] 104))
   have ho1:OwnN w (wr.alloc (.cells #[.int .i64 x1,.int .i64 x2] 104)) u3 ((xs.take i).map (·.1)):=World.ownsRow.alloc ho _
   have HO1:=Lib.hid ho1
   clear ho1
   clear ho hg hnx
   go_wp2_with(at_builtin;refine append_int (a0:=w) rfl _ _ rfl u3 _ x1 rfl HO1.out _ (by simp) rfl hll HG1.out ?_;intro v3 w3 ho3 hg3)
   go_roundw
   case measure=>
    simp[intOf]
    omega
   case rel=>
    have ho4:OwnN w w3 v3 ((xs.take (i+1)).map (·.1)):=by
     rw[HN.out]
     exact ho3
    exact⟨i+1,by omega,by go_num,ho4,hg3⟩
  ·have hii:i=xs.length:=by omega
   subst hii
   rw[List.take_length]at HO
   obtain⟨L,HL⟩:∃L,Hid (L=xs.map (·.1)):=⟨_,Lib.hid rfl⟩
   have hoi:OwnI w wr u3 L:=by
    rw[HL.out]
    exact HO.out.own
   have hln:L.length<=1000000:=by
    rw[HL.out,List.length_map]
    exact hl
   have HOI:=Lib.hid hoi
   obtain⟨uo,uc,rfl⟩:=hoi.form
   clear ho hg hoi HO
   go_wp2_with fail
   refine(sortS_own w wr _ L HOI.out HG.out hln).mono ?_
   rintro e w1 ⟨rfl,ys,hp,hw,ho1,hg1⟩
   have HO1:=Lib.hid ho1
   have HP:=Lib.hid hp
   have HW:=Lib.hid hw
   clear ho1 hp hw
   go_wp2_with fail
   refine(compactI_own w w1 _ ys HO1.out hg1 (by rw[HP.out.length_eq];exact hln)).mono ?_
   rintro e w2 ⟨v2,rfl,ho2,hg2⟩
   have hs:squeeze ys=setOf lessI (xs.map (·.1)):=squeeze_set parts_int HW.out (fun x=>by rw[<-HL.out];exact HP.out.mem_iff)
   rw[hs]at ho2
   have HO2:=Lib.hid ho2
   have HS:=Lib.hid hs
   clear ho2 hs
   go_wp2_with fail
   go_ret
   exact⟨_,rfl,HO2.out,hg2⟩
theorem clone_p(xs:List GPlace)(v:Value)(w:World)(h:IsP w v xs)(hl:xs.length<=1000000):
  Calls Tryz.prog 112 #[v] w fun e w'=>∃v',e=.returned v'/\OwnR w w' v' xs/\Gr w w':=by
 obtain⟨i0,hi,hz⟩:∃i0,Tryz.prog.info? 104=some i0/\(i0.zero,i0.size,i0.bytes)=(some (.agg #[.int .i64 0,.int .i64 0]),2,16):=by
  have h:=info_place
  cases h0:Tryz.prog.info? 104 with
  |none=>rw[h0]at h;cases h
  |some i0=>rw[h0]at h;exact⟨i0,rfl,Option.some.inj h⟩
 simp only[Prod.mk.injEq]at hz
 obtain⟨hz0,hz1,hz2⟩:=hz
 rcases h with⟨rfl,rfl⟩|⟨b,off,c,rfl,hb,hp⟩
 ·refine Calls.mono (AnyE.slices_Clone_nil Tryz.clonePlaces 0 0 w) ?_
  rintro e w' ⟨rfl,rfl⟩
  exact⟨_,rfl,.inl ⟨rfl,rfl⟩,Gr.refl _⟩
 ·refine Calls.mono (AnyE.slices_Clone Tryz.clonePlaces i0 (.agg #[.int .i64 0,.int .i64 0]) 2 16 hi hz0 hz1 hz2 rfl (by decide) Tryz.sizeOf104 b off xs.length c (cellsP xs) w (cellsP_len xs) (by unfold maxLen;omega) (by omega) (fun j u hj=>by
   have:=hp.cells j u hj
   rwa [Addr.add_lit]at this) (cellsP_one xs)) ?_
  rintro e w' ⟨v',rfl,ho,_,hg⟩
  exact⟨v',rfl,OwnP.own ho,hg⟩
theorem place_cells{w:World}{b off:Nat}{xs:List GPlace}(h:PlacesAt w b off xs):∀j,j<xs.length->∀i v,(encP2 xs[j]!)[i]?=some v->w.cell? ⟨b,off+j*2+i,none⟩=some v:=by
 intro j hj i v hi
 have hp:=h j hj
 have hg:xs[j]! =xs[j]:=by simp[hj]
 rw[hg]at hi
 match i,hi with
 |0,hi=>
  have:=Option.some.inj hi
  rw[<-this]
  exact hp.1
 |1,hi=>
  have:=Option.some.inj hi
  rw[<-this]
  exact hp.2
 |i+2,hi=>simp[encP2]at hi
theorem index_nil(w:World)(fv:Value):
  Calls Tryz.prog 85 #[.slice none 0 0,fv] w (Ret w (.int .i64 (-1))):=by
 go_enter Tryz.func85,Tryz.ntmps85
 go_wp2_with fail
 go_loop [8] (fun i=>i=.int .i64 0) (fun _=>1)
 case atStart=>rfl
 case round=>
  subst hrel
  go_wp2_with fail
  go_ret
  exact Ret.mk rfl (Gr.refl _)
theorem index_p(xs:List GPlace)(v:Value)(g:Nat)(lb:Array Value)(pr:GPlace->Bool)(w:World)(h:IsP w v xs)(hl:xs.length<=1000000)(eg:∀args w,(callFunc g args).run Tryz.prog w=.ok (.enter g args) w)
  (hp:∀(W:World) (x:GPlace),Gr w W->Calls Tryz.prog g (#[x.val]++lb) W (Ret W (.bool (pr x)))):
  Calls Tryz.prog 85 #[v,.func (.func g) #[] lb] w (Ret w (.int .i64 (Lib.idxBy (fun _ y=>pr y) xs default))):=by
 rcases h with⟨rfl,rfl⟩|⟨b,off,c,rfl,hb,hx⟩
 ·exact index_nil w _
 ·refine Calls.mono (AnyQ.slices_IndexFunc Tryz.indexFuncPlace 2 Tryz.isAgg104 Tryz.sizeOf104 encP2 (fun _=>rfl) pr g lb eg b off xs.length c xs w (fun W x hW=>(hp W x hW).mono fun e w' h=>⟨h.1,Gr.trans hW h.2⟩) (Nat.le_refl _) (by omega) hb (place_cells hx)) ?_
  rintro e w' ⟨rfl,hg⟩
  rw[List.take_length]
  exact Ret.mk rfl hg
theorem containsF_nil(w:World)(fv:Value):
  Calls Tryz.prog 42 #[.slice none 0 0,fv] w (Ret w (.bool false)):=by
 have hix:=fun W=>index_nil W fv
 go_enter Tryz.func42,Tryz.ntmps42
 go_wp2_with fail
 refine(hix _).mono ?_
 rintro e w1 ⟨rfl,hg⟩
 go_wp2_with fail
 go_ret
 refine Ret.mk (by first|rfl|simp) ?_
 refine Gr.trans ?_ hg
 repeat(first|exact Gr.refl _|refine Gr.alloc ?_ _|refine Gr.drew ?_)
theorem containsF_p(xs:List GPlace)(v:Value)(g:Nat)(lb:Array Value)(pr:GPlace->Bool)(w:World)(h:IsP w v xs)(hl:xs.length<=1000000)(eg:∀args w,(callFunc g args).run Tryz.prog w=.ok (.enter g args) w)
  (hp:∀(W:World) (x:GPlace),Gr w W->Calls Tryz.prog g (#[x.val]++lb) W (Ret W (.bool (pr x)))):
  Calls Tryz.prog 42 #[v,.func (.func g) #[] lb] w (Ret w (.bool (xs.any pr))):=by
 rcases h with⟨rfl,rfl⟩|⟨b,off,c,rfl,hb,hx⟩
 ·exact containsF_nil w _
 ·refine Calls.mono (AnyQ.slices_ContainsFunc Tryz.containsFuncPlace 2 Tryz.isAgg104 Tryz.sizeOf104 encP2 (fun _=>rfl) pr g lb eg b off xs.length c xs w (fun W x hW=>(hp W x hW).mono fun e w' h=>⟨h.1,Gr.trans hW h.2⟩) (Nat.le_refl _) (by omega) hb (place_cells hx)) ?_
  rintro e w' ⟨rfl,hg⟩
  rw[List.take_length]
  exact Ret.mk rfl hg
theorem idx_cases(pr:GPlace->Bool):∀(xs:List GPlace) (i:Nat),(Lib.idxByFrom (fun _ y=>pr y) default xs i=-1/\xs.filter (fun x=>!pr x)=xs)\/∃k,∃h:k<xs.length,Lib.idxByFrom (fun _ y=>pr y) default xs i=((i+k:Nat):Int)/\pr xs[k]=true/\(xs.take k).filter (fun x=>!pr x)=xs.take k
 |[],i=>.inl ⟨rfl,rfl⟩
 |x::xs,i=>by
  by_cases hx:pr x=true
  ·exact .inr ⟨0,by simp,by simp[Lib.idxByFrom,hx],by simpa using hx,by simp⟩
  ·have hx':pr x=false:=by simpa using hx
   rcases idx_cases pr xs (i+1)with⟨h1,h2⟩|⟨k,hk,h1,h2,h3⟩
   ·exact .inl ⟨by simp[Lib.idxByFrom,hx',h1],by simp[hx',h2]⟩
   ·refine .inr ⟨k+1,by simpa using hk,?_,by simpa using h2,by simp[hx',h3]⟩
    simp only[Lib.idxByFrom,hx',h1]
    simp
    omega
theorem filter_next{α:Type}(f:α->Bool)(l:List α)(k:Nat)(hk:k<l.length):(l.take (k+1)).filter f=if f l[k]then(l.take k).filter f++[l[k]]else(l.take k).filter f:=by
 rw[List.take_succ_eq_append_getElem hk,List.filter_append]
 by_cases h:f l[k]=true<;>simp[h]
theorem delete_row(a0 w:World)(xs:List GPlace)(B cap g:Nat)(lb:Array Value)(pr:GPlace->Bool)(hl:xs.length<=1000000)(hcap:xs.length<=cap)(h:RowP w B xs)(hB:B<w.heap.size)(hB0:a0.heap.size<=B)(hg:Gr a0 w)
  (eg:∀args w,(callFunc g args).run Tryz.prog w=.ok (.enter g args) w) (hp:∀(W:World) (x:GPlace),Gr a0 W->Calls Tryz.prog g (#[x.val]++lb) W (Ret W (.bool (pr x)))):
  Calls Tryz.prog 111 #[.slice (some ⟨B,0,none⟩) xs.length cap,.func (.func g) #[] lb] w fun e w'=>
   e=.returned (.slice (some ⟨B,0,none⟩) (xs.filter (fun x=>!pr x)).length cap)/\RowP w' B (xs.filter (fun x=>!pr x))/\Gr a0 w'/\w.heap.size<=w'.heap.size:=by
 have hix:=index_p xs (.slice (some ⟨B,0,none⟩) xs.length cap) g lb pr w (.inr ⟨B,0,cap,rfl,hB,fun i hi=>by
  have:=h i hi
  rw[Nat.zero_add]
  exact⟨this.1.1,this.2.1⟩⟩) hl eg (fun W x hW=>hp W x (hg.trans hW))
 have H:=Lib.hid h
 have HP:=Lib.hid hp
 have HG:=Lib.hid hg
 clear h hp hg
 rcases idx_cases pr xs 0 with⟨e1,e2⟩|⟨k,hk,e1,e2,e3⟩
 ·have e1':Lib.idxBy (fun _ y=>pr y) xs default=-1:=e1
  rw[e1']at hix
  rw[e2]
  go_enter Tryz.func111,Tryz.ntmps111
  go_wp2_with fail
  refine hix.mono ?_
  rintro e w1 ⟨rfl,hg1⟩
  go_wp2_with fail
  go_ret
  exact⟨rfl,H.out.gr hg1 hB,HG.out.trans hg1,hg1.size⟩
 ·have e1':Lib.idxBy (fun _ y=>pr y) xs default=(k:Int):=by
   have:Lib.idxBy (fun _ y=>pr y) xs default=((0+k:Nat):Int):=e1
   rwa [Nat.zero_add]at this
  rw[e1']at hix
  have hne1:¬(k:Int)=-1:=by omega
  have E2:=Lib.hid e2
  have E3:=Lib.hid e3
  clear e1 e1' e2 e3
  go_enter Tryz.func111,Tryz.ntmps111
  go_wp2_with fail
  refine hix.mono ?_
  rintro e w1 ⟨rfl,hg1⟩
  have HR1:=Lib.hid (H.out.gr hg1 hB)
  have hs1:=hg1.size
  have HG1:=Lib.hid (HG.out.trans hg1)
  clear hg1
  go_wp2_with fail
  go_loopw [5,6] (fun kv jv w'=>∃(q j:Nat) (ys:List GPlace),k+1<=j/\j<=xs.length/\kv=.int .i64 q/\jv=.int .i64 j/\q<j/\ys.length=xs.length/\(∀i,j<=i->ys[i]?=xs[i]?)/\(xs.take j).filter (fun x=>!pr x)=ys.take q/\RowP w' B ys/\Gr a0 w'/\w.heap.size<=w'.heap.size) (fun _ jv _=>xs.length-(intOf jv).toNat)
  case atStart=>
   refine⟨k,k+1,xs,Nat.le_refl _,hk,rfl,by go_num,by omega,rfl,fun _ _=>rfl,?_,HR1.out,HG1.out,hs1⟩
   rw[filter_next _ _ _ hk,E2.out]
   exact E3.out
  case round=>
   obtain⟨q,j,ys,hj1,hjn,rfl,rfl,hqj,hyl,hyx,hsq,hrow,hgw,hsz⟩:=hrel
   have HROW:=Lib.hid hrow
   have HSQ:=Lib.hid hsq
   have HYX:=Lib.hid hyx
   have HGW:=Lib.hid hgw
   have hBw:B<wr.heap.size:=by omega
   clear hrow hsq hyx hgw
   by_cases hlt:j<xs.length
   ·have hjl:(j:Int)<(xs.length:Int):=by omega
    have eyj:ys[j]'(by omega)=xs[j]:=by
     have:=HYX.out j (Nat.le_refl _)
     rw[List.getElem?_eq_getElem (by omega),List.getElem?_eq_getElem hlt]at this
     exact Option.some.inj this
    have hr:=HROW.out j (by omega)
    have hrq:=HROW.out q (by omega)
    rw[eyj]at hr
    have hnx:=filter_next (fun x=>!pr x) xs j hlt
    rw[HSQ.out]at hnx
    have hHP:=HP.out
    generalize hxj:xs[j]=x at*
    obtain⟨a1,a2⟩:=x
    have hqn:(q:Int)<(xs.length:Int):=by omega
    have c1:=hr.1.1
    have c2:=hr.2.1
    simp only at c1 c2
    have HR2:=Lib.hid hr
    have HRQ:=Lib.hid hrq
    have HNX:=Lib.hid hnx
    clear hr hrq hnx eyj
    go_wp2_with fail
    refine(hHP (wr.alloc (.cells #[.int .i64 a1,.int .i64 a2] 104)) (a1,a2) (HGW.out.alloc _)).mono ?_
    rintro e w4 ⟨rfl,hg4⟩
    have hga:Gr wr (wr.alloc (.cells #[.int .i64 a1,.int .i64 a2] 104)):=(Gr.refl wr).alloc _
    have b1:w4.cell? ⟨wr.heap.size,0,none⟩=some (.int .i64 a1):=hg4.keeps (by rw[World.cell?_alloc_new];rfl)
    have b2:w4.cell? ⟨wr.heap.size,1,none⟩=some (.int .i64 a2):=hg4.keeps (by rw[World.cell?_alloc_new];rfl)
    have hgr4:=hga.trans hg4
    have hgw4:=HGW.out.trans hgr4
    have hrow4:=HROW.out.gr hgr4 hBw
    have hsz4:=hgr4.size
    clear c1 c2 HR2 hga hg4
    by_cases hpr:pr (a1,a2)=true
    ·have hst:=HNX.out
     simp only[hpr,Bool.not_true,Bool.false_eq_true,if_false]at hst
     rw[hpr]
     have HST:=Lib.hid hst
     have HR4:=Lib.hid hrow4
     have HG4:=Lib.hid hgw4
     clear hst hrow4 hgw4 hgr4
     go_wp2_with fail
     go_roundw
     case measure=>
      simp[intOf]
      omega
     case rel=>
      first|exact⟨_,_,_,_,_,_,_,_,_,_,_,_,_,_,_,_,_,_,_,_,_,_,_,⟨q,j+1,ys,by omega,by omega,rfl,by go_num,by omega,hyl,fun i hi=>HYX.out i (by omega),HST.out,HR4.out,HG4.out,by omega⟩,rfl⟩|exact⟨_,_,_,_,_,_,_,_,_,_,_,_,_,_,_,_,_,_,_,_,_,_,⟨q,j+1,ys,by omega,by omega,rfl,by go_num,by omega,hyl,fun i hi=>HYX.out i (by omega),HST.out,HR4.out,HG4.out,by omega⟩,rfl⟩|exact⟨_,_,_,_,_,_,_,_,_,_,_,_,_,_,_,_,_,_,_,_,_,⟨q,j+1,ys,by omega,by omega,rfl,by go_num,by omega,hyl,fun i hi=>HYX.out i (by omega),HST.out,HR4.out,HG4.out,by omega⟩,rfl⟩|exact⟨_,_,_,_,_,_,_,_,_,_,_,_,_,_,_,_,_,_,_,_,⟨q,j+1,ys,by omega,by omega,rfl,by go_num,by omega,hyl,fun i hi=>HYX.out i (by omega),HST.out,HR4.out,HG4.out,by omega⟩,rfl⟩|exact⟨_,_,_,_,_,_,_,_,_,_,_,_,_,_,_,_,_,_,_,⟨q,j+1,ys,by omega,by omega,rfl,by go_num,by omega,hyl,fun i hi=>HYX.out i (by omega),HST.out,HR4.out,HG4.out,by omega⟩,rfl⟩|exact⟨_,_,_,_,_,_,_,_,_,_,_,_,_,_,_,_,_,_,⟨q,j+1,ys,by omega,by omega,rfl,by go_num,by omega,hyl,fun i hi=>HYX.out i (by omega),HST.out,HR4.out,HG4.out,by omega⟩,rfl⟩|exact⟨_,_,_,_,_,_,_,_,_,_,_,_,_,_,_,_,_,⟨q,j+1,ys,by omega,by omega,rfl,by go_num,by omega,hyl,fun i hi=>HYX.out i (by omega),HST.out,HR4.out,HG4.out,by omega⟩,rfl⟩|exact⟨_,_,_,_,_,_,_,_,_,_,_,_,_,_,_,_,⟨q,j+1,ys,by omega,by omega,rfl,by go_num,by omega,hyl,fun i hi=>HYX.out i (by omega),HST.out,HR4.out,HG4.out,by omega⟩,rfl⟩|exact⟨_,_,_,_,_,_,_,_,_,_,_,_,_,_,_,_,_,_,_,_,_,_,_,_,⟨q,j+1,ys,by omega,by omega,rfl,by go_num,by omega,hyl,fun i hi=>HYX.out i (by omega),HST.out,HR4.out,HG4.out,by omega⟩,rfl⟩
    ·have hpr':pr (a1,a2)=false:=by simpa using hpr
     have hst:=HNX.out
     simp only[hpr',Bool.not_false,if_true]at hst
     rw[hpr']
     have hq4:=hrow4 q (by omega)
     have d1:=hq4.1.1
     have d2:=hq4.2.1
     have z1:=hq4.1.2
     have z2:=hq4.2.2
     have HST:=Lib.hid hst
     have HR4:=Lib.hid hrow4
     have HG4:=Lib.hid hgw4
     clear hst hrow4 hgw4 hgr4 hq4
     go_wp2_with fail
     go_roundw
     case measure=>
      simp[intOf]
      omega
     case rel=>
      have hyx':∀i,j+1<=i->(ys.set q (a1,a2))[i]?=xs[i]?:=fun i hi=>by
       rw[List.getElem?_set_ne (by omega)]
       exact HYX.out i (by omega)
      have hsq':(xs.take (j+1)).filter (fun x=>!pr x)=(ys.set q (a1,a2)).take (q+1):=by
       rw[HST.out,List.take_succ_eq_append_getElem (by rw[List.length_set];omega),List.take_set_of_le (Nat.le_refl q)]
       simp
      have hrow':=HR4.out.set (i:=q) (by omega) a1 a2
      have hgw':=(HG4.out.setCell (p:=⟨B,q*2,none⟩) hB0 (.int .i64 a1)).setCell (p:=⟨B,q*2+1,none⟩) hB0 (.int .i64 a2)
      exact⟨_,_,_,_,_,_,_,_,_,_,_,_,_,_,_,_,_,_,_,_,_,_,_,⟨q+1,j+1,ys.set q (a1,a2),by omega,by omega,by go_num,by go_num,by omega,by rw[List.length_set];exact hyl,hyx',hsq',hrow',hgw',by simp;omega⟩,rfl⟩
   ·have hjn':j=xs.length:=by omega
    have hsqx:=HSQ.out
    rw[List.take_of_length_le (by omega)]at hsqx
    have hql:q<xs.length:=by omega
    have hcl:=run_clear_places wr 0 B (q*2) (xs.length-q) (cap-q) (by omega) (fun j hj=>by
     have hh:=HROW.out (q+j/2) (by omega)
     rcases Nat.mod_two_eq_zero_or_one j with e|e
     ·rw[show q*2+j=(q+j/2)*2 by omega,hh.1.1]
      rfl
     ·rw[show q*2+j=(q+j/2)*2+1 by omega,hh.2.1]
      rfl) (fun j hj=>by
     have hh:=HROW.out (q+j/2) (by omega)
     rcases Nat.mod_two_eq_zero_or_one j with e|e
     ·rw[show q*2+j=(q+j/2)*2 by omega,hh.1.2]
     ·rw[show q*2+j=(q+j/2)*2+1 by omega,hh.2.2])
    have HX:=Lib.hid hsqx
    clear hsqx
    go_wp2_with fail
    go_ret
    have hlen:(ys.take q).length=q:=by
     rw[List.length_take]
     omega
    have hout:=World.cell?_setCells_out B (List.replicate ((xs.length-q)*2) (.int .i64 0)) (q*2) wr
    have hfro:=World.frozen?_setCells B (List.replicate ((xs.length-q)*2) (.int .i64 0)) (q*2) wr
    have hgx:GrX (fun i=>i=B) wr (wr.setCells B (q*2) (List.replicate ((xs.length-q)*2) (.int .i64 0))):=GrX.setCells B _ _ wr rfl
    refine⟨by rw[HX.out,hlen];rfl,?_,hgx.gr HGW.out (fun k hk=>by rw[hk];exact hB0),Nat.le_trans hsz hgx.2.2.2.1⟩
    rw[HX.out]
    intro i hi
    rw[hlen]at hi
    have hh:=HROW.out i (by omega)
    rw[List.getElem_take]
    exact⟨⟨(hout _ (fun _ _=>Or.inl (by show i*2<q*2;omega))).trans hh.1.1,(hfro _).trans hh.1.2⟩,⟨(hout _ (fun _ _=>Or.inl (by show i*2+1<q*2;omega))).trans hh.2.1,(hfro _).trans hh.2.2⟩⟩
theorem delete_nil(w:World)(fv:Value)(hix:Calls Tryz.prog 85 #[.slice none 0 0,fv] w (Ret w (.int .i64 (-1)))):
  Calls Tryz.prog 111 #[.slice none 0 0,fv] w (Ret w (.slice none 0 0)):=by
 go_enter Tryz.func111,Tryz.ntmps111
 go_wp2_with fail
 refine hix.mono ?_
 rintro e w1 ⟨rfl,hg⟩
 go_wp2_with fail
 go_ret
 exact Ret.mk rfl hg
theorem delete_own(a0 w:World)(v:Value)(xs:List GPlace)(g:Nat)(lb:Array Value)(pr:GPlace->Bool)(h:OwnR a0 w v xs)(hl:xs.length<=1000000)(hg:Gr a0 w)
  (eg:∀args w,(callFunc g args).run Tryz.prog w=.ok (.enter g args) w) (hp:∀(W:World) (x:GPlace),Gr a0 W->Calls Tryz.prog g (#[x.val]++lb) W (Ret W (.bool (pr x)))):
  Calls Tryz.prog 111 #[v,.func (.func g) #[] lb] w fun e w'=>∃v',e=.returned v'/\OwnR a0 w' v' (xs.filter (fun x=>!pr x))/\Gr a0 w':=by
 rcases h with⟨rfl,rfl⟩|⟨B,cap,rfl,h2,h3,h4,h5⟩
 ·refine(delete_nil w _ (index_nil w _)).mono ?_
  rintro e w' ⟨rfl,hg'⟩
  exact⟨_,rfl,.inl ⟨rfl,rfl⟩,hg.trans hg'⟩
 ·refine(delete_row a0 w xs B cap g lb pr hl h2 h5 h4 h3 hg eg hp).mono ?_
  rintro e w' ⟨rfl,hr,hg',hsz⟩
  exact⟨_,rfl,.inr ⟨B,cap,rfl,Nat.le_trans (List.length_filter_le _ _) h2,h3,Nat.lt_of_lt_of_le h4 hsz,hr⟩,hg'⟩
theorem without1(k:Nat)(row:Int)(x:GPlace)(W:World)(h:W.cell? ⟨k,0,none⟩=some (.int .i64 row)):
  Calls Tryz.prog 113 #[x.val,.pointer (some ⟨k,0,none⟩)] W (Ret W (.bool (x.1==row))):=by
 obtain⟨x1,x2⟩:=x
 unfold GPlace.val
 have h':=fun o=>(Gr.alloc (Gr.refl W) o).keeps h
 go_enter Tryz.func113,Tryz.ntmps113
 go_wp2_with fail
 go_ret
 exact Ret.mk rfl ((Gr.refl W).alloc _)
theorem without_p(xs:List GPlace)(v:Value)(row:Int)(w:World)(hx:IsP w v xs)(hl:xs.length<=1000000):
  Calls Tryz.prog 62 #[v,.int .i64 row] w fun e w'=>∃v',e=.returned v'/\OwnR w w' v' (xs.filter (fun x=>!(x.1==row)))/\Gr w w':=by
 have HX:=Lib.hid hx
 obtain⟨ao,ca,rfl⟩:=hx.form
 clear hx
 go_enter Tryz.func62,Tryz.ntmps62
 go_wp2_with fail
 have hga:Gr w (w.alloc (.cells #[.int .i64 row] 3)):=(Gr.refl w).alloc _
 refine(clone_p xs _ (w.alloc (.cells #[.int .i64 row] 3)) (HX.out.gr hga) hl).mono ?_
 rintro e w2 ⟨v2,rfl,ho,hg⟩
 have hk:∀W,Gr (w.alloc (.cells #[.int .i64 row] 3)) W->W.cell? ⟨w.heap.size,0,none⟩=some (.int .i64 row):=fun W hW=>hW.keeps (by rw[World.cell?_alloc_new];rfl)
 have HO:=Lib.hid ho
 have HK:=Lib.hid hk
 obtain⟨vo,vc,rfl⟩:=ho.form
 clear ho hk
 have eg:∀args w,(callFunc 113 args).run Tryz.prog w=.ok (.enter 113 args) w:=enters_of Tryz.func113 (by kernel_rfl) rfl
 go_wp2_with fail
 refine(delete_own (w.alloc (.cells #[.int .i64 row] 3)) w2 _ xs 113 #[.pointer (some ⟨w.heap.size,0,none⟩)] (fun x=>x.1==row) HO.out hl hg eg (fun W x hW=>without1 _ row x W (HK.out W hW))).mono ?_
 rintro e w3 ⟨v3,rfl,ho3,hg3⟩
 have HO3:=Lib.hid (ho3.back hga)
 have HG3:=Lib.hid (hga.trans hg3)
 obtain⟨uo,uc,rfl⟩:=ho3.form
 clear ho3 hg3 eg
 obtain⟨n3,hn3⟩:∃n,n=(List.filter (fun x:GPlace=>!(x.1==row)) xs).length:=⟨_,rfl⟩
 rw[<-hn3]
 have HN:=Lib.hid hn3
 clear hn3
 go_wp2_with fail
 go_ret
 refine⟨_,rfl,?_,HG3.out⟩
 have:=HO3.out
 rw[<-HN.out]at this
 exact this
def aheadW(a:List GPlace)(x:GPlace):Bool:=decide ((x.1,IntKind.i64.wrap (x.2-1))∈a)
end
section
open Go Go.RowKit
instance memB (x:ByteArray) (l:List ByteArray):Decidable (x∈l):=decidable_of_iff (∃y,y∈l/\y=x) ⟨fun⟨_,h,e⟩=>e▸h,fun h=>⟨x,h,rfl⟩⟩
def occ(r:Int)(wd:ByteArray):List ByteArray->Nat->List GPlace
 |[],_=>[]
 |x::xs,i=>if x=wd then(r,(i:Int))::occ r wd xs (i+1)else occ r wd xs (i+1)
theorem occ_mem{r:Int}{wd:ByteArray}:∀{xs:List ByteArray} {i:Nat} {p:GPlace},p∈occ r wd xs i->p.1=r/\(i:Int)<=p.2/\p.2<(i:Int)+xs.length
 |[],_,_,h=>by cases h
 |x::xs,i,p,h=>by
  unfold occ at h
  rw[List.length_cons]
  split at h
  ·rcases List.mem_cons.1 h with e|h
   ·subst e
    exact⟨rfl,Int.le_refl _,by show(i:Int)<_;omega⟩
   ·have:=occ_mem h
    omega
  ·have:=occ_mem h
   omega
theorem occ_rising{r:Int}{wd:ByteArray}:∀{xs:List ByteArray} {i:Nat},Rising beforeB (occ r wd xs i)
 |[],_=>List.Pairwise.nil
 |x::xs,i=>by
  unfold occ
  split
  ·refine List.pairwise_cons.2 ⟨fun q hq=>?_,occ_rising⟩
   have:=occ_mem hq
   rw[before_iff]
   show r<q.1\/r=q.1/\(i:Int)<q.2
   omega
  ·exact occ_rising
theorem occ_append{r:Int}{wd:ByteArray}:∀(xs ys:List ByteArray) (i:Nat),occ r wd (xs++ys) i=occ r wd xs i++occ r wd ys (i+xs.length)
 |[],ys,i=>rfl
 |x::xs,ys,i=>by
  have ih:=occ_append (r:=r) (wd:=wd) xs ys (i+1)
  rw[show i+1+xs.length=i+(xs.length+1)by omega]at ih
  rw[List.cons_append,List.length_cons]
  by_cases e:x=wd
  ·have e1:∀zs:List ByteArray,occ r wd (x::zs) i=(r,(i:Int))::occ r wd zs (i+1):=fun zs=>if_pos e
   rw[e1,e1,ih,List.cons_append]
  ·have e1:∀zs:List ByteArray,occ r wd (x::zs) i=occ r wd zs (i+1):=fun zs=>if_neg e
   rw[e1,e1,ih]
theorem occ_nil{r:Int}{wd:ByteArray}:∀{xs:List ByteArray} {i:Nat},occ r wd xs i=[]↔wd∉xs
 |[],_=>by simp[occ]
 |x::xs,i=>by
  unfold occ
  split
  ·rename_i e
   simp[e]
  ·rename_i e
   rw[occ_nil,List.mem_cons]
   constructor
   ·rintro h (h1|h1)
    ·exact e h1.symm
    ·exact h h1
   ·exact fun h h1=>h (.inr h1)
def wSum(l:List ByteArray):Nat:=(l.map fun x=>19+x.size).sum
theorem wSum_cons(x:ByteArray)(l:List ByteArray):wSum (x::l)=19+x.size+wSum l:=by
 unfold wSum
 rw[List.map_cons,List.sum_cons]
theorem occ_weight{r:Int}{wd:ByteArray}:∀{xs:List ByteArray} {i:Nat},(19+wd.size)*(occ r wd xs i).length=wSum (xs.filter fun x=>decide (x=wd))
 |[],_=>by simp[occ,wSum]
 |x::xs,i=>by
  have ih:=occ_weight (r:=r) (wd:=wd) (xs:=xs) (i:=i+1)
  unfold occ
  by_cases e:x=wd
  ·rw[if_pos e,List.filter_cons_of_pos (by simpa using e),wSum_cons,List.length_cons,Nat.mul_add,Nat.mul_one,ih,e]
   omega
  ·rw[if_neg e,List.filter_cons_of_neg (by simpa using e),ih]
theorem wSum_or(xs:List ByteArray)(p q:ByteArray->Bool)(h:∀x∈xs,p x=true->q x=false):wSum (xs.filter p)+wSum (xs.filter q)=wSum (xs.filter fun x=>p x||q x):=by
 induction xs with
 |nil=>rfl
 |cons x xs ih=>
  have ih:=ih fun y hy=>h y (List.mem_cons_of_mem _ hy)
  have hx:=h x List.mem_cons_self
  cases hp:p x with
  |true=>
   have hq:=hx hp
   simp only[List.filter_cons,hp,hq,if_true,Bool.false_eq_true,if_false,Bool.true_or,wSum_cons]
   omega
  |false=>
   cases hq:q x with
   |true=>
    simp only[List.filter_cons,hp,hq,if_true,Bool.false_eq_true,if_false,Bool.false_or,wSum_cons]
    omega
   |false=>
    simp only[List.filter_cons,hp,hq,Bool.false_eq_true,if_false,Bool.false_or]
    exact ih
def budg(ws:List ByteArray):List ByteArray->List ByteArray->Nat
 |_,[]=>0
 |dn,wd::rest=>if wd∈dn then budg ws (wd::dn) rest else(19+wd.size)*(occ 0 wd ws 0).length+budg ws (wd::dn) rest
theorem occ_len{r s:Int}{wd:ByteArray}:∀{xs:List ByteArray} {i:Nat},(occ r wd xs i).length=(occ s wd xs i).length
 |[],_=>rfl
 |x::xs,i=>by
  unfold occ
  split
  ·rw[List.length_cons,List.length_cons,occ_len]
  ·exact occ_len
theorem budg_is(ws:List ByteArray):∀(rest dn:List ByteArray),budg ws dn rest+wSum (ws.filter fun x=>decide (x∈dn))=wSum (ws.filter fun x=>decide (x∈dn)||decide (x∈rest))
 |[],dn=>by
  simp[budg]
 |wd::rest,dn=>by
  have ih:=budg_is ws rest (wd::dn)
  have e2:(ws.filter fun x=>decide (x∈wd::dn)||decide (x∈rest))=ws.filter fun x=>decide (x∈dn)||decide (x∈wd::rest):=by
   refine List.filter_congr fun x _=>?_
   by_cases h1:x=wd<;>by_cases h2:x∈dn<;>by_cases h3:x∈rest<;>simp[h1,h2,h3]
  rw[e2]at ih
  unfold budg
  by_cases hd:wd∈dn
  ·rw[if_pos hd]
   have e1:(ws.filter fun x=>decide (x∈wd::dn))=ws.filter fun x=>decide (x∈dn):=by
    refine List.filter_congr fun x _=>?_
    by_cases h1:x=wd
    ·simp[h1,hd]
    ·simp[h1]
   rw[e1]at ih
   exact ih
  ·rw[if_neg hd,occ_weight]
   have h3:=wSum_or ws (fun x=>decide (x=wd)) (fun x=>decide (x∈dn)) (fun x _ hx=>by
    have e:x=wd:=of_decide_eq_true hx
    rw[e]
    exact decide_eq_false hd)
   have e1:(ws.filter fun x=>decide (x=wd)||decide (x∈dn))=ws.filter fun x=>decide (x∈wd::dn):=by
    refine List.filter_congr fun x _=>?_
    by_cases h1:x=wd<;>by_cases h2:x∈dn<;>simp[h1,h2]
   rw[e1]at h3
   omega
theorem budg_all(ws:List ByteArray):budg ws [] ws=wSum ws:=by
 have h:=budg_is ws ws []
 have e1:(ws.filter fun x=>decide (x∈([]:List ByteArray)))=[]:=filter_no fun x _=>by simp
 have e2:(ws.filter fun x=>decide (x∈([]:List ByteArray))||decide (x∈ws))=ws:=filter_all fun x hx=>by simp[hx]
 rw[e1,e2]at h
 simpa[wSum]using h
end
section
open Go Go.RowKit Go.Shelf Go.Lib Go.Sort
def nearW(far:Int)(p q:GPlace):Bool:=q.1==p.1&&decide (max (IntKind.i64.wrap (q.2-p.2)) (IntKind.i64.wrap (p.2-q.2))<=far)
def nearRows(far:Int)(xs ys:List GPlace):List Int:=(xs.filter fun p=>ys.any (nearW far p)).map (·.1)
