/-
  Part 4 of the proof.
-/
import Derived.Shelf.SlIterI.Nil
import Derived.Shelf.SortM.Plain
import Derived.Shelf.SortM.SortNone
import Derived.Shelf.SlMaps.Clone
import Derived.Test.YtldmhjbdahjhdaaGreatDoorZc3
set_option maxRecDepth 100000
set_option maxHeartbeats 100000000
set_option linter.all false
namespace Go.Proofs.YtldmhjbdahjhdaaGreatDoor
section
open Go Go.RowKit Go.Maps Go.Sort Go.Shelf
theorem MapAt.keys{w:World}{M n:Nat}{F:Int->Option ByteArray}(h:MapAt w M n F)(hF:fineF F):
  ∃D:DataW Unit,w.ownsMap Tryz.prog 3 (plainElem Tryz.prog 9) M n D/\((ksF F).map fun(k:Nat)=>(k:Int)).Perm (intKeys D):=by
 obtain⟨D,h1,h2⟩:=h
 refine⟨D,h1,?_⟩
 obtain⟨es,hD,hpw,_⟩:=h1.entries keyI
 obtain⟨es',hD',hko⟩:=h1.keysOf
 obtain rfl:es=es':=by rw[hD]at hD';simpa using hD'
 subst hD
 have hint:∀p∈es,∃x:Int,p.1=.int .i64 x/\(Lit.int .i64 x).wf=true:=fun p hp=>by
  obtain⟨v,hv⟩:=hko p hp
  obtain⟨x,_,hx,hw⟩:=Maps.keyOf_i64 Tryz.underlying3 hv
  exact⟨x,hx,hw⟩
 have hnd:((ksF F).map fun(k:Nat)=>(k:Int)).Nodup:=by
  show List.Pairwise _ _
  rw[List.pairwise_map]
  refine List.Pairwise.imp (fun{a b} (hab:a≠b)=>?_) (List.Pairwise.filter _ List.nodup_range)
  show(a:Int)≠(b:Int)
  omega
 refine perm_intKeys hpw (fun p hp=>by obtain⟨x,hx,_⟩:=hint p hp;exact⟨x,hx⟩) hnd fun x=>?_
 constructor
 ·intro hx
  obtain⟨k,hk,rfl⟩:=List.mem_map.1 hx
  obtain⟨hk1,hk2⟩:=ksF_mem.1 hk
  rw[(h2 (k:Int) (wfI (by omega))).1]
  exact hk2
 ·intro hx
  have hx2:=hx
  rw[has_eq,List.any_eq_true]at hx2
  obtain⟨p,hp,hs⟩:=hx2
  obtain⟨a,ha,hw⟩:=hint p hp
  rw[ha]at hs
  have hax:x=a:=by simpa[Lit.sameKey,eq_comm]using hs
  subst hax
  rw[(h2 x hw).1]at hx
  obtain⟨s,hs⟩:=Option.isSome_iff_exists.1 hx
  obtain⟨f1,f2,_⟩:=hF _ _ hs
  refine List.mem_map.2 ⟨x.toNat,ksF_mem.2 ⟨by omega,?_⟩,by omega⟩
  rw[show((x.toNat:Nat):Int)=x by omega,hs]
  rfl
end
section
open Go Go.RowKit
def MovedB(v v':Value)(w w':World):Prop:=w.heap.size<=w'.heap.size/\∀k,k<w.heap.size->v.ownBlock≠some k->v'.ownBlock≠some k/\w'.heap[k]?=w.heap[k]?
theorem OwnVR.moved{α:Type}{enc:α->Value}{e:TypeId}{a0 w w':World}{u v v':Value}{ys:List α}(h:OwnVR enc e a0 w u ys)(hd:∀b,u.ownBlock=some b->v.ownBlock≠some b)(m:MovedB v v' w w'):OwnVR enc e a0 w' u ys/\∀b,u.ownBlock=some b->v'.ownBlock≠some b:=by
 have hlt:=ownBlock_lt h
 obtain⟨h1,h2⟩:=h
 constructor
 ·refine⟨h1,?_⟩
  rcases h2 with h2|⟨b,cap,cur,hv,hb,hh,r⟩
  ·exact .inl h2
  ·have e:u.ownBlock=some b:=by rw[hv];rfl
   exact .inr ⟨b,cap,cur,hv,hb,by rw[(m.2 b (hlt b e) (hd b e)).2];exact hh,r⟩
 ·intro b e
  exact(m.2 b (hlt b e) (hd b e)).1
theorem append_v{α:Type}{enc:α->Value}{a0 w:World}{ops:Array Oper}{rest:List Oper}{o:Oper}{a:Act}{Q:Exit->Act->World->Prop}(hgd:o.guard=none)(s x:Operand)(t e:TypeId)(z:Value)(nb:Nat)
  (ht:Tryz.prog.underlying t=some (.slice e)) (hinf:(Tryz.prog.info? e).map (fun i=>(i.zero,i.size,i.bytes))=some (some z,1,nb)) (hzs:z.cells.size=1) (hnb:nb<=16)
  (ho:o.op=.call {callee:=.builtin .append,args:=#[s,x],argTypes:=#[t,t]}) (v:Value) (us:List α) (hs:a.eval s=v) (hown:OwnVR enc e a0 w v us) (y:α) (h1:(enc y).oneCell'=true)
  (hx:a.eval x=.slice (some ⟨w.heap.size,0,none⟩) 1 1) (hl:us.length<=1000000) (hg:Gr a0 w)
  (h:∀v' w',OwnVR enc e a0 w' v' (us++[y])->Gr a0 w'->MovedB v v' w w'->wpList Tryz.prog ops Q rest (a.put o.dst v') w'):wpList Tryz.prog ops Q (o::rest) a (w.alloc (.cells #[enc y] e)):=by
 obtain⟨i0,hinf,hz0,hz1,hz2⟩:=info_parts hinf
 have hbytes:(us.length+1)*nb<=140737488355328:=by
  have:=Nat.mul_le_mul (show us.length+1<=1000001 by omega) hnb
  omega
 refine wpList_append_own_at _ hgd s x t ho a0.heap.size e i0 z 1 nb ht hinf hz0 hz1 hz2 hzs (by decide) v us.length (us.map enc) hs (World.ownsRow.alloc hown _) ⟨w.heap.size,0,none⟩ 1 1 [enc y] hx rfl ?_ (by simpa using h1) (by unfold maxLen;omega) hbytes (by have:=hg.size;simp;omega)
  (fun v' w' h1 h2 _ h4=>h v' w' (OwnVR.snoc h1) (gr_grown (hg.alloc _) h2 (ownBlock_ge hown)) ⟨by have:=h2.size;simp at this;omega,fun k hk hne=>⟨fun e=>by
   rcases h4 with h4|h4
   ·exact hne (h4.symm.trans e)
   ·rw[h4]at e
    have:=Option.some.inj e
    simp at this
    omega,(h2.block k (by simp;omega) (fun e=>hne e.symm)).trans (Below.heap_alloc _ _ _ hk)⟩⟩)
 intro j u hj
 have he:(⟨w.heap.size,0,none⟩:Addr).add j=⟨w.heap.size,j,none⟩:=by
  unfold Addr.add
  split
  ·rename_i h0;rw[h0]
  ·simp
 rw[he,World.cell?_alloc_new]
 simpa using hj
def psTo(s:ByteArray)(i:Nat):List Nat:=(List.range i).filter (logBit s.data.toList)
def lsTo(pg:Nat->ByteArray)(s:ByteArray)(i:Nat):List ByteArray:=(List.range (psTo s i).length).map fun j=>pgGet pg (2001+j)
theorem psTo_len(s:ByteArray)(i:Nat):(psTo s i).length<=i:=by
 have:=List.length_filter_le (logBit s.data.toList) (List.range i)
 simpa[psTo]using this
theorem lsTo_len(pg:Nat->ByteArray)(s:ByteArray)(i:Nat):(lsTo pg s i).length=(psTo s i).length:=by simp[lsTo]
theorem psTo_yes{s:ByteArray}{i:Nat}(h:logBit s.data.toList i=true):psTo s (i+1)=psTo s i++[i]:=by
 unfold psTo
 rw[List.range_succ,List.filter_append,List.filter_cons_of_pos h]
 rfl
theorem psTo_no{s:ByteArray}{i:Nat}(h:logBit s.data.toList i=false):psTo s (i+1)=psTo s i:=by
 unfold psTo
 rw[List.range_succ,List.filter_append,List.filter_cons_of_neg (by rw[h];decide)]
 simp
theorem lsTo_yes{pg:Nat->ByteArray}{s:ByteArray}{i:Nat}(h:logBit s.data.toList i=true):lsTo pg s (i+1)=lsTo pg s i++[pgGet pg (2001+(psTo s i).length)]:=by
 unfold lsTo
 rw[psTo_yes h,List.length_append,List.length_singleton,List.range_succ,List.map_append]
 rfl
theorem lsTo_no{pg:Nat->ByteArray}{s:ByteArray}{i:Nat}(h:logBit s.data.toList i=false):lsTo pg s (i+1)=lsTo pg s i:=by
 unfold lsTo
 rw[psTo_no h]
theorem lsTo_sz{d:Dk}(hw:d.whole)(s:ByteArray):∀t∈lsTo d.pg s 2000,t.size=1024:=by
 intro t ht
 obtain⟨i,hi,rfl⟩:=List.mem_map.1 ht
 have:=List.mem_range.1 hi
 have:=psTo_len s 2000
 exact hw _ (by omega)
theorem logged_is{pg:Nat->ByteArray}{s:ByteArray}(hs:pgGet pg 2000=s):(noteB (psTo s 2000) (lsTo pg s 2000)=s->loggedP pg=psTo s 2000/\loggedL pg=lsTo pg s 2000)/\(¬noteB (psTo s 2000) (lsTo pg s 2000)=s->loggedP pg=[]/\loggedL pg=[]):=by
 have e1:logPs pg=psTo s 2000:=by
  unfold logPs psTo
  rw[hs]
 have e2:logLs pg=lsTo pg s 2000:=by
  unfold logLs lsTo
  rw[e1]
 unfold loggedP loggedL
 rw[e1,e2,hs]
 exact⟨fun h=>by rw[if_pos h,if_pos h];exact⟨rfl,rfl⟩,fun h=>by rw[if_neg h,if_neg h];exact⟨rfl,rfl⟩⟩
theorem logged_g(B:Nat)(d:Dk)(w:World)(hd:DkAt w B d)(hw:d.whole):
  Calls Tryz.prog 79 #[.pointer (some ⟨B,0,none⟩)] w fun e w'=>∃pv lv,e=.returned (.tuple #[pv,lv])/\RowV natV w' pv (loggedP d.pg)/\RowV Value.string w' lv (loggedL d.pg)/\OffV pv B/\OffV lv B/\Gr w w':=by
 have HD:=Lib.hid hd
 have HW:=Lib.hid hw
 have hlt:=hd.lt
 clear hd hw
 obtain⟨s,hs⟩:∃s,pgGet d.pg 2000=s:=⟨_,rfl⟩
 have hsz:s.size=1024:=by rw[<-hs];exact HW.out 2000 (by omega)
 have HS:=Lib.hid hs
 have hrd:=fun w (h:DkAt w B d)=>read_d B d.pg d.cut d.left d.torn 2000 (by omega) w h
 rw[hs]at hrd
 clear hs
 go_enter Tryz.func79,Tryz.ntmps79
 go_wp2_with fail
 refine(hrd _ HD.out).mono ?_
 rintro e w1 ⟨rfl,hg1⟩
 clear hrd
 go_wp2_with fail
 go_loopw [16,6,7] (fun kv pv lv w'=>∃i:Nat,i<=2000/\kv=.int .i64 i/\OwnVR natV 3 w w' pv (psTo s i)/\OwnVR Value.string 9 w w' lv (lsTo d.pg s i)/\(∀b,pv.ownBlock=some b->lv.ownBlock≠some b)/\Gr w w') (fun kv _ _ _=>2000-(intOf kv).toNat)
 case atStart=>exact⟨0,Nat.zero_le _,rfl,ownVR_nil _ _ _ _,ownVR_nil _ _ _ _,(fun b h=>by cases h),hg1⟩
 case round=>
  obtain⟨i,hi,rfl,hp,hl,hpl,hg⟩:=hrel
  obtain⟨po,pc,rfl⟩:=hp.row.form
  obtain⟨lo,lc,rfl⟩:=hl.row.form
  have hpn:=psTo_len s i
  have hln:=lsTo_len d.pg s i
  rw[hln]at hl hpl⊢
  have HP:=Lib.hid hp
  have HL:=Lib.hid hl
  have HPL:=Lib.hid hpl
  have HG:=Lib.hid hg
  clear hp hl hpl hln
  by_cases hlt2:i<2000
  ·have hq:2+i/8<s.size:=by omega
   have hbv:(bits BinOp.and IntKind.u8 ((s[2+i/8].toNat:Int)/2^(i % 8)) 1==1)=logBit s.data.toList i:=by
    have e0:s[2+i/8]=s.data.toList.getD (2+i/8) 0:=by
     rw[get_data s (2+i/8) hq,List.getD_eq_getElem?_getD,List.getElem?_eq_getElem (by rw[<-size_data];exact hq)]
     rfl
    have e1:((s[2+i/8].toNat:Int)/2^(i % 8))=((s[2+i/8].toNat/2^(i % 8):Nat):Int):=by push_cast;rfl
    rw[e1,and_one8 _ (Nat.lt_of_le_of_lt (Nat.div_le_self _ _) s[2+i/8].toNat_lt),e0]
    unfold logBit
    generalize(s.data.toList.getD (2+i/8) 0).toNat/2^(i % 8)=x
    rcases Nat.mod_two_eq_zero_or_one x with h|h<;>rw[h]<;>rfl
   have hrd:=fun w (h:DkAt w B d)=>read_d B d.pg d.cut d.left d.torn (2001+(psTo s i).length) (by omega) w h
   have HY:Hid (logBit s.data.toList i=true->psTo s (i+1)=psTo s i++[i]/\lsTo d.pg s (i+1)=lsTo d.pg s i++[pgGet d.pg (2001+(psTo s i).length)]):=Lib.hid fun h=>⟨psTo_yes h,lsTo_yes h⟩
   have HN:Hid (logBit s.data.toList i=false->psTo s (i+1)=psTo s i/\lsTo d.pg s (i+1)=lsTo d.pg s i):=Lib.hid fun h=>⟨psTo_no h,lsTo_no h⟩
   rw[show((2001+(psTo s i).length:Nat):Int)=2001+((psTo s i).length:Int)by omega]at hrd
   cases hlb:logBit s.data.toList i
   ·rw[hlb]at hbv
    obtain⟨e1,e2⟩:=HN.out hlb
    have HP':Hid (OwnVR natV 3 w wr (.slice po (psTo s i).length pc) (psTo s (i+1))):=Lib.hid (by rw[e1];exact HP.out)
    have HL':Hid (OwnVR Value.string 9 w wr (.slice lo (psTo s i).length lc) (lsTo d.pg s (i+1))):=Lib.hid (by rw[e2];exact HL.out)
    clear hrd HY HN hlb e1 e2
    go_wp2_with fail
    refine⟨⟨i+1,by omega,by go_num,?_,?_,HPL.out,HG.out⟩,by simp[intOf];omega⟩
    ·exact HP'.out
    ·exact HL'.out
   ·rw[hlb]at hbv
    obtain⟨e1,e2⟩:=HY.out hlb
    have E1:=Lib.hid e1
    have E2:=Lib.hid e2
    clear HY HN hlb e1 e2
    generalize pgGet d.pg (2001+(psTo s i).length)=t at*
    go_wp2_with fail
    refine(hrd _ (HD.out.gr HG.out)).mono ?_
    rintro e w2 ⟨rfl,hg2⟩
    have HP2:=Lib.hid (HP.out.gr hg2)
    have HL2:=Lib.hid (HL.out.gr hg2)
    have HG2:=Lib.hid (HG.out.trans hg2)
    clear hrd
    go_wp2_with(first
     |(at_builtin;refine append_v (a0:=w) (enc:=natV) rfl _ _ 49 3 _ 8 Tryz.underlying49 info_int1 rfl (by omega) rfl _ _ rfl HP2.out i rfl rfl (by omega) HG2.out ?_;intro pv3 w3 hp3 hg3 hm3
       obtain⟨hl3,hd3⟩:=HL2.out.moved (fun b e1 e2=>HPL.out b e2 e1) hm3)
     |(at_builtin;refine append_v (a0:=w) (enc:=Value.string) rfl _ _ 22 9 _ 16 Tryz.underlying22 info_str rfl (by omega) rfl _ _ rfl hl3 t rfl rfl (by rw[lsTo_len];omega) hg3 ?_;intro lv4 w4 hl4 hg4 hm4))
    obtain⟨hp4,hd4⟩:=hp3.moved (fun b e1 e2=>hd3 b e2 e1) hm4
    refine⟨⟨i+1,by omega,by go_num,?_,?_,hd4,hg4⟩,by simp[intOf];omega⟩
    ·rw[E1.out]
     exact hp4
    ·rw[E2.out]
     exact hl4
  ·obtain rfl:i=2000:=by omega
   have HNB:Hid ((⟨(noteF (psTo s 2000) (datas (lsTo d.pg s 2000))).toArray⟩:ByteArray)=noteB (psTo s 2000) (lsTo d.pg s 2000)):=Lib.hid rfl
   have hnt:=note_g (psTo s 2000) (lsTo d.pg s 2000) (.slice po (psTo s 2000).length pc) (.slice lo (psTo s 2000).length lc) wr HP.out.row HL.out.row (by omega) (fun i h=>by
    have:=List.mem_range.1 (List.mem_filter.1 (List.getElem_mem h)).1
    exact this) (by rw[lsTo_len];omega) (fun i h=>by
    have:=lsTo_sz HW.out s _ (List.getElem_mem h)
    omega)
   rw[HNB.out]at hnt
   have HL1:=Lib.hid (logged_is (pg:=d.pg) HS.out)
   have hoff:∀{v:Value} {n:Nat} {xs:List Value} {e:TypeId},wr.ownsRow w.heap.size e 1 v n xs->OffV v B:=fun h b off n c e e2=>by
    have:=ownBlock_ge h b (by rw[e];rfl)
    omega
   have HOF:=Lib.hid (And.intro (hoff HP.out) (hoff HL.out))
   clear hoff
   by_cases heq:noteB (psTo s 2000) (lsTo d.pg s 2000)=s
   ·have HE:=Lib.hid (HL1.out.1 heq)
    rw[heq]at hnt
    clear heq
    go_wp2_with fail
    refine hnt.mono ?_
    rintro e w5 ⟨rfl,hg5⟩
    clear hnt
    go_wp2_with fail
    go_ret2
    refine⟨_,_,rfl,?_,?_,HOF.out.1,HOF.out.2,HG.out.trans hg5⟩
    ·rw[HE.out.1]
     exact HP.out.row.gr hg5
    ·rw[HE.out.2]
     exact HL.out.row.gr hg5
   ·have HE:=Lib.hid (HL1.out.2 heq)
    clear HL1 HNB
    generalize noteB (psTo s 2000) (lsTo d.pg s 2000)=nb at*
    have hb:(nb.toList==s.toList)=false:=by
     rw[beq_eq_false_iff_ne]
     intro e
     rw[ByteArray.toList_eq,ByteArray.toList_eq]at e
     exact heq (data_ext e)
    have hb2:(!nb.toList==s.toList)=true:=by rw[hb];rfl
    clear heq
    go_wp2_with fail
    refine hnt.mono ?_
    rintro e w5 ⟨rfl,hg5⟩
    clear hnt
    go_wp2_with fail
    go_ret2
    refine⟨_,_,rfl,?_,?_,?_,?_,HG.out.trans hg5⟩
    ·rw[HE.out.1]
     exact .inl ⟨rfl,rfl⟩
    ·rw[HE.out.2]
     exact .inl ⟨rfl,rfl⟩
    ·intro b off n c e
     cases e
    ·intro b off n c e
     cases e
theorem grX_imp{S T:Nat->Prop}{w w':World}(h:GrX S w w')(i:∀k,S k->T k):GrX T w w':=⟨h.1,h.2.1,h.2.2.1,h.2.2.2.1,fun k hk hs=>h.2.2.2.2 k hk fun h'=>hs (i k h')⟩
def zeroP:List Value:=[.pointer none]++(List.replicate 2000 (.bool false)++(List.replicate 16 (.int .i64 0)++([.map none]++(List.replicate 2000 (.bool false)++(List.replicate 16 (.int .i64 0)++[.bool false,.int .i64 0])))))
theorem zeroPager:Tryz.zeroCells158.toList=zeroP:=by kernel_rfl
theorem zeroP_len:zeroP.length=4036:=by simp only[zeroP,List.length_append,List.length_replicate,List.length_cons,List.length_nil]
theorem new_at{Z:Array Value}(hZ:Z.toList=zeroP)(DB M:Nat){k:Nat}{v:Value}(h:zeroP[k]?=some v)(h0:k≠0)(h1:k≠2017):((Z.setIfInBounds 0 (.pointer (some ⟨DB,0,none⟩))).setIfInBounds 2017 (.map (some M)))[k]?=some v:=by
 rw[Array.getElem?_setIfInBounds_ne (by omega),Array.getElem?_setIfInBounds_ne (by omega),<-Array.getElem?_toList,hZ]
 exact h
theorem pager_new(w:World)(DB M:Nat)(hM:M<w.heap.size)(t:TypeId)(hm:MapAt w M 0 fun _=>none){Z:Array Value}(hZ:Z.toList=zeroP):
  PagerAt (w.alloc (.cells ((Z.setIfInBounds 0 (.pointer (some ⟨DB,0,none⟩))).setIfInBounds 2017 (.map (some M))) t)) w.heap.size DB M 0 head0 head0 (fun _=>none) false 0:=by
 have hs:Z.size=4036:=by rw[<-Array.length_toList,hZ,zeroP_len]
 have h0:((Z.setIfInBounds 0 (.pointer (some ⟨DB,0,none⟩))).setIfInBounds 2017 (.map (some M)))[0]?=some (.pointer (some ⟨DB,0,none⟩)):=by
  rw[Array.getElem?_setIfInBounds_ne (by omega),Array.getElem?_setIfInBounds_self_of_lt (by omega)]
 have h1:((Z.setIfInBounds 0 (.pointer (some ⟨DB,0,none⟩))).setIfInBounds 2017 (.map (some M)))[2017]?=some (.map (some M)):=by
  rw[Array.getElem?_setIfInBounds_self_of_lt (by rw[Array.size_setIfInBounds];omega)]
 have hn:=fun k v h h0 h1=>new_at hZ DB M (k:=k) (v:=v) h h0 h1
 generalize(Z.setIfInBounds 0 (.pointer (some ⟨DB,0,none⟩))).setIfInBounds 2017 (.map (some M))=C at*
 have hc:∀k v,C[k]?=some v->(w.alloc (.cells C t)).cell? ⟨w.heap.size,k,none⟩=some v:=fun k v h=>by rw[World.cell?_alloc_new];exact h
 refine⟨hc _ _ h0,⟨fun i hi=>?_,fun i hi=>?_,fun i hi=>?_⟩,hc _ _ h1,⟨fun i hi=>?_,fun i hi=>?_,fun i hi=>?_⟩,?_,?_,fun o=>by simp,hm.gr ((Gr.refl w).alloc _),by omega⟩
 all_goals refine hc _ _ (hn _ _ ?_ (by omega) (by omega))
 all_goals simp only[zeroP,List.getElem?_append,List.getElem?_replicate,List.length_cons,List.length_nil,List.length_replicate,head0]
 all_goals(repeat' split)
 all_goals first|omega|rfl|skip
def Opened(DB:Nat)(d:Dk)(w:World)(e:Ending)(w':World):Prop:=
 DkAt w' DB (wrsD d (openE d.pg)).2/\GrX (fun b=>b=DB) w w'/\
  if(wrsD d (openE d.pg)).1 then∃PB M,e=.returned (.tuple #[.pointer (some ⟨PB,0,none⟩),.nilIface])/\PagerAt w' PB DB M 0 (headD (wrsD d (openE d.pg)).2.pg) (headD (wrsD d (openE d.pg)).2.pg) (fun _=>none) false 0/\w.heap.size<=PB/\w.heap.size<=M
  else e=.returned (.tuple #[.pointer none,.iface 24 (.int .i64 14)])
theorem open_g(DB:Nat)(d:Dk)(w:World)(hd:DkAt w DB d)(hw:d.whole)(hl:-890000<=d.left/\d.left<=1000000):
  Calls Tryz.prog 35 #[.pointer (some ⟨DB,0,none⟩)] w (Opened DB d w):=by
 have HD:=Lib.hid hd
 have HW:=Lib.hid hw
 have hltD:=hd.lt
 clear hd hw
 have hmm:=fun w=>run_makeMap (P:=Tryz.prog) 152 w
 have HN:Hid (PagerAt ((w.alloc (.map #[] 0)).alloc (.cells ((Tryz.zeroCells158.setIfInBounds 0 (.pointer (some ⟨DB,0,none⟩))).setIfInBounds 2017 (.map (some w.heap.size))) 158)) (w.heap.size+1) DB w.heap.size 0 head0 head0 (fun _=>none) false 0):=Lib.hid (by
  have:=pager_new (w.alloc (.map #[] 0)) DB w.heap.size (by simp) 158 (MapAt.made w) zeroPager
  simpa using this)
 go_enter Tryz.func35,Tryz.ntmps35
 go_wp2_with fail
 generalize((Tryz.zeroCells158.setIfInBounds 0 (.pointer (some ⟨DB,0,none⟩))).setIfInBounds 2017 (.map (some w.heap.size)))=Z at*
 have hg1:Gr w ((w.alloc (.map #[] 0)).alloc (.cells Z 158)):=((Gr.refl w).alloc _).alloc _
 generalize(w.alloc (.map #[] 0)).alloc (.cells Z 158)=w1 at*
 have HG1:=Lib.hid hg1
 have HD1:=Lib.hid (HD.out.gr hg1)
 clear hg1
 have hPB:¬(fun b=>b=DB) (w.heap.size+1):=fun e=>absurd e (by omega)
 have hMB:¬(fun b=>b=DB) w.heap.size:=fun e=>absurd e (by omega)
 refine(logged_g DB d w1 HD1.out HW.out).mono ?_
 rintro e w2 ⟨pv,lv,rfl,hrp,hrl,hop,hol,hg2⟩
 obtain⟨po,pc,rfl⟩:=hrp.form
 have N2:=Lib.hid (HN.out.gr hg2)
 have HD2:=Lib.hid (HD1.out.gr hg2)
 have HG2:=Lib.hid (HG1.out.trans hg2)
 have HRP:=Lib.hid hrp
 have HRL:=Lib.hid hrl
 have HOP:=Lib.hid hop
 have HOL:=Lib.hid hol
 have HLL:=Lib.hid (logged_len d.pg)
 have HLP:=Lib.hid (loggedP_lt d.pg)
 have HLS:=Lib.hid (loggedL_sz HW.out)
 have HLN:Hid ((loggedP d.pg).length<=2000):=Lib.hid (by
  have h1:=logPs_len d.pg
  unfold loggedP
  split
  ·exact h1
  ·exact Nat.zero_le _)
 have HOE:Hid (openE d.pg=if loggedP d.pg=[]then[]else settleE (loggedP d.pg) (loggedL d.pg)):=Lib.hid rfl
 have HOK:=Lib.hid (openE_ok HW.out)
 have HOW:Hid ((wrsD d (openE d.pg)).2.whole):=Lib.hid (wrsD_whole _ HW.out HOK.out)
 clear hrp hrl hop hol hg2
 generalize loggedP d.pg=ps at*
 generalize loggedL d.pg=L at*
 cases ps with
 |nil=>
  have HE:Hid (wrsD d (openE d.pg)=(true,d)):=Lib.hid (by rw[HOE.out,if_pos rfl];rfl)
  have HGX:=Lib.hid (GrX.of_gr (S:=fun b=>b=DB) HG2.out)
  have hr0:∀w,DkAt w DB d->Calls Tryz.prog 81 #[.pointer (some ⟨DB,0,none⟩),.int .i64 0] w (Ret w (.tuple #[.string (pgGet d.pg 0),.nilIface])):=fun w h=>read_d DB d.pg d.cut d.left d.torn 0 (by omega) w h
  have hsz:(pgGet d.pg 0).size=1024:=HW.out 0 (by omega)
  obtain⟨A,hA0⟩:∃A:Array Value,A=(headD d.pg).cells.toArray:=⟨_,rfl⟩
  have hrd:∀w,Calls Tryz.prog 82 #[.string (pgGet d.pg 0)] w (Ret w (.agg A)):=fun w=>by rw[hA0];exact reads_g (pgGet d.pg 0) hsz w
  have hA:=Lib.hid hA0
  clear hA0 hsz
  have HHH0:∃hh,headD d.pg=hh:=⟨_,rfl⟩
  obtain⟨hh,hhe⟩:=HHH0
  rw[hhe]at hA
  have HHH:=Lib.hid hhe
  clear hhe
  generalize pgGet d.pg 0=s0 at*
  go_wp2_with fail
  refine(hr0 _ HD2.out).mono ?_
  rintro e w4 ⟨rfl,hg4⟩
  have N4:=Lib.hid (N2.out.gr hg4)
  have HD4:=Lib.hid (HD2.out.gr hg4)
  have HG4:=Lib.hid (HGX.out.trans (GrX.of_gr hg4))
  go_wp2_with(first
   |( go_at_call 82;refine(hrd _).mono ?_;rintro e w5 ⟨rfl,hg5⟩
      have N5:=Lib.hid (N4.out.gr hg5)
      have HD5:=Lib.hid (HD4.out.gr hg5)
      have HG5:=Lib.hid (HG4.out.trans (GrX.of_gr hg5)))
   |( refine wpList_store_head rfl _ _ rfl (w.heap.size+1) 1 _ _ _ rfl rfl hA.out N5.out.head N5.out.free ?_;intro w6 hw6
      have HN6:=Lib.hid (reHead_of hw6 N5.out))
   |( refine wpList_load_head rfl _ rfl (w.heap.size+1) 1 _ rfl HN6.out.1.head ?_;intro A3 hA3)
   |( refine wpList_store_head rfl _ _ rfl (w.heap.size+1) 2018 _ _ _ rfl rfl hA3.out HN6.out.1.saved HN6.out.1.free ?_;intro w7 hw7
      have HN7:=Lib.hid (reSave_of hw7 HN6.out.1)))
  go_ret2
  rw[Opened,HE.out]
  have HPF:=HN7.out.1
  rw[<-HHH.out]at HPF
  have hgx:=HN6.out.2.trans HN7.out.2
  have hgw:GrX (fun k=>k=DB\/k=w.heap.size+1) w w7:=(grX_imp HG5.out fun _ h=>.inl h).trans (grX_imp hgx fun _ h=>.inr h)
  refine⟨HD5.out.keepX hgx (fun e=>by omega),⟨hgw.1,hgw.2.1,hgw.2.2.1,hgw.2.2.2.1,fun k hk hs=>hgw.2.2.2.2 k hk (fun e=>e.elim hs (fun e=>by omega))⟩,?_⟩
  exact⟨w.heap.size+1,w.heap.size,rfl,HPF,by omega,Nat.le_refl _⟩
 |cons p0 ps0=>
  have hlen:(p0::ps0).length=ps0.length+1:=rfl
  rw[hlen]at HRP⊢
  have hln:=HLN.out
  rw[hlen]at hln
  go_wp2_with fail
  refine(settle_g DB d (p0::ps0) L _ _ w2 HRP.out HRL.out HOP.out HOL.out HLL.out HLP.out HLS.out HLN.out HD2.out HW.out (by omega)).mono ?_
  rintro e w3 ⟨rfl,hd3,hg3⟩
  have HE0:Hid (openE d.pg=settleE (p0::ps0) L):=Lib.hid (by rw[HOE.out,if_neg (by simp)])
  rw[<-HE0.out]at hd3⊢
  have HD3:=Lib.hid hd3
  have N3:=Lib.hid (N2.out.keepX hg3 hPB hMB)
  have HGX:=Lib.hid ((GrX.of_gr (S:=fun b=>b=DB) HG2.out).trans hg3)
  clear hd3 hg3
  obtain⟨r3,hr3⟩:∃r3,wrsD d (openE d.pg)=r3:=⟨_,rfl⟩
  have HE:=Lib.hid hr3
  rw[hr3]at HD3 HOW⊢
  clear hr3
  obtain⟨ok3,d3⟩:=r3
  cases ok3
  ·unfold errD
   go_wp2_with fail
   go_ret2
   rw[Opened,HE.out]
   exact⟨HD3.out,HGX.out,rfl⟩
  ·unfold errD
   have hr0:∀w,DkAt w DB d3->Calls Tryz.prog 81 #[.pointer (some ⟨DB,0,none⟩),.int .i64 0] w (Ret w (.tuple #[.string (pgGet d3.pg 0),.nilIface])):=fun w h=>read_d DB d3.pg d3.cut d3.left d3.torn 0 (by omega) w h
   have hsz:(pgGet d3.pg 0).size=1024:=HOW.out 0 (by omega)
   obtain⟨A,hA0⟩:∃A:Array Value,A=(headD d3.pg).cells.toArray:=⟨_,rfl⟩
   have hrd:∀w,Calls Tryz.prog 82 #[.string (pgGet d3.pg 0)] w (Ret w (.agg A)):=fun w=>by rw[hA0];exact reads_g (pgGet d3.pg 0) hsz w
   have hA:=Lib.hid hA0
   clear hA0 hsz
   have HHH0:∃hh,headD d3.pg=hh:=⟨_,rfl⟩
   obtain⟨hh,hhe⟩:=HHH0
   rw[hhe]at hA
   have HHH:=Lib.hid hhe
   clear hhe
   generalize pgGet d3.pg 0=s0 at*
   go_wp2_with fail
   refine(hr0 _ HD3.out).mono ?_
   rintro e w4 ⟨rfl,hg4⟩
   have N4:=Lib.hid (N3.out.gr hg4)
   have HD4:=Lib.hid (HD3.out.gr hg4)
   have HG4:=Lib.hid (HGX.out.trans (GrX.of_gr hg4))
   go_wp2_with(first
     |(go_at_call 82;refine(hrd _).mono ?_;rintro e w5 ⟨rfl,hg5⟩
       have N5:=Lib.hid (N4.out.gr hg5)
       have HD5:=Lib.hid (HD4.out.gr hg5)
       have HG5:=Lib.hid (HG4.out.trans (GrX.of_gr hg5)))
     |(refine wpList_store_head rfl _ _ rfl (w.heap.size+1) 1 _ _ _ rfl rfl hA.out N5.out.head N5.out.free ?_;intro w6 hw6
       have HN6:=Lib.hid (reHead_of hw6 N5.out))
     |(refine wpList_load_head rfl _ rfl (w.heap.size+1) 1 _ rfl HN6.out.1.head ?_;intro A3 hA3)
     |(refine wpList_store_head rfl _ _ rfl (w.heap.size+1) 2018 _ _ _ rfl rfl hA3.out HN6.out.1.saved HN6.out.1.free ?_;intro w7 hw7
       have HN7:=Lib.hid (reSave_of hw7 HN6.out.1)))
   go_ret2
   rw[Opened,HE.out]
   have HPF:=HN7.out.1
   rw[<-HHH.out]at HPF
   have hgx:=HN6.out.2.trans HN7.out.2
   have hgw:GrX (fun k=>k=DB\/k=w.heap.size+1) w w7:=(grX_imp HG5.out fun _ h=>.inl h).trans (grX_imp hgx fun _ h=>.inr h)
   refine⟨HD5.out.keepX hgx (fun e=>by omega),⟨hgw.1,hgw.2.1,hgw.2.2.1,hgw.2.2.2.1,fun k hk hs=>hgw.2.2.2.2 k hk (fun e=>e.elim hs (fun e=>by omega))⟩,?_⟩
   exact⟨w.heap.size+1,w.heap.size,rfl,HPF,by omega,Nat.le_refl _⟩
theorem zeros_getD(j:Nat):zerosB.data.toList.getD j 0=0:=by
 rw[zerosB_fill]
 unfold fillF
 rw[List.nil_append,List.getD_eq_getElem?_getD,List.getElem?_replicate]
 split<;>rfl
theorem logged_none{pg:Nat->ByteArray}(h:logPs pg=[]):loggedP pg=[]:=by
 unfold loggedP
 rw[h]
 split<;>rfl
theorem logPs_none{pg:Nat->ByteArray}(h:∀j,2<=j->(pgGet pg 2000).data.toList.getD j 0=0):logPs pg=[]:=by
 unfold logPs
 rw[List.filter_eq_nil_iff]
 intro k _ hb
 unfold logBit at hb
 rw[h _ (by omega)]at hb
 simp at hb
theorem logged_zeros{pg:Nat->ByteArray}(h:pgGet pg 2000=zerosB):loggedP pg=[]:=logged_none (logPs_none fun j _=>by rw[h];exact zeros_getD j)
structure PgS(w:World)(PB DB M n:Nat)(c:Ch)(sv:Head)(t:Int)(d:Dk):Prop where
 pg:∃n',n'<=n/\PagerAt w PB DB M n' c.h sv c.F false t
 dk:DkAt w DB d
 ne1:PB≠DB
 ne2:M≠DB
def PgF(PB DB M M':Nat)(w w':World):Prop:=(M'=M\/w.heap.size<=M')/\GrX (fun b=>b=PB\/b=DB\/b=M) w w'
theorem PgF.refl(PB DB M:Nat)(w:World):PgF PB DB M M w w:=⟨.inl rfl,GrX.refl _ _⟩
theorem PgF.trans{PB DB M M' M'':Nat}{w w' w'':World}(h:PgF PB DB M M' w w')(k:PgF PB DB M' M'' w' w''):PgF PB DB M M'' w w'':=by
 obtain⟨h1,h2⟩:=h
 obtain⟨k1,k2⟩:=k
 have hs:=h2.2.2.2.1
 refine⟨?_,k2.1.trans h2.1,k2.2.1.trans h2.2.1,k2.2.2.1.trans h2.2.2.1,Nat.le_trans hs k2.2.2.2.1,fun b hb hnb=>?_⟩
 ·rcases k1 with rfl|k1
  ·exact h1
  ·exact .inr (Nat.le_trans hs k1)
 ·refine(k2.2.2.2.2 b (Nat.lt_of_lt_of_le hb hs) fun e=>?_).trans (h2.2.2.2.2 b hb hnb)
  rcases e with e|e|e
  ·exact hnb (.inl e)
  ·exact hnb (.inr (.inl e))
  ·rcases h1 with h1|h1
   ·exact hnb (.inr (.inr (e.trans h1)))
   ·omega
theorem PgF.of_gr(PB DB M:Nat){w w':World}(g:Gr w w'):PgF PB DB M M w w':=⟨.inl rfl,GrX.of_gr g⟩
theorem PgF.keeps{PB DB M M':Nat}{w w':World}(h:PgF PB DB M M' w w'){b o:Nat}{v:Value}(h1:b≠PB)(h2:b≠DB)(h3:b≠M)(hc:w.cell? ⟨b,o,none⟩=some v):w'.cell? ⟨b,o,none⟩=some v:=
 h.2.keeps (fun e=>e.elim h1 fun e=>e.elim h2 h3) hc
theorem PgF.size{PB DB M M':Nat}{w w':World}(h:PgF PB DB M M' w w'):w.heap.size<=w'.heap.size:=h.2.2.2.2.1
theorem PgS.gr{w w':World}{PB DB M n:Nat}{c:Ch}{sv:Head}{t:Int}{d:Dk}(h:PgS w PB DB M n c sv t d)(g:Gr w w'):PgS w' PB DB M n c sv t d:=by
 obtain⟨⟨n',h1,h2⟩,h3,h4,h5⟩:=h
 exact⟨⟨n',h1,h2.gr g⟩,h3.gr g,h4,h5⟩
theorem PgS.mono{w:World}{PB DB M n m:Nat}{c:Ch}{sv:Head}{t:Int}{d:Dk}(h:PgS w PB DB M n c sv t d)(hm:n<=m):PgS w PB DB M m c sv t d:=by
 obtain⟨⟨n',h1,h2⟩,h3,h4,h5⟩:=h
 exact⟨⟨n',by omega,h2⟩,h3,h4,h5⟩
theorem PgS.lt{w:World}{PB DB M n:Nat}{c:Ch}{sv:Head}{t:Int}{d:Dk}(h:PgS w PB DB M n c sv t d):PB<w.heap.size/\DB<w.heap.size/\M<w.heap.size:=by
 obtain⟨⟨n',h1,h2⟩,h3,h4,h5⟩:=h
 exact⟨h2.lt,h3.lt,h2.dirty.lt⟩
theorem grX_three{PB DB M:Nat}{w w':World}(h:GrX (fun b=>b=PB\/b=M) w w'):GrX (fun b=>b=PB\/b=DB\/b=M) w w':=grX_imp h fun _ e=>e.elim .inl fun e=>.inr (.inr e)
def allocV(c:Ch):Value:=match allocF c.h with|none=>.tuple #[.int .i64 0,.iface 24 (.int .i64 12)]|some k=>.tuple #[.int .i64 k,.nilIface]
theorem dk_off{PB DB M:Nat}{w w':World}{d:Dk}(h:DkAt w DB d)(h1:PB≠DB)(h2:M≠DB)(g:GrX (fun b=>b=PB\/b=M) w w'):DkAt w' DB d:=h.keepX g fun e=>e.elim (fun e=>h1 e.symm) fun e=>h2 e.symm
section
variable{w:World}{PB DB M n:Nat}{c:Ch}{sv:Head}{t:Int}{d:Dk}
theorem alloc_s(h:PgS w PB DB M n c sv t d)(hn:n<1000000):Calls Tryz.prog 199 #[.pointer (some ⟨PB,0,none⟩)] w fun e w'=>e=.returned (allocV c)/\PgS w' PB DB M (n+1) c.alloc sv t d/\PgF PB DB M M w w':=by
 obtain⟨⟨n',h1,h2⟩,h3,h4,h5⟩:=h
 unfold allocV Ch.alloc
 cases ha:allocF c.h with
 |none=>
  refine(alloc_full_pg PB DB M n' c.h sv c.F t w h2 ha).mono ?_
  rintro e w' ⟨rfl,g⟩
  exact⟨rfl,⟨⟨n',by omega,h2.gr g⟩,h3.gr g,h4,h5⟩,PgF.of_gr _ _ _ g⟩
 |some k=>
  have hk:k<2000:=List.mem_range.1 (List.mem_of_find?_eq_some ha)
  refine(alloc_pg PB DB M n' c.h sv c.F t (by omega) w h2 hk ha).mono ?_
  rintro e w' ⟨rfl,p,g⟩
  exact⟨rfl,⟨⟨n'+1,by omega,p⟩,dk_off h3 h4 h5 g,h4,h5⟩,.inl rfl,grX_three g⟩
def rangeV(b:Bool):Value:=if b then .nilIface else .iface 24 (.int .i64 2)
theorem free_s(h:PgS w PB DB M n c sv t d)(k:Int):Calls Tryz.prog 204 #[.pointer (some ⟨PB,0,none⟩),.int .i64 k] w fun e w'=>e=.returned (rangeV (inUse c.h k))/\PgS w' PB DB M (n+1) (c.free k) sv t d/\PgF PB DB M M w w':=by
 obtain⟨⟨n',h1,h2⟩,h3,h4,h5⟩:=h
 unfold Ch.free
 cases hu:inUse c.h k with
 |false=>
  refine(free_bad_pg PB DB M n' c.h sv c.F false t k w h2 hu).mono ?_
  rintro e w' ⟨rfl,g⟩
  exact⟨rfl,⟨⟨n',by omega,h2.gr g⟩,h3.gr g,h4,h5⟩,PgF.of_gr _ _ _ g⟩
 |true=>
  obtain⟨m,rfl,hm⟩:=inUse_iff.1 hu
  refine(free_pg PB DB M n' c.h sv c.F t m w h2 hu).mono ?_
  rintro e w' ⟨rfl,p,g⟩
  exact⟨rfl,⟨⟨n',by omega,p⟩,dk_off h3 h4 h5 g,h4,h5⟩,.inl rfl,grX_three g⟩
theorem write_s(h:PgS w PB DB M n c sv t d)(hn:n<1000000)(k:Int)(s:ByteArray)(hs:s.size=1024):Calls Tryz.prog 251 #[.pointer (some ⟨PB,0,none⟩),.int .i64 k,.string s] w fun e w'=>e=.returned (rangeV (inUse c.h k))/\PgS w' PB DB M (n+1) (c.write k s) sv t d/\PgF PB DB M M w w':=by
 obtain⟨⟨n',h1,h2⟩,h3,h4,h5⟩:=h
 unfold Ch.write
 cases hu:inUse c.h k with
 |false=>
  refine(write_bad_pg PB DB M n' c.h sv c.F false t k s w h2 hu).mono ?_
  rintro e w' ⟨rfl,g⟩
  exact⟨rfl,⟨⟨n',by omega,h2.gr g⟩,h3.gr g,h4,h5⟩,PgF.of_gr _ _ _ g⟩
 |true=>
  refine(write_pg PB DB M n' c.h sv c.F t k s hs (by omega) w h2 hu).mono ?_
  rintro e w' ⟨rfl,p,g⟩
  exact⟨rfl,⟨⟨n'+1,by omega,p⟩,dk_off h3 h4 h5 g,h4,h5⟩,.inl rfl,grX_three g⟩
theorem setRoot_s(h:PgS w PB DB M n c sv t d)(i:Nat)(k m:Int)(hi:i<8)(hk:0<=k/\k<2000)(hm:0<=m/\m<65536):Calls Tryz.prog 202 #[.pointer (some ⟨PB,0,none⟩),.int .i64 i,.int .i64 k,.int .i64 m] w fun e w'=>e=.returned .nilIface/\PgS w' PB DB M n ⟨c.h.setRoot i k m,c.F⟩ sv t d/\PgF PB DB M M w w':=by
 obtain⟨⟨n',h1,h2⟩,h3,h4,h5⟩:=h
 refine(setRoot_pg PB DB M n' c.h sv c.F t i k m hi hk hm w h2).mono ?_
 rintro e w' ⟨rfl,p,g⟩
 exact⟨rfl,⟨⟨n',by omega,p⟩,dk_off h3 h4 h5 g,h4,h5⟩,.inl rfl,grX_three g⟩
theorem read_s(h:PgS w PB DB M n c sv t d)(k:Int):Calls Tryz.prog 170 #[.pointer (some ⟨PB,0,none⟩),.int .i64 k] w (Ret w (if inUse c.h k then .tuple #[.string (pageNow d.pg c.F k.toNat),.nilIface]else .tuple #[.string ⟨#[]⟩,.iface 24 (.int .i64 2)])):=by
 obtain⟨⟨n',h1,h2⟩,h3,h4,h5⟩:=h
 cases hu:inUse c.h k with
 |false=>exact read_bad_pg PB DB M n' c.h sv c.F false t k w h2 hu
 |true=>
  obtain⟨m,rfl,hm⟩:=inUse_iff.1 hu
  exact read_pg PB DB M n' c.h sv c.F t d.pg d.cut d.left d.torn m w h2 h3 hu
theorem root_s(h:PgS w PB DB M n c sv t d)(k:Nat)(hk:k<8):Calls Tryz.prog 83 #[.pointer (some ⟨PB,0,none⟩),.int .i64 k] w (Ret w (.tuple #[.int .i64 (c.h.roots k),.int .i64 (c.h.notes k),.nilIface])):=by
 obtain⟨⟨n',h1,h2⟩,_⟩:=h
 exact root_pg PB DB M n' c.h sv c.F false t k hk w h2
end
def dk0:Dk:=⟨fun _=>⟨#[]⟩,false,0,0⟩
def headZ:Head:=⟨fun i=>i==0,fun _=>0,fun _=>0⟩
theorem headZ_fine:headZ.fine:=⟨rfl,fun _ _=>⟨by show(0:Int)<=0;omega,by show(0:Int)<2000;omega⟩,fun _ _=>⟨by show(0:Int)<=0;omega,by show(0:Int)<65536;omega⟩⟩
theorem pgGet_empty(k:Nat):pgGet dk0.pg k=zerosB:=by
 unfold pgGet
 rw[if_pos]
 rw[ByteArray.toList_eq]
 rfl
theorem headD_zero:headD dk0.pg=headZ:=by
 unfold headD
 rw[pgGet_empty]
 unfold readsF headZ fromF
 congr 1
 ·funext i
  rw[zeros_getD]
  simp
 ·funext i
  rw[zeros_getD,zeros_getD]
  rfl
 ·funext i
  rw[zeros_getD,zeros_getD]
  rfl
structure Clean(d:Dk)(sv:Head):Prop where
 whole:d.whole
 log:pgGet d.pg 2000=zerosB
 head:(headD d.pg).same sv
 fine:sv.fine
theorem clean0:Clean dk0 headZ:=⟨fun k _=>by rw[pgGet_empty];exact zerosB_sz,pgGet_empty _,by rw[headD_zero];exact Head.same.refl _,headZ_fine⟩
theorem Clean.openE{d:Dk}{sv:Head}(h:Clean d sv):openE d.pg=[]:=by
 unfold Go.Proofs.YtldmhjbdahjhdaaGreatDoor.openE
 rw[if_pos (logged_zeros h.log)]
theorem zero_disk:Tryz.zeroCells89=Array.replicate 4001 (.string ⟨#[]⟩)++#[.bool false,.int .i64 0,.int .i64 0]:=by kernel_rfl
theorem disk_made(w:World):DkAt (w.alloc (.cells Tryz.zeroCells89 89)) w.heap.size dk0:=by
 rw[zero_disk]
 refine⟨fun k hk=>?_,?_,?_,?_,fun o=>by simp⟩
 ·rw[World.cell?_alloc_new,Array.getElem?_append_left (by simpa using hk)]
  simp[hk,dk0]
 all_goals
  rw[World.cell?_alloc_new,Array.getElem?_append_right (by simp)]
  simp[dk0]
theorem open_s(DB:Nat)(d:Dk)(sv:Head)(w:World)(hd:DkAt w DB d)(hc:Clean d sv)(hl:-890000<=d.left/\d.left<=1000000):
  Calls Tryz.prog 35 #[.pointer (some ⟨DB,0,none⟩)] w fun e w'=>∃PB M,e=.returned (.tuple #[.pointer (some ⟨PB,0,none⟩),.nilIface])/\PgS w' PB DB M 0 (.new (headD d.pg)) (headD d.pg) 0 d/\w.heap.size<=PB/\w.heap.size<=M/\GrX (fun b=>b=DB) w w':=by
 have hlt:=hd.lt
 refine(open_g DB d w hd hc.whole hl).mono ?_
 rintro e w' ⟨h1,h2,h3⟩
 rw[hc.openE]at h1 h3
 rw[wrsD_nil]at h1 h3
 rw[if_pos rfl]at h3
 obtain⟨PB,M,rfl,h4,h5,h6⟩:=h3
 exact⟨PB,M,rfl,⟨⟨0,Nat.le_refl _,h4⟩,h1,by omega,by omega⟩,h5,h6,h2⟩
