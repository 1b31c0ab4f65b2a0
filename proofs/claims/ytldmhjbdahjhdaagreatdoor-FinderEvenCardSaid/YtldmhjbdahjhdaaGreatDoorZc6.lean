/-
  Part 6 of the proof.
-/
import Derived.Test.YtldmhjbdahjhdaaGreatDoorZc5
set_option maxRecDepth 100000
set_option maxHeartbeats 100000000
set_option linter.all false
namespace Go.Proofs.YtldmhjbdahjhdaaGreatDoor
section
open Go Go.RowKit Go.Lib
def nodeV(p:Nat)(leaf:Bool)(s:Value):Value:=.agg #[.int .i64 (p:Int),.bool leaf,s]
theorem size_n(p:Nat)(leaf:Bool)(s:Value)(e:En)(h:e.ok leaf)(w:World):Calls Tryz.prog 292 #[nodeV p leaf s,e.val] w (Ret w (.int .i64 (e.sz leaf:Nat))):=by
 have hk:=h.key
 have hi:=h.item
 obtain⟨key,item,page⟩:=e
 simp only at hk hi
 unfold nodeV En.val En.sz
 obtain⟨a,ha⟩:∃a,key.size=a:=⟨_,rfl⟩
 obtain⟨b,hb⟩:∃b,item.size=b:=⟨_,rfl⟩
 have hg:Gr w ((w.alloc (.cells #[.int .i64 (p:Int),.bool leaf,s] 200)).alloc (.cells #[.string key,.string item,.int .i64 (page:Int)] 206)):=((Gr.refl w).alloc _).alloc _
 simp only[ha,hb]
 cases leaf with
 |true=>
  go_enter Tryz.func292,Tryz.ntmps292
  go_wp2_with fail
  go_ret
  refine Ret.mk ?_ hg
  simp only[ha,hb]
  go_num
 |false=>
  go_enter Tryz.func292,Tryz.ntmps292
  go_wp2_with fail
  go_ret
  refine Ret.mk ?_ hg
  simp only[ha]
  go_num
theorem sumE_take_next(leaf:Bool)(l:List En)(i:Nat)(h:i<l.length):sumE leaf (l.take (i+1))=sumE leaf (l.take i)+(l[i]).sz leaf:=by
 rw[List.take_succ_eq_append_getElem h,sumE_append]
 simp[sumE]
theorem sumE_le(leaf:Bool):∀l:List En,(∀e∈l,e.ok leaf)->sumE leaf l<=162*l.length
 |[],_=>by simp[sumE]
 |e::l,h=>by
  have h1:=sumE_le leaf l fun x hx=>h x (List.mem_cons_of_mem _ hx)
  have h2:=En.sz_le (h e List.mem_cons_self)
  rw[sumE_cons,List.length_cons]
  omega
theorem bytes_n(p:Nat)(leaf:Bool)(s:Value)(l:List En)(w:World)(h:IsE w s l)(hok:∀e∈l,e.ok leaf)(hl:l.length<=10000):Calls Tryz.prog 291 #[nodeV p leaf s] w (Ret w (.int .i64 (bytesE leaf l:Nat))):=by
 have H:=Lib.hid h
 have HOK:=Lib.hid hok
 obtain⟨ao,ca,rfl⟩:=h.form
 unfold nodeV
 have hg0:Gr w (w.alloc (.cells #[.int .i64 (p:Int),.bool leaf,.slice ao l.length ca] 200)):=(Gr.refl w).alloc _
 have c0:∀w',Gr (w.alloc (.cells #[.int .i64 (p:Int),.bool leaf,.slice ao l.length ca] 200)) w'->w'.cell? ⟨w.heap.size,0,none⟩=some (.int .i64 (p:Int))/\w'.cell? ⟨w.heap.size,1,none⟩=some (.bool leaf)/\w'.cell? ⟨w.heap.size,2,none⟩=some (.slice ao l.length ca):=fun w' g=>⟨g.keeps (by rw[World.cell?_alloc_new];rfl),g.keeps (by rw[World.cell?_alloc_new];rfl),g.keeps (by rw[World.cell?_alloc_new];rfl)⟩
 have C0:=Lib.hid c0
 have HG0:=Lib.hid hg0
 clear h hok c0 hg0
 go_enter Tryz.func291,Tryz.ntmps291
 go_wp2_with fail
 obtain⟨NB,hNB⟩:∃NB,w.heap.size=NB:=⟨_,rfl⟩
 obtain⟨W0,hW0⟩:∃W0,w.alloc (.cells #[.int .i64 (p:Int),.bool leaf,.slice ao l.length ca] 200)=W0:=⟨_,rfl⟩
 rw[hNB]at C0⊢
 rw[hW0]at C0 HG0⊢
 clear hNB hW0
 go_loopw [3,9] (fun kv iv w'=>∃i:Nat,i<=l.length/\iv=.int .i64 i/\kv=.int .i64 (bytesE leaf (l.take i):Nat)/\Gr W0 w') (fun _ iv _=>l.length-(RowKit.intOf iv).toNat)
 case atStart=>exact⟨0,Nat.zero_le _,rfl,rfl,Gr.refl _⟩
 case round=>
  obtain⟨i,hi,rfl,rfl,hg⟩:=hrel
  obtain⟨n0,n1,n2⟩:=C0.out _ hg
  have HG:=Lib.hid hg
  by_cases hlt:i<l.length
  ·obtain⟨b,off,rfl,hb,hp⟩:∃b off,ao=some ⟨b,off,none⟩/\b<w.heap.size/\EntsAt w b off l:=by
    rcases H.out with⟨_,e2⟩|⟨b,off,c,e,hb,hp⟩
    ·rw[e2]at hlt
     exact absurd hlt (by simp)
    ·cases e
     exact⟨b,off,rfl,hb,hp⟩
   have hil:(i:Int)<(l.length:Int):=by omega
   obtain⟨c1,c2,c3⟩:=(hp.gr (HG0.out.trans hg)) i hlt
   have hnx:=sumE_take_next leaf l i hlt
   have hsz:=En.sz_le (HOK.out l[i] (List.getElem_mem hlt))
   have hse:=sumE_le leaf (l.take i) fun e he=>HOK.out e (List.mem_of_mem_take he)
   have hln:(l.take i).length<=10000:=by rw[List.length_take];omega
   have hcs:=size_n p leaf (.slice (some ⟨b,off,none⟩) l.length ca) l[i] (HOK.out l[i] (List.getElem_mem hlt))
   have hgb:Gr wr (wr.alloc (.cells #[.string l[i].key,.string l[i].item,.int .i64 (l[i].page:Int)] 206)):=(Gr.refl wr).alloc _
   have m0:=hgb.keeps n0
   have m1:=hgb.keeps n1
   have m2:=hgb.keeps n2
   have HGB:=Lib.hid hgb
   unfold nodeV En.val at hcs
   obtain⟨S,hS⟩:∃S,bytesE leaf (l.take i)=S:=⟨_,rfl⟩
   have hS2:bytesE leaf (l.take (i+1))=S+(l[i]).sz leaf:=by
    rw[<-hS]
    unfold bytesE
    omega
   have hSb:S<=2000000:=by
    rw[<-hS]
    unfold bytesE
    omega
   rw[hS]
   have HS2:=Lib.hid hS2
   generalize l[i].sz leaf=z at*
   generalize l[i].key=ky at*
   generalize l[i].item=it at*
   generalize(l[i].page:Int)=pgi at*
   clear hp hnx hse hln hS hS2 hg
   go_wp2_with fail
   refine(hcs _).mono ?_
   rintro e w3 ⟨rfl,hg3⟩
   have HG3:=Lib.hid ((HG.out.trans HGB.out).trans hg3)
   clear hg3 hcs
   go_wp2_with fail
   exact⟨⟨i+1,by omega,by go_num,by rw[HS2.out];go_num,HG3.out⟩,by simp[RowKit.intOf];omega⟩
  ·have hii:i=l.length:=by omega
   subst hii
   rw[List.take_length]
   clear hg n0 n1 n2
   go_wp2_with fail
   go_ret
   exact Ret.mk rfl (HG0.out.trans HG.out)
end
section
open Go Go.RowKit
theorem find1(e:En)(key:ByteArray)(w:World):Calls Tryz.prog 172 #[e.val,.string key] w (Ret w (.int .i64 (cmpB e.key key))):=by
 obtain⟨ky,it,pgi⟩:=e
 unfold En.val cmpB
 have hg:Gr w (w.alloc (.cells #[.string ky,.string it,.int .i64 (pgi:Int)] 206)):=(Gr.refl w).alloc _
 go_enter Tryz.func172,Tryz.ntmps172
 go_wp2_with(go_at_call 173;refine(Tryz.strings_Compare _ _ _).mono ?_;rintro e w' ⟨rfl,rfl⟩)
 go_ret
 exact Ret.mk rfl hg
theorem bsI_same(lt:Nat->Bool):∀f i,bsI lt f i i=i
 |0,_=>rfl
 |f+1,i=>by
  unfold bsI
  rw[if_neg (Nat.lt_irrefl i)]
def keysE(l:List En):List ByteArray:=l.map En.key
theorem search_n(l:List En)(s:Value)(key:ByteArray)(w:World)(h:IsE w s l)(hl:l.length<=10000):
  Calls Tryz.prog 171 #[s,.string key,.func (.func 172) #[] #[]] w (Ret w (.tuple #[.int .i64 (searchE (keysE l) key:Nat),.bool (hitE (keysE l) key)])):=by
 have H:=Lib.hid h
 obtain⟨ao,ca,rfl⟩:=h.form
 have eg:∀args w,(callFunc 172 args).run Tryz.prog w=.ok (.enter 172 args) w:=enters_of Tryz.func172 (by kernel_rfl) rfl
 have hkl:(keysE l).length=l.length:=by unfold keysE;rw[List.length_map]
 have hkg:∀i (hi:i<l.length),(keysE l).getD i noB=l[i].key:=fun i hi=>by unfold keysE;simp[List.getD_eq_getElem?_getD,hi]
 have HKG:=Lib.hid hkg
 have HKL:=Lib.hid hkl
 clear h hkl hkg
 obtain⟨S,hS⟩:∃S,searchE (keysE l) key=S:=⟨_,rfl⟩
 obtain⟨T0,hT⟩:∃T0,hitE (keysE l) key=T0:=⟨_,rfl⟩
 have HS:=Lib.hid hS
 have HT:=Lib.hid hT
 rw[hS,hT]
 clear hS hT
 go_enter Tryz.func171,Tryz.ntmps171
 go_wp2_with fail
 go_loopw [9,10] (fun iv jv w'=>∃i j f:Nat,i<=j/\j<=l.length/\j-i<=f/\iv=.int .i64 i/\jv=.int .i64 j/\bsI (ltK (keysE l) key) f i j=S/\Gr w w') (fun iv jv _=>(RowKit.intOf jv).toNat-(RowKit.intOf iv).toNat)
 case atStart=>exact⟨0,l.length,l.length,Nat.zero_le _,Nat.le_refl _,by omega,rfl,rfl,by
  have:=HS.out
  unfold searchE at this
  rw[HKL.out]at this
  exact this,Gr.refl _⟩
 case round=>
  obtain⟨i,j,f,hij,hj,hf,rfl,rfl,hbs,hg⟩:=hrel
  by_cases hlt:i<j
  ·obtain⟨f',rfl⟩:∃f',f=f'+1:=⟨f-1,by omega⟩
   obtain⟨b,off,rfl,hb,hp⟩:∃b off,ao=some ⟨b,off,none⟩/\b<w.heap.size/\EntsAt w b off l:=by
    rcases H.out with⟨_,e2⟩|⟨b,off,c,e,hb,hp⟩
    ·rw[e2]at hj
     simp at hj
     omega
    ·cases e
     exact⟨b,off,rfl,hb,hp⟩
   have hijl:(i:Int)<(j:Int):=by omega
   obtain⟨m,hm⟩:∃m,(i+j)/2=m:=⟨_,rfl⟩
   have hml:m<l.length:=by omega
   have hmi:i<=m/\m<j:=by omega
   unfold bsI at hbs
   rw[if_pos hlt,hm]at hbs
   have hmid:(((i:Int)+(j:Int))/2)=(m:Int):=by omega
   have hml':(m:Int)<(l.length:Int):=by omega
   obtain⟨c1,c2,c3⟩:=(hp.gr hg) m hml
   have hlk:ltK (keysE l) key m=decide (cmpB l[m].key key<0):=by
    unfold ltK
    rw[HKG.out m hml]
   rw[hlk]at hbs
   have hc:=find1 l[m] key
   unfold En.val at hc
   generalize l[m].key=ky at*
   generalize l[m].item=it at*
   generalize(l[m].page:Int)=pgi at*
   have HBS:=Lib.hid hbs
   have HG:=Lib.hid hg
   clear hp hbs hlk hg
   go_wp2_with fail
   refine(hc wr).mono ?_
   rintro e w3 ⟨rfl,hg3⟩
   have HG3:=Lib.hid (HG.out.trans hg3)
   clear hg3 hc c1 c2 c3
   by_cases hcm:cmpB ky key<0
   ·have hb2:=HBS.out
    rw[decide_eq_true hcm,if_pos rfl]at hb2
    generalize cmpB ky key=q at*
    go_wp2_with fail
    exact⟨⟨m+1,j,f',by omega,hj,by omega,by go_num,rfl,hb2,HG3.out⟩,by simp[RowKit.intOf];omega⟩
   ·have hb2:=HBS.out
    rw[decide_eq_false hcm,if_neg (by simp)]at hb2
    generalize cmpB ky key=q at*
    go_wp2_with fail
    exact⟨⟨i,m,f',by omega,by omega,by omega,rfl,rfl,hb2,HG3.out⟩,by simp[RowKit.intOf];omega⟩
  ·have hij':i=j:=by omega
   subst hij'
   rw[bsI_same]at hbs
   subst hbs
   have hT:=HT.out
   unfold hitE at hT
   rw[HS.out,HKL.out]at hT
   by_cases hin:i<l.length
   ·obtain⟨b,off,rfl,hb,hp⟩:∃b off,ao=some ⟨b,off,none⟩/\b<w.heap.size/\EntsAt w b off l:=by
     rcases H.out with⟨_,e2⟩|⟨b,off,c,e,hb,hp⟩
     ·rw[e2]at hin
      exact absurd hin (by simp)
     ·cases e
      exact⟨b,off,rfl,hb,hp⟩
    have hil:(i:Int)<(l.length:Int):=by omega
    obtain⟨c1,c2,c3⟩:=(hp.gr hg) i hin
    rw[decide_eq_true hin,Bool.true_and,HKG.out i hin]at hT
    have hc:=find1 l[i] key
    unfold En.val at hc
    generalize l[i].key=ky at*
    generalize l[i].item=it at*
    generalize(l[i].page:Int)=pgi at*
    have HT2:=Lib.hid hT
    have HG:=Lib.hid hg
    clear hp hT hg HT HS
    go_wp2_with fail
    refine(hc wr).mono ?_
    rintro e w3 ⟨rfl,hg3⟩
    have HG3:=Lib.hid (HG.out.trans hg3)
    clear hg3 hc c1 c2 c3
    have hq0:(cmpB ky key==0)=T0:=by
     rw[<-HT2.out,Bool.eq_iff_iff]
     simp
    generalize cmpB ky key=q at*
    go_wp2_with fail
    go_ret2
    exact Ret.mk (by simp[hq0]) HG3.out
   ·rw[decide_eq_false hin,Bool.false_and]at hT
    have HT2:=Lib.hid hT
    have hil:¬(i:Int)<(l.length:Int):=by omega
    clear hT HT HS
    go_wp2_with fail
    go_ret2
    exact Ret.mk (by rw[<-HT2.out];rfl) hg
theorem find_n(p:Nat)(leaf:Bool)(l:List En)(s:Value)(key:ByteArray)(w:World)(h:IsE w s l)(hl:l.length<=10000):
  Calls Tryz.prog 121 #[nodeV p leaf s,.string key] w (Ret w (.tuple #[.int .i64 (if leaf then searchE (keysE l) key else downE (keysE l) key:Nat),.bool (hitE (keysE l) key)])):=by
 have H:=Lib.hid h
 obtain⟨ao,ca,rfl⟩:=h.form
 unfold nodeV
 have hga:Gr w (w.alloc (.cells #[.int .i64 (p:Int),.bool leaf,.slice ao l.length ca] 200)):=(Gr.refl w).alloc _
 have hk:∀w',Gr (w.alloc (.cells #[.int .i64 (p:Int),.bool leaf,.slice ao l.length ca] 200)) w'->w'.cell? ⟨w.heap.size,1,none⟩=some (.bool leaf):=fun w' g=>g.keeps (by rw[World.cell?_alloc_new];rfl)
 have hs:=search_n l (.slice ao l.length ca) key _ (h.gr hga) hl
 have hle:=searchE_le (keysE l) key
 have hkl:(keysE l).length=l.length:=by unfold keysE;rw[List.length_map]
 rw[hkl]at hle
 have hd:downE (keysE l) key=if hitE (keysE l) key then searchE (keysE l) key else searchE (keysE l) key-1:=rfl
 rw[hd]
 have HK:=Lib.hid hk
 have HS:=Lib.hid hs
 clear h hk hs hd hkl
 generalize searchE (keysE l) key=S at*
 generalize hitE (keysE l) key=T0 at*
 cases leaf with
 |true=>
  go_enter Tryz.func121,Tryz.ntmps121
  go_wp2_with fail
  refine HS.out.mono ?_
  rintro e w3 ⟨rfl,hg3⟩
  have k1:=HK.out _ hg3
  have HG:=Lib.hid (hga.trans hg3)
  clear hg3 HS HK hga
  go_wp2_with fail
  go_ret2
  exact Ret.mk (by simp) HG.out
 |false=>
  cases T0 with
  |true=>
   go_enter Tryz.func121,Tryz.ntmps121
   go_wp2_with fail
   refine HS.out.mono ?_
   rintro e w3 ⟨rfl,hg3⟩
   have k1:=HK.out _ hg3
   have HG:=Lib.hid (hga.trans hg3)
   clear hg3 HS HK hga
   go_wp2_with fail
   go_ret2
   exact Ret.mk (by simp) HG.out
  |false=>
   have hmx:max ((S:Int)-1) 0=((S-1:Nat):Int):=by omega
   obtain⟨S1,hS1⟩:∃S1,S-1=S1:=⟨_,rfl⟩
   rw[hS1]at hmx
   simp only[Bool.false_eq_true,if_false,hS1]
   go_enter Tryz.func121,Tryz.ntmps121
   go_wp2_with fail
   refine HS.out.mono ?_
   rintro e w3 ⟨rfl,hg3⟩
   have k1:=HK.out _ hg3
   have HG:=Lib.hid (hga.trans hg3)
   clear hg3 HS HK hga
   go_wp2_with fail
   go_ret2
   exact Ret.mk (by simp) HG.out
def BufNot(b k:Nat)(w:World):Prop:=∀v,w.cell? ⟨b,1,none⟩=some v->v.ownBlock≠some k
def Apart(b:Nat)(w w':World):Prop:=w.heap.size<=w'.heap.size/\∀k,k<w.heap.size->k≠b->BufNot b k w->w'.heap[k]?=w.heap[k]?/\BufNot b k w'
theorem Apart.keeps{b k o:Nat}{w w':World}{u:Value}(h:Apart b w w')(hb:k≠b)(hn:BufNot b k w)(hc:w.cell? ⟨k,o,none⟩=some u):w'.cell? ⟨k,o,none⟩=some u:=
 (World.cell?_of_block (h.2 k (lt_of_cell hc) hb hn).1).trans hc
theorem bufNot_new{B b:Nat}{l:List UInt8}{w:World}(h:Bld B b l w)(o:Obj):BufNot b w.heap.size (w.alloc o):=by
 intro v hv e
 have key:∀p,Lib.BuilderAt 274 5 B b p (Lib.byteCells l) w->False:=fun p hp=>by
  obtain⟨_,u,h2,h3,_⟩:=hp
  have hlt:b<w.heap.size:=(Array.getElem?_eq_some_iff.1 h2).1
  have c1:w.cell? ⟨b,1,none⟩=some u:=by rw[Lib.cell_of_heap h2];rfl
  have c2:(w.alloc o).cell? ⟨b,1,none⟩=some u:=((Gr.refl w).alloc o).keeps c1
  rw[c2]at hv
  injection hv with hv
  rw[<-hv]at e
  have:=(h3.lt _ e).2
  omega
 rcases h with h|h
 ·exact key _ h
 ·exact key _ h
def BytesAt(w:World)(g:Nat)(l:List UInt8):Prop:=∀j (h:j<l.length),w.cell? ⟨g,j,none⟩=some (byteV l[j])
theorem copyCheck_x(B b:Nat)(bs:List Value)(w:World)(h:Lib.IsBuilder 274 5 B b bs w):
  Calls Tryz.prog 247 #[.pointer (some ⟨b,0,none⟩)] w fun e w'=>e=.returned (.tuple #[])/\Lib.BuilderAt 274 5 B b (.pointer (some ⟨b,0,none⟩)) bs w'/\Below B w w'/\GrX (fun k=>k=b) w w'/\w'.cell? ⟨b,1,none⟩=w.cell? ⟨b,1,none⟩:=by
 obtain⟨j,hj,hjs⟩:=Option.map_eq_some_iff.1 bld_info
 rcases h with h|h
 ·have h0:=h.cell0
  have hf:=h.frozen0
  have hu:=Lib.run_to_unsafe (P:=Tryz.prog) (w:=w) ⟨b,0,none⟩ Tryz.underlying272 Tryz.underlying252 hj (by rw[hjs];decide) h.shape (Nat.zero_lt_succ 1)
  have hv:=Lib.run_from_unsafe (P:=Tryz.prog) (w:=w) ⟨b,0,none⟩ Tryz.underlying252 Tryz.underlying272 hj h.shape bld_lies
  have H:=Lib.hid h
  clear h
  go_enter Tryz.func247,Tryz.ntmps247
  go_wp2_with fail
  rw[run_callFunc_extern Tryz.func286 (by kernel_rfl) (by kernel_rfl) (by kernel_rfl) (e:=Extern.AbiNoEscape.same) (by kernel_rfl),Lib.run_noEscape]
  simp only[Result.andThen]
  rw[Oper.upon_value]
  go_wp2_with fail
  refine bodyPost_end (v:=.tuple #[]) (by simp[results,Tryz.results247,go_sem]) rfl ?_
  exact⟨rfl,H.out.used _,(Below.refl B w).setCell (p:=⟨b,0,none⟩) H.out.1 _,GrX.setCell (S:=fun k=>k=b) (p:=⟨b,0,none⟩) w _ rfl,World.cell?_setCell_other _ _ _ _ (by simp)⟩
 ·have h0:=h.cell0
  have hn:=Lib.run_neq_ptr_same (P:=Tryz.prog) (w:=w) ⟨b,0,none⟩ Tryz.underlying272 hj
  have H:=Lib.hid h
  clear h
  go_enter Tryz.func247,Tryz.ntmps247
  go_wp2_with fail
  refine bodyPost_end (v:=.tuple #[]) (by simp[results,Tryz.results247,go_sem]) rfl ?_
  exact⟨rfl,H.out,Below.refl B _,GrX.refl _ _,rfl⟩
theorem write_b(B b g c:Nat)(l m:List UInt8)(w:World)(h:Bld B b l w)(hl:l.length+m.length<=1000000)(hB:B<=w.heap.size)(hm:BytesAt w g m)(hgb:g≠b):
  Calls Tryz.prog 288 #[.pointer (some ⟨b,0,none⟩),.slice (some ⟨g,0,none⟩) m.length c] w fun e w'=>e=.returned (.tuple #[.int .i64 m.length,.nilIface])/\Bld B b (l++m) w'/\Below B w w'/\Apart b w w':=by
 obtain⟨i0,hi,hz0,hz1,hz2⟩:=info_parts info_u8b
 have H:=Lib.hid h
 have HM:=Lib.hid hm
 clear h hm
 obtain⟨n,hn⟩:∃n,m.length=n:=⟨_,rfl⟩
 rw[hn]
 have HN:=Lib.hid hn
 rw[hn]at hl
 clear hn
 go_enter Tryz.func288,Tryz.ntmps288
 go_wp2_with fail
 refine(copyCheck_x B b _ w H.out).mono ?_
 rintro e w1 ⟨rfl,h1,hb1,hx1,hc1⟩
 have HC1:=Lib.hid hc1
 clear hc1
 have H1:=Lib.hid h1
 obtain⟨hBb,v,hbk,hown,hne⟩:=h1
 have hlen:(Lib.byteCells l).length=l.length:=Lib.byteCells_length l
 have hlm:(Lib.byteCells m).length=n:=by rw[Lib.byteCells_length,HN.out]
 have c0:w1.cell? ⟨b,0,none⟩=some (.pointer (some ⟨b,0,none⟩)):=by rw[Lib.cell_of_heap hbk];rfl
 have c1:w1.cell? ⟨b,1,none⟩=some v:=by rw[Lib.cell_of_heap hbk];rfl
 have hsz:=hb1.size
 have hnew:∀j u,(Lib.byteCells m)[j]?=some u->w1.cell? ((⟨g,0,none⟩:Addr).add j)=some u:=by
  intro j u hj
  have hjl:j<m.length:=by
   have:=(List.getElem?_eq_some_iff.1 hj).1
   rwa [Lib.byteCells_length]at this
  rw[Addr.add_lit,Nat.zero_add,hx1.keeps hgb (HM.out j hjl),<-hj]
  simp[Lib.byteCells,byteV,hjl]
 go_wp2_with(at_builtin;refine wpList_append_own_at _ rfl _ _ 188 rfl B 5 i0 (.int .u8 0) 1 1 Tryz.underlying188 hi hz0 hz1 hz2 rfl (by decide) _ _ _ rfl hown ⟨g,0,none⟩ n c (Lib.byteCells m) rfl (by rw[hlm,Nat.mul_one]) hnew (fun u hu=>by simp[Lib.byteCells]at hu;obtain⟨x,_,rfl⟩:=hu;rfl) (by unfold maxLen;omega) (by omega) (by omega) ?_)
 intro v' w2 hown' hgrow _ hat
 have hb2:=bld_old hbk hgrow rfl hne
 have d0:w2.cell? ⟨b,0,none⟩=some (.pointer (some ⟨b,0,none⟩)):=by rw[Lib.cell_of_heap hb2];rfl
 have d1:w2.cell? ⟨b,1,none⟩=some v:=by rw[Lib.cell_of_heap hb2];rfl
 have f1:w2.frozen? ⟨b,1,none⟩=false:=Lib.frozen_of_heap hb2 1
 have hput:Lib.BuilderAt 274 5 B b (.pointer (some ⟨b,0,none⟩)) (Lib.byteCells (l++m)) (w2.setCell ⟨b,1,none⟩ v'):=by
  refine Lib.BuilderAt.put hBb hb2 ?_ bld_ne
  rw[Lib.byteCells_append,List.length_append,Lib.byteCells_length m,Lib.byteCells_length l,HN.out]
  exact hown'
 have hbel:=(hb1.grown hgrow (by omega) (fun k hk=>(hown.lt k hk).1)).setCell (p:=⟨b,1,none⟩) hBb v'
 have hap:Apart b w (w2.setCell ⟨b,1,none⟩ v'):=by
  have hs1:=hx1.2.2.2.1
  have hs2:=hgrow.size
  refine⟨by simp;omega,fun k hk hb hn=>⟨?_,fun u hu e=>?_⟩⟩
  ·have e1:(w2.setCell ⟨b,1,none⟩ v').heap[k]?=w2.heap[k]?:=Below.heap_setCell _ _ _ _ (fun e=>hb e)
   have hnv:v.ownBlock≠some k:=hn v (HC1.out.symm.trans c1)
   exact e1.trans ((hgrow.block k (by omega) (fun e=>hnv e.symm)).trans (hx1.block hk hb))
  ·rw[World.cell?_setCell_same _ _ _ d1]at hu
   injection hu with hu
   rw[<-hu]at e
   have hnv:v.ownBlock≠some k:=hn v (HC1.out.symm.trans c1)
   rcases hat with h|h
   ·rw[h]at e;exact hnv e
   ·rw[h]at e
    have:=Option.some.inj e
    omega
 have HP:=Lib.hid hput
 have HB:=Lib.hid hbel
 have HAP:=Lib.hid hap
 clear hput hbel hap
 obtain⟨ao,n',cap,rfl⟩:∃ao n' cap,v'=.slice ao n' cap:=by
  rcases hown'.2 with⟨hv,_⟩|⟨g,cap,cur,hv,_⟩
  ·exact⟨_,_,_,hv⟩
  ·exact⟨_,_,_,hv⟩
 clear hown hown' hgrow hb2 hbk hat
 go_wp2_with fail
 go_ret2
 exact⟨rfl,.inr HP.out,HB.out,HAP.out⟩
theorem writeByte_x(B b:Nat)(l:List UInt8)(c:UInt8)(w:World)(h:Bld B b l w)(hl:l.length+1<=1000000)(hB:B<=w.heap.size):
  Calls Tryz.prog 244 #[.pointer (some ⟨b,0,none⟩),.int .u8 (c.toNat:Int)] w fun e w'=>e=.returned .nilIface/\Bld B b (l++[c]) w'/\Below B w w'/\Apart b w w':=by
 obtain⟨i0,hi,hz0,hz1,hz2⟩:=info_parts info_u8b
 have H:=Lib.hid h
 clear h
 generalize hq:((c.toNat:Nat):Int)=q
 have HQ:=Lib.hid hq
 clear hq
 go_enter Tryz.func244,Tryz.ntmps244
 go_wp2_with fail
 refine(copyCheck_x B b _ w H.out).mono ?_
 rintro e w1 ⟨rfl,h1,hb1,hx1,hc1⟩
 have HC1:=Lib.hid hc1
 clear hc1
 have H1:=Lib.hid h1
 obtain⟨hBb,v,hbk,hown,hne⟩:=h1
 have hlen:(Lib.byteCells l).length=l.length:=Lib.byteCells_length l
 have c0:w1.cell? ⟨b,0,none⟩=some (.pointer (some ⟨b,0,none⟩)):=by rw[Lib.cell_of_heap hbk];rfl
 have c1:w1.cell? ⟨b,1,none⟩=some v:=by rw[Lib.cell_of_heap hbk];rfl
 have hsz:=hb1.size
 have hnew:∀j u,([Value.int .u8 q])[j]?=some u->(w1.alloc (.cells #[.int .u8 q] 5)).cell? ((⟨w1.heap.size,0,none⟩:Addr).add j)=some u:=by
  intro j u hj
  match j,hj with
  |0,hj=>simp at hj;subst hj;simp[Addr.add]
 go_wp2_with(at_builtin;refine wpList_append_own_at _ rfl _ _ 188 rfl B 5 i0 (.int .u8 0) 1 1 Tryz.underlying188 hi hz0 hz1 hz2 rfl (by decide) _ _ _ rfl (hown.alloc _) ⟨w1.heap.size,0,none⟩ 1 1 [.int .u8 q] rfl rfl hnew (by intro u hu;simp at hu;subst hu;rfl) (by unfold maxLen;omega) (by omega) (by simp;omega) ?_)
 intro v' w2 hown' hgrow _ hat
 have hb2:=bld_old (v:=v) ((Below.heap_alloc w1 (.cells #[.int .u8 q] 5) b (Array.getElem?_eq_some_iff.1 hbk).1).trans hbk) hgrow rfl hne
 have d0:w2.cell? ⟨b,0,none⟩=some (.pointer (some ⟨b,0,none⟩)):=by rw[Lib.cell_of_heap hb2];rfl
 have d1:w2.cell? ⟨b,1,none⟩=some v:=by rw[Lib.cell_of_heap hb2];rfl
 have f1:w2.frozen? ⟨b,1,none⟩=false:=Lib.frozen_of_heap hb2 1
 have hput:Lib.BuilderAt 274 5 B b (.pointer (some ⟨b,0,none⟩)) (Lib.byteCells (l++[c])) (w2.setCell ⟨b,1,none⟩ v'):=by
  refine Lib.BuilderAt.put hBb hb2 ?_ bld_ne
  rw[Lib.byteCells_append,List.length_append,Lib.byteCells_length [c]]
  have e:Lib.byteCells [c]=[.int .u8 q]:=by
   rw[<-HQ.out]
   rfl
  rw[e,Lib.byteCells_length l]
  exact hown'
 have hbel:=((hb1.alloc (by omega) (.cells #[.int .u8 q] 5)).grown hgrow (by simp;omega) (fun k hk=>(hown.lt k hk).1)).setCell (p:=⟨b,1,none⟩) hBb v'
 have hap:Apart b w (w2.setCell ⟨b,1,none⟩ v'):=by
  have hs1:=hx1.2.2.2.1
  have hs2:=hgrow.size
  simp only[World.size_alloc]at hs2
  refine⟨by simp;omega,fun k hk hb hn=>⟨?_,fun u hu e=>?_⟩⟩
  ·have e1:(w2.setCell ⟨b,1,none⟩ v').heap[k]?=w2.heap[k]?:=Below.heap_setCell _ _ _ _ (fun e=>hb e)
   have hnv:v.ownBlock≠some k:=hn v (HC1.out.symm.trans c1)
   have e2:=hgrow.block k (by simp;omega) (fun e=>hnv e.symm)
   exact e1.trans (e2.trans ((Below.heap_alloc w1 _ k (by omega)).trans (hx1.block hk hb)))
  ·rw[World.cell?_setCell_same _ _ _ d1]at hu
   injection hu with hu
   rw[<-hu]at e
   have hnv:v.ownBlock≠some k:=hn v (HC1.out.symm.trans c1)
   rcases hat with h|h
   ·rw[h]at e;exact hnv e
   ·rw[h]at e
    have:=Option.some.inj e
    first|omega|(simp at this;omega)
 have HP:=Lib.hid hput
 have HB:=Lib.hid hbel
 have HAP:=Lib.hid hap
 clear hput hbel hap
 obtain⟨ao,n',cap,rfl⟩:∃ao n' cap,v'=.slice ao n' cap:=by
  rcases hown'.2 with⟨hv,_⟩|⟨g,cap,cur,hv,_⟩
  ·exact⟨_,_,_,hv⟩
  ·exact⟨_,_,_,hv⟩
 clear hown hown' hgrow hb2 hbk hat
 go_wp2_with fail
 go_ret
 exact⟨rfl,.inr HP.out,HB.out,HAP.out⟩
theorem restE_next(leaf:Bool)(l:List En)(i:Nat)(h:i<l.length):restE leaf (l.take (i+1))=restE leaf (l.take i)++(l[i]).txt leaf:=by
 unfold restE
 rw[List.take_succ_eq_append_getElem h,List.flatMap_append]
 simp
def kindE(leaf:Bool):UInt8:=if leaf then 1 else 2
def headE(leaf:Bool)(n:Nat):List UInt8:=kindE leaf::two8 (n:Int)
theorem u8_of(n:Nat):((n.toUInt8.toNat:Nat):Int)=(n:Int) % 256:=by
 simp
theorem two8_nat(n:Nat)(h:n<65536):two8 (n:Int)=[(n/256).toUInt8,n.toUInt8]:=by
 unfold two8
 have e1:(((n:Int)/256) % 256).toNat=n/256:=by omega
 have e2:((n:Int) % 256).toNat=n % 256:=by omega
 rw[e1,e2]
 congr 2
 apply UInt8.toNat_inj.1
 simp
theorem bld_lt{B b:Nat}{l:List UInt8}{w:World}(h:Bld B b l w):b<w.heap.size:=by
 rcases h with⟨_,_,h2,_⟩|⟨_,_,h2,_⟩
 ·exact(Array.getElem?_eq_some_iff.1 h2).1
 ·exact(Array.getElem?_eq_some_iff.1 h2).1
theorem gr_below{A0 W W':World}{B:Nat}(h:Gr A0 W)(hB:A0.heap.size=B)(k:Below B W W'):Gr A0 W':=by
 subst hB
 exact Below.trans h k
theorem add_two(s t:ByteArray)(h:s.size+t.size<=100000000000):∀w,(Op.stringOp .add s t).run Tryz.prog w=.ok (.string ⟨(s.data.toList++t.data.toList).toArray⟩) w:=fun w=>by
 have h1:s=⟨s.data.toList.toArray⟩:=bytes_ext (by simp)
 have h2:t=⟨t.data.toList.toArray⟩:=bytes_ext (by simp)
 have:=add_bytes s.data.toList t.data.toList (by rw[<-size_data,<-size_data];exact h) w
 rw[<-h1,<-h2]at this
 exact this
theorem text_n(p:Nat)(leaf:Bool)(l:List En)(s:Value)(w:World)(h:IsE w s l)(hok:∀e∈l,e.ok leaf)(hb:bytesE leaf l<=1024):
  Calls Tryz.prog 252 #[nodeV p leaf s] w (Ret w (.string (pageE leaf l))):=by
 have H:=Lib.hid h
 have HOK:=Lib.hid hok
 obtain⟨ao,ca,rfl⟩:=h.form
 have hl2:=sumE_len leaf l
 have hl:l.length<=600:=by unfold bytesE at hb;omega
 unfold nodeV
 have hg0:Gr w (w.alloc (.cells #[.int .i64 (p:Int),.bool leaf,.slice ao l.length ca] 200)):=(Gr.refl w).alloc _
 have c0:∀w',Gr (w.alloc (.cells #[.int .i64 (p:Int),.bool leaf,.slice ao l.length ca] 200)) w'->w'.cell? ⟨w.heap.size,1,none⟩=some (.bool leaf)/\w'.cell? ⟨w.heap.size,2,none⟩=some (.slice ao l.length ca):=fun w' g=>⟨g.keeps (by rw[World.cell?_alloc_new];rfl),g.keeps (by rw[World.cell?_alloc_new];rfl)⟩
 have hsz0:(w.alloc (.cells #[.int .i64 (p:Int),.bool leaf,.slice ao l.length ca] 200)).heap.size=w.heap.size+1:=by simp
 have C0:=Lib.hid c0
 have HG0:=Lib.hid hg0
 have hbl:=Bld.new (w.alloc (.cells #[.int .i64 (p:Int),.bool leaf,.slice ao l.length ca] 200))
 have hga:=(Gr.refl (w.alloc (.cells #[.int .i64 (p:Int),.bool leaf,.slice ao l.length ca] 200))).alloc (.cells #[.pointer none,.slice none 0 0] 274)
 rw[hsz0]at hbl
 have HBL:=Lib.hid hbl
 have HGA:=Lib.hid hga
 obtain⟨b1,b2⟩:=c0 _ hga
 clear h hok hbl hga c0 hg0
 have HH:Hid (headE leaf l.length=[kindE leaf,(l.length/256).toUInt8,l.length.toUInt8]):=Lib.hid (by unfold headE;rw[two8_nat _ (by omega)])
 have hhi:IntKind.u8.wrap ((l.length:Int)/256)=(((l.length/256).toUInt8.toNat:Nat):Int):=by
  rw[u8_of]
  show(l.length:Int)/256 % 256=_
  omega
 have hlo:IntKind.u8.wrap (l.length:Int)=((l.length.toUInt8.toNat:Nat):Int):=(u8_of _).symm
 generalize(l.length/256).toUInt8=c1 at*
 generalize l.length.toUInt8=c2 at*
 cases leaf with
 |true=>
  have hwr:=fun W=>write_b (w.heap.size+1) (w.heap.size+1) (w.heap.size+1+1) 3 [] [1,c1,c2] W
  go_enter Tryz.func252,Tryz.ntmps252
  go_wp2_with fail
  refine(hwr _ (HBL.out.gr ((Gr.refl _).alloc _)) (by simp) (by simp) (fun j hj=>by
   have e1:w.heap.size+1+1=((w.alloc (.cells #[.int .i64 (p:Int),.bool true,.slice ao l.length ca] 200)).alloc (.cells #[.pointer none,.slice none 0 0] 274)).heap.size:=by simp
   rw[e1,World.cell?_alloc_new]
   match j,hj with
   |0,_=>rfl
   |1,_=>rfl
   |2,_=>rfl) (by omega)).mono ?_
  rintro e w1 ⟨rfl,hb1,hbel1,_⟩
  have hb1:Bld (w.heap.size+1) (w.heap.size+1) (headE true l.length++restE true (l.take 0)) w1:=by
   rw[HH.out]
   exact hb1
  have hga1:Gr (w.alloc (.cells #[.int .i64 (p:Int),.bool true,.slice ao l.length ca] 200)) w1:=by
   rw[<-hsz0]at hbel1
   exact Below.trans (HGA.out.alloc _) hbel1
  clear hwr hbel1
  generalize w.alloc (.cells #[.int .i64 (p:Int),.bool true,.slice ao l.length ca] 200)=A0 at*
  obtain⟨B,hB⟩:∃B,w.heap.size+1=B:=⟨_,rfl⟩
  obtain⟨NB,hNB⟩:∃NB,w.heap.size=NB:=⟨_,rfl⟩
  rw[hB]at hb1 hsz0 HBL⊢
  rw[hNB]at C0⊢
  have HBn:=Lib.hid hB
  clear hB hNB b1 b2
  obtain⟨b1,b2⟩:=C0.out _ hga1
  have HB1:=Lib.hid hb1
  have HA1:=Lib.hid hga1
  have HS0:=Lib.hid hsz0
  clear hb1 hga1 hsz0
  go_wp2_with fail
  go_loopw [24] (fun iv w'=>∃i:Nat,i<=l.length/\iv=.int .i64 i/\Bld B B (headE true l.length++restE true (l.take i)) w'/\Gr A0 w') (fun iv _=>l.length-(RowKit.intOf iv).toNat)
  case atStart=>exact⟨0,Nat.zero_le _,rfl,HB1.out,HA1.out⟩
  case round=>
   obtain⟨i,hi,rfl,hbl,hga⟩:=hrel
   obtain⟨b1,b2⟩:=C0.out _ hga
   have HBL2:=Lib.hid hbl
   have HGA2:=Lib.hid hga
   have HBs:Hid (B<=wr.heap.size):=Lib.hid (by have:=hga.size;rw[HS0.out]at this;exact this)
   clear hbl
   by_cases hlt:i<l.length
   ·obtain⟨b,off,rfl,hb,hp⟩:∃b off,ao=some ⟨b,off,none⟩/\b<w.heap.size/\EntsAt w b off l:=by
     rcases H.out with⟨_,e2⟩|⟨b,off,c,e,hb,hp⟩
     ·rw[e2]at hlt
      exact absurd hlt (by simp)
     ·cases e
      exact⟨b,off,rfl,hb,hp⟩
    have hil:(i:Int)<(l.length:Int):=by omega
    obtain⟨d1,d2,d3⟩:=(hp.gr (HG0.out.trans hga)) i hlt
    have hoke:=HOK.out l[i] (List.getElem_mem hlt)
    have HNX:Hid (headE true l.length++restE true (l.take (i+1))=(headE true l.length++restE true (l.take i))++(l[i]).txt true):=Lib.hid (by rw[restE_next true l i hlt,List.append_assoc])
    have hrl:(headE true l.length++restE true (l.take i)).length<=98000:=by
     rw[List.length_append,restE_len (fun e he=>HOK.out e (List.mem_of_mem_take he))]
     have h1:=sumE_le true (l.take i) fun e he=>HOK.out e (List.mem_of_mem_take he)
     rw[List.length_take]at h1
     have h2:(headE true l.length).length=3:=rfl
     omega
    have hksz:=hoke.key
    have hisz:=hoke.item
    have hpgz:=hoke.page
    generalize l[i]=en at*
    obtain⟨ky,it,pgi⟩:=en
    simp only at d1 d2 d3 hksz hisz hpgz
    generalize headE true l.length++restE true (l.take i)=acc at*
    have hgb:Gr wr (wr.alloc (.cells #[.string ky,.string it,.int .i64 (pgi:Int)] 206)):=(Gr.refl wr).alloc _
    have k0:(wr.alloc (.cells #[.string ky,.string it,.int .i64 (pgi:Int)] 206)).cell? ⟨wr.heap.size,0,none⟩=some (.string ky):=by rw[World.cell?_alloc_new];rfl
    have k1:(wr.alloc (.cells #[.string ky,.string it,.int .i64 (pgi:Int)] 206)).cell? ⟨wr.heap.size,1,none⟩=some (.string it):=by rw[World.cell?_alloc_new];rfl
    have k2:(wr.alloc (.cells #[.string ky,.string it,.int .i64 (pgi:Int)] 206)).cell? ⟨wr.heap.size,2,none⟩=some (.int .i64 (pgi:Int)):=by rw[World.cell?_alloc_new];rfl
    have bn:=bufNot_new HBL2.out (.cells #[.string ky,.string it,.int .i64 (pgi:Int)] 206)
    have hEB:wr.heap.size≠B:=by have:=bld_lt HBL2.out;omega
    have hbA:=hgb.keeps b1
    have hbB:=hgb.keeps b2
    have HB1:=Lib.hid (HBL2.out.gr hgb)
    have HGb:=Lib.hid (HGA2.out.trans hgb)
    have HBs1:Hid (B<=(wr.alloc (.cells #[.string ky,.string it,.int .i64 (pgi:Int)] 206)).heap.size):=Lib.hid (by have:=hgb.size;have:=HBs.out;omega)
    have BN:=Lib.hid bn
    have HADD:=add_two ky it (by omega)
    have hws:=fun(a:List UInt8) (W:World)=>writeString_b B B a ⟨(ky.data.toList++it.data.toList).toArray⟩ W
    have hwz:(⟨(ky.data.toList++it.data.toList).toArray⟩:ByteArray).size=ky.size+it.size:=by rw[ba_len,List.length_append,<-size_data,<-size_data]
    have hwd:(⟨(ky.data.toList++it.data.toList).toArray⟩:ByteArray).data.toList=ky.data.toList++it.data.toList:=by simp
    rw[hwd]at hws
    have hk8:IntKind.u8.wrap (ky.size:Int)=((ky.size.toUInt8.toNat:Nat):Int):=(u8_of _).symm
    have hi8:IntKind.u8.wrap (it.size:Int)=((it.size.toUInt8.toNat:Nat):Int):=(u8_of _).symm
    have HTX:Hid (En.txt ⟨ky,it,pgi⟩ true=[ky.size.toUInt8]++([it.size.toUInt8]++(ky.data.toList++it.data.toList))):=Lib.hid rfl
    generalize ky.size.toUInt8=q1 at*
    generalize it.size.toUInt8=q2 at*
    generalize ky.data.toList++it.data.toList=kt at*
    generalize(⟨kt.toArray⟩:ByteArray)=ks at*
    clear hp bn hga hgb hwd
    go_wp2_with fail
    refine(writeByte_x B B acc q1 _ HB1.out (by omega) HBs1.out).mono ?_
    rintro e w2 ⟨rfl,hb2,hbel2,hap2⟩
    have m1:=hap2.keeps hEB BN.out k1
    have m0:=hap2.keeps hEB BN.out k0
    have BN2:=Lib.hid (hap2.2 _ (lt_of_cell k0) hEB BN.out).2
    have HG2:=Lib.hid (gr_below HGb.out HS0.out hbel2)
    have HB2:=Lib.hid hb2
    have HBs2:Hid (B<=w2.heap.size):=Lib.hid (Nat.le_trans HBs1.out hbel2.size)
    obtain⟨b1,b2⟩:=C0.out _ HG2.out
    clear hb2 hbel2 hap2 k0 k1 k2 hbA hbB
    have hl2:(acc++[q1]).length+1<=1000000:=by rw[List.length_append];simp;omega
    go_wp2_with fail
    refine(writeByte_x B B _ q2 _ HB2.out hl2 HBs2.out).mono ?_
    rintro e w3 ⟨rfl,hb3,hbel3,hap3⟩
    have n1:=hap3.keeps hEB BN2.out m1
    have n0:=hap3.keeps hEB BN2.out m0
    have HG3:=Lib.hid (gr_below HG2.out HS0.out hbel3)
    have HB3:=Lib.hid hb3
    have HBs3:Hid (B<=w3.heap.size):=Lib.hid (Nat.le_trans HBs2.out hbel3.size)
    obtain⟨b1,b2⟩:=C0.out _ HG3.out
    clear hb3 hbel3 hap3 m0 m1
    have hl3:(acc++[q1]++[q2]).length+ks.size<=1000000:=by rw[List.length_append,List.length_append,hwz];simp;omega
    go_wp2_with fail
    refine(hws _ _ HB3.out hl3 HBs3.out).mono ?_
    rintro e w4 ⟨rfl,hb4,hbel4⟩
    have HG4:=Lib.hid (gr_below HG3.out HS0.out hbel4)
    have HB4:Hid (Bld B B (headE true l.length++restE true (l.take (i+1))) w4):=Lib.hid (by
     rw[HNX.out,HTX.out]
     simpa[List.append_assoc]using hb4)
    clear hb4 hbel4 hws
    go_wp2_with fail
    exact⟨⟨i+1,by omega,by go_num,HB4.out,HG4.out⟩,by simp[RowKit.intOf];omega⟩
   ·have hii:i=l.length:=by omega
    subst hii
    rw[List.take_length]at HBL2
    have hrl:=restE_len (leaf:=true) (l:=l) HOK.out
    have hln:(headE true l.length++restE true l).length=bytesE true l:=by
     rw[List.length_append,hrl]
     rfl
    have HPE:Hid (pageE true l=⟨((headE true l.length++restE true l)++List.replicate (1024-bytesE true l) 0).toArray⟩):=Lib.hid (by
     unfold pageE txtE headE kindE
     simp)
    generalize headE true l.length++restE true l=tx at*
    obtain⟨Z,hZ⟩:∃Z,bytesE true l=Z:=⟨_,rfl⟩
    rw[hZ]at hln hb HPE
    have hlb:(Lib.byteCells tx).length=Z:=by rw[Lib.byteCells_length,hln]
    have hst:=Tryz.Builder_String_any_f B B tx wr (Lib.IsBuilderF.of HBL2.out) HBs.out
    have hle:=fun W h=>Tryz.Builder_Len_f B B (Lib.byteCells tx) W h
    rw[hlb]at hle
    have hrp:∀W,Calls Tryz.prog 139 #[.string ⟨#[0]⟩,.int .i64 (1024-(Z:Int))] W (Ret W (.string ⟨(List.replicate (1024-Z) (0:UInt8)).toArray⟩)):=fun W=>by
     have:=repeat_t ⟨#[0]⟩ (1024-Z) W (by omega) (show 1<=100000 by omega)
     rw[show((1024-Z:Nat):Int)=1024-(Z:Int)by omega]at this
     rw[<-repeat_replicate]
     exact this
    have hadd:=add_bytes tx (List.replicate (1024-Z) (0:UInt8)) (by rw[hln,List.length_replicate];omega)
    have hw1:IntKind.i64.wrap (1024-(Z:Int))=1024-(Z:Int):=by rw[IntKind.wrap_i64];omega
    generalize(⟨(List.replicate (1024-Z) (0:UInt8)).toArray⟩:ByteArray)=zs at*
    generalize(⟨(tx++List.replicate (1024-Z) (0:UInt8)).toArray⟩:ByteArray)=res at*
    generalize(⟨tx.toArray⟩:ByteArray)=ts at*
    clear hga hZ
    go_wp2_with fail
    refine hst.mono ?_
    rintro e w2 ⟨rfl,hbf,hbel⟩
    have HG2:=Lib.hid (gr_below HGA2.out HS0.out hbel)
    clear hbel hst
    go_wp2_with fail
    refine(hle w2 hbf).mono ?_
    rintro e w3 ⟨rfl,rfl⟩
    clear hbf hle
    go_wp2_with fail
    refine(hrp w3).mono ?_
    rintro e w4 ⟨rfl,hg4⟩
    have HG4:=Lib.hid ((HG0.out.trans HG2.out).trans hg4)
    clear hg4 hrp
    go_wp2_with fail
    go_ret
    exact Ret.mk (by rw[HPE.out];rfl) HG4.out
 |false=>
  have hwr:=fun W=>write_b (w.heap.size+1) (w.heap.size+1) (w.heap.size+1+1) 3 [] [2,c1,c2] W
  go_enter Tryz.func252,Tryz.ntmps252
  go_wp2_with fail
  refine(hwr _ (HBL.out.gr ((Gr.refl _).alloc _)) (by simp) (by simp) (fun j hj=>by
   have e1:w.heap.size+1+1=((w.alloc (.cells #[.int .i64 (p:Int),.bool false,.slice ao l.length ca] 200)).alloc (.cells #[.pointer none,.slice none 0 0] 274)).heap.size:=by simp
   rw[e1,World.cell?_alloc_new]
   match j,hj with
   |0,_=>rfl
   |1,_=>rfl
   |2,_=>rfl) (by omega)).mono ?_
  rintro e w1 ⟨rfl,hb1,hbel1,_⟩
  have hb1:Bld (w.heap.size+1) (w.heap.size+1) (headE false l.length++restE false (l.take 0)) w1:=by
   rw[HH.out]
   exact hb1
  have hga1:Gr (w.alloc (.cells #[.int .i64 (p:Int),.bool false,.slice ao l.length ca] 200)) w1:=by
   rw[<-hsz0]at hbel1
   exact Below.trans (HGA.out.alloc _) hbel1
  clear hwr hbel1
  generalize w.alloc (.cells #[.int .i64 (p:Int),.bool false,.slice ao l.length ca] 200)=A0 at*
  obtain⟨B,hB⟩:∃B,w.heap.size+1=B:=⟨_,rfl⟩
  obtain⟨NB,hNB⟩:∃NB,w.heap.size=NB:=⟨_,rfl⟩
  rw[hB]at hb1 hsz0 HBL⊢
  rw[hNB]at C0⊢
  have HBn:=Lib.hid hB
  clear hB hNB b1 b2
  obtain⟨b1,b2⟩:=C0.out _ hga1
  have HB1:=Lib.hid hb1
  have HA1:=Lib.hid hga1
  have HS0:=Lib.hid hsz0
  clear hb1 hga1 hsz0
  go_wp2_with fail
  go_loopw [24] (fun iv w'=>∃i:Nat,i<=l.length/\iv=.int .i64 i/\Bld B B (headE false l.length++restE false (l.take i)) w'/\Gr A0 w') (fun iv _=>l.length-(RowKit.intOf iv).toNat)
  case atStart=>exact⟨0,Nat.zero_le _,rfl,HB1.out,HA1.out⟩
  case round=>
   obtain⟨i,hi,rfl,hbl,hga⟩:=hrel
   obtain⟨b1,b2⟩:=C0.out _ hga
   have HBL2:=Lib.hid hbl
   have HGA2:=Lib.hid hga
   have HBs:Hid (B<=wr.heap.size):=Lib.hid (by have:=hga.size;rw[HS0.out]at this;exact this)
   clear hbl
   by_cases hlt:i<l.length
   ·obtain⟨b,off,rfl,hb,hp⟩:∃b off,ao=some ⟨b,off,none⟩/\b<w.heap.size/\EntsAt w b off l:=by
     rcases H.out with⟨_,e2⟩|⟨b,off,c,e,hb,hp⟩
     ·rw[e2]at hlt
      exact absurd hlt (by simp)
     ·cases e
      exact⟨b,off,rfl,hb,hp⟩
    have hil:(i:Int)<(l.length:Int):=by omega
    obtain⟨d1,d2,d3⟩:=(hp.gr (HG0.out.trans hga)) i hlt
    have hoke:=HOK.out l[i] (List.getElem_mem hlt)
    have HNX:Hid (headE false l.length++restE false (l.take (i+1))=(headE false l.length++restE false (l.take i))++(l[i]).txt false):=Lib.hid (by rw[restE_next false l i hlt,List.append_assoc])
    have hrl:(headE false l.length++restE false (l.take i)).length<=98000:=by
     rw[List.length_append,restE_len (fun e he=>HOK.out e (List.mem_of_mem_take he))]
     have h1:=sumE_le false (l.take i) fun e he=>HOK.out e (List.mem_of_mem_take he)
     rw[List.length_take]at h1
     have h2:(headE false l.length).length=3:=rfl
     omega
    have hksz:=hoke.key
    have hisz:=hoke.item
    have hpgz:=hoke.page
    generalize l[i]=en at*
    obtain⟨ky,it,pgi⟩:=en
    simp only at d1 d2 d3 hksz hisz hpgz
    generalize headE false l.length++restE false (l.take i)=acc at*
    have hgb:Gr wr (wr.alloc (.cells #[.string ky,.string it,.int .i64 (pgi:Int)] 206)):=(Gr.refl wr).alloc _
    have k0:(wr.alloc (.cells #[.string ky,.string it,.int .i64 (pgi:Int)] 206)).cell? ⟨wr.heap.size,0,none⟩=some (.string ky):=by rw[World.cell?_alloc_new];rfl
    have k1:(wr.alloc (.cells #[.string ky,.string it,.int .i64 (pgi:Int)] 206)).cell? ⟨wr.heap.size,1,none⟩=some (.string it):=by rw[World.cell?_alloc_new];rfl
    have k2:(wr.alloc (.cells #[.string ky,.string it,.int .i64 (pgi:Int)] 206)).cell? ⟨wr.heap.size,2,none⟩=some (.int .i64 (pgi:Int)):=by rw[World.cell?_alloc_new];rfl
    have bn:=bufNot_new HBL2.out (.cells #[.string ky,.string it,.int .i64 (pgi:Int)] 206)
    have hEB:wr.heap.size≠B:=by have:=bld_lt HBL2.out;omega
    have hbA:=hgb.keeps b1
    have hbB:=hgb.keeps b2
    have HB1:=Lib.hid (HBL2.out.gr hgb)
    have HGb:=Lib.hid (HGA2.out.trans hgb)
    have HBs1:Hid (B<=(wr.alloc (.cells #[.string ky,.string it,.int .i64 (pgi:Int)] 206)).heap.size):=Lib.hid (by have:=hgb.size;have:=HBs.out;omega)
    have BN:=Lib.hid bn
    have HADD:=add_two ky it (by omega)
    have hws:=fun(a:List UInt8) (W:World)=>writeString_b B B a ⟨(ky.data.toList++it.data.toList).toArray⟩ W
    have hwz:(⟨(ky.data.toList++it.data.toList).toArray⟩:ByteArray).size=ky.size+it.size:=by rw[ba_len,List.length_append,<-size_data,<-size_data]
    have hwd:(⟨(ky.data.toList++it.data.toList).toArray⟩:ByteArray).data.toList=ky.data.toList++it.data.toList:=by simp
    rw[hwd]at hws
    have hk8:IntKind.u8.wrap (ky.size:Int)=((ky.size.toUInt8.toNat:Nat):Int):=(u8_of _).symm
    have hp1:IntKind.u8.wrap ((pgi:Int)/256)=(((pgi/256).toUInt8.toNat:Nat):Int):=by
     rw[u8_of]
     show(pgi:Int)/256 % 256=_
     omega
    have hp2:IntKind.u8.wrap (pgi:Int)=((pgi.toUInt8.toNat:Nat):Int):=(u8_of _).symm
    have HTX:Hid (En.txt ⟨ky,it,pgi⟩ false=[ky.size.toUInt8]++([(pgi/256).toUInt8,pgi.toUInt8]++(ky.data.toList++it.data.toList))):=Lib.hid (by
     unfold En.txt En.head
     simp only[Bool.false_eq_true,if_false]
     rw[two8_nat _ (by omega)]
     rfl)
    generalize ky.size.toUInt8=q1 at*
    generalize(pgi/256).toUInt8=q2 at*
    generalize pgi.toUInt8=q3 at*
    generalize ky.data.toList++it.data.toList=kt at*
    generalize(⟨kt.toArray⟩:ByteArray)=ks at*
    clear hp bn hga hgb hwd
    go_wp2_with fail
    refine(writeByte_x B B acc q1 _ HB1.out (by omega) HBs1.out).mono ?_
    rintro e w2 ⟨rfl,hb2,hbel2,hap2⟩
    have m2:=hap2.keeps hEB BN.out k2
    have m1:=hap2.keeps hEB BN.out k1
    have m0:=hap2.keeps hEB BN.out k0
    have BN2:=Lib.hid (hap2.2 _ (lt_of_cell k0) hEB BN.out).2
    have HG2:=Lib.hid (gr_below HGb.out HS0.out hbel2)
    have HB2:=Lib.hid hb2
    have HBs2:Hid (B<=w2.heap.size):=Lib.hid (Nat.le_trans HBs1.out hbel2.size)
    obtain⟨b1,b2⟩:=C0.out _ HG2.out
    clear hb2 hbel2 hap2 k0 k1 k2 hbA hbB
    have hl2:(acc++[q1]).length+[q2,q3].length<=1000000:=by rw[List.length_append];simp;omega
    have hgc:Gr w2 (w2.alloc (.cells #[.int .u8 (q2.toNat:Int),.int .u8 (q3.toNat:Int)] 5)):=(Gr.refl w2).alloc _
    have hwr2:=write_b B B w2.heap.size 2 (acc++[q1]) [q2,q3] _ (HB2.out.gr hgc) hl2 (by have:=HBs2.out;have:=hgc.size;omega) (fun j hj=>by
     rw[World.cell?_alloc_new]
     match j,hj with
     |0,_=>rfl
     |1,_=>rfl) (by have:=bld_lt HB2.out;omega)
    have HWR:=Lib.hid hwr2
    clear hwr2
    go_wp2_with fail
    refine HWR.out.mono ?_
    rintro e w3 ⟨rfl,hb3,hbel3,hap3⟩
    have hbn3:BufNot B wr.heap.size (w2.alloc (.cells #[.int .u8 (q2.toNat:Int),.int .u8 (q3.toNat:Int)] 5)):=fun v hv=>by
     have hlt2:=bld_lt HB2.out
     rw[(hgc.cell 1 hlt2)]at hv
     exact BN2.out v hv
    have n1:=hap3.keeps hEB hbn3 (hgc.keeps m1)
    have n0:=hap3.keeps hEB hbn3 (hgc.keeps m0)
    have HG3:=Lib.hid (gr_below (HG2.out.alloc _) HS0.out hbel3)
    have HB3:=Lib.hid hb3
    have HBs3:Hid (B<=w3.heap.size):=Lib.hid (Nat.le_trans HBs2.out (Nat.le_trans hgc.size hbel3.size))
    obtain⟨b1,b2⟩:=C0.out _ HG3.out
    clear hb3 hbel3 hap3 m0 m1 m2 hgc hbn3
    have hl3:(acc++[q1]++[q2,q3]).length+ks.size<=1000000:=by rw[List.length_append,List.length_append,hwz];simp;omega
    go_wp2_with fail
    refine(hws _ _ HB3.out hl3 HBs3.out).mono ?_
    rintro e w4 ⟨rfl,hb4,hbel4⟩
    have HG4:=Lib.hid (gr_below HG3.out HS0.out hbel4)
    have HB4:Hid (Bld B B (headE false l.length++restE false (l.take (i+1))) w4):=Lib.hid (by
     rw[HNX.out,HTX.out]
     simpa[List.append_assoc]using hb4)
    clear hb4 hbel4 hws
    go_wp2_with fail
    exact⟨⟨i+1,by omega,by go_num,HB4.out,HG4.out⟩,by simp[RowKit.intOf];omega⟩
   ·have hii:i=l.length:=by omega
    subst hii
    rw[List.take_length]at HBL2
    have hrl:=restE_len (leaf:=false) (l:=l) HOK.out
    have hln:(headE false l.length++restE false l).length=bytesE false l:=by
     rw[List.length_append,hrl]
     rfl
    have HPE:Hid (pageE false l=⟨((headE false l.length++restE false l)++List.replicate (1024-bytesE false l) 0).toArray⟩):=Lib.hid (by
     unfold pageE txtE headE kindE
     simp)
    generalize headE false l.length++restE false l=tx at*
    obtain⟨Z,hZ⟩:∃Z,bytesE false l=Z:=⟨_,rfl⟩
    rw[hZ]at hln hb HPE
    have hlb:(Lib.byteCells tx).length=Z:=by rw[Lib.byteCells_length,hln]
    have hst:=Tryz.Builder_String_any_f B B tx wr (Lib.IsBuilderF.of HBL2.out) HBs.out
    have hle:=fun W h=>Tryz.Builder_Len_f B B (Lib.byteCells tx) W h
    rw[hlb]at hle
    have hrp:∀W,Calls Tryz.prog 139 #[.string ⟨#[0]⟩,.int .i64 (1024-(Z:Int))] W (Ret W (.string ⟨(List.replicate (1024-Z) (0:UInt8)).toArray⟩)):=fun W=>by
     have:=repeat_t ⟨#[0]⟩ (1024-Z) W (by omega) (show 1<=100000 by omega)
     rw[show((1024-Z:Nat):Int)=1024-(Z:Int)by omega]at this
     rw[<-repeat_replicate]
     exact this
    have hadd:=add_bytes tx (List.replicate (1024-Z) (0:UInt8)) (by rw[hln,List.length_replicate];omega)
    have hw1:IntKind.i64.wrap (1024-(Z:Int))=1024-(Z:Int):=by rw[IntKind.wrap_i64];omega
    generalize(⟨(List.replicate (1024-Z) (0:UInt8)).toArray⟩:ByteArray)=zs at*
    generalize(⟨(tx++List.replicate (1024-Z) (0:UInt8)).toArray⟩:ByteArray)=res at*
    generalize(⟨tx.toArray⟩:ByteArray)=ts at*
    clear hga hZ
    go_wp2_with fail
    refine hst.mono ?_
    rintro e w2 ⟨rfl,hbf,hbel⟩
    have HG2:=Lib.hid (gr_below HGA2.out HS0.out hbel)
    clear hbel hst
    go_wp2_with fail
    refine(hle w2 hbf).mono ?_
    rintro e w3 ⟨rfl,rfl⟩
    clear hbf hle
    go_wp2_with fail
    refine(hrp w3).mono ?_
    rintro e w4 ⟨rfl,hg4⟩
    have HG4:=Lib.hid ((HG0.out.trans HG2.out).trans hg4)
    clear hg4 hrp
    go_wp2_with fail
    go_ret
    exact Ret.mk (by rw[HPE.out];rfl) HG4.out
structure Fr(pg:Nat->ByteArray)(S:List Nat)(c c':Ch):Prop where
 fine:c'.fine
 keep:∀k,1<=k->k<2000->c.h.used k=true->k∉S->c'.h.used k=true/\pageNow pg c'.F k=pageNow pg c.F k
 roots:c'.h.roots=c.h.roots
 notes:c'.h.notes=c.h.notes
theorem Fr.refl{pg:Nat->ByteArray}{c:Ch}(h:c.fine)(S:List Nat):Fr pg S c c:=⟨h,fun _ _ _ hu _=>⟨hu,rfl⟩,rfl,rfl⟩
theorem Fr.trans{pg:Nat->ByteArray}{S S':List Nat}{c c1 c2:Ch}(h:Fr pg S c c1)(h':Fr pg S' c1 c2)(hs:∀k∈S',k∈S\/c.h.used k=false):Fr pg S c c2:=
 ⟨h'.fine,fun k h1 h2 hu hn=>by
  obtain⟨a1,a2⟩:=h.keep k h1 h2 hu hn
  obtain⟨b1,b2⟩:=h'.keep k h1 h2 a1 (fun hm=>by
   rcases hs k hm with e|e
   ·exact hn e
   ·rw[e]at hu;cases hu)
  exact⟨b1,b2.trans a2⟩,h'.roots.trans h.roots,h'.notes.trans h.notes⟩
theorem Fr.wide{pg:Nat->ByteArray}{S S':List Nat}{c c':Ch}(h:Fr pg S c c')(hs:∀k∈S,k∈S'\/c.h.used k=false):Fr pg S' c c':=
 ⟨h.fine,fun k h1 h2 hu hn=>h.keep k h1 h2 hu fun hm=>by
  rcases hs k hm with e|e
  ·exact hn e
  ·rw[e]at hu
   exact Bool.noConfusion hu,h.roots,h.notes⟩
def InU(c:Ch)(p:Nat):Prop:=1<=p/\p<2000/\c.h.used p=true
theorem InU.inUse{c:Ch}{p:Nat}(h:InU c p):inUse c.h (p:Int)=true:=inUse_iff.2 ⟨p,rfl,h.1,h.2.1,h.2.2⟩
theorem write_eq{c:Ch}{p:Nat}(h:InU c p)(s:ByteArray):c.write (p:Nat) s=⟨c.h,setF c.F p (some s)⟩:=by
 unfold Ch.write
 rw[if_pos h.inUse]
theorem free_eq{c:Ch}{p:Nat}(h:InU c p):c.free (p:Nat)=⟨c.h.put p false,setF c.F p none⟩:=by
 unfold Ch.free
 rw[if_pos h.inUse]
 rfl
theorem now_set{pg:Nat->ByteArray}{F:Int->Option ByteArray}{p:Nat}{s:ByteArray}:pageNow pg (setF F (p:Nat) (some s)) p=s:=by
 unfold pageNow setF
 rw[if_pos rfl]
theorem now_other{pg:Nat->ByteArray}{F:Int->Option ByteArray}{p k:Nat}(h:k≠p)(o:Option ByteArray):pageNow pg (setF F (p:Nat) o) k=pageNow pg F k:=by
 unfold pageNow setF
 rw[if_neg (by omega)]
theorem write_fr{pg:Nat->ByteArray}{c:Ch}{p:Nat}(hc:c.fine)(h:InU c p){s:ByteArray}(hs:s.size=1024):Fr pg [p] c (c.write (p:Nat) s)/\InU (c.write (p:Nat) s) p/\pageNow pg (c.write (p:Nat) s).F p=s:=by
 refine⟨⟨hc.write_fine _ hs,?_,?_,?_⟩,?_,?_⟩
 ·intro k h1 h2 hu hn
  rw[write_eq h]
  exact⟨hu,now_other (by simpa using hn) _⟩
 ·rw[write_eq h]
 ·rw[write_eq h]
 ·rw[write_eq h]
  exact h
 ·rw[write_eq h]
  exact now_set
theorem free_fr{pg:Nat->ByteArray}{c:Ch}{p:Nat}(hc:c.fine)(h:InU c p):Fr pg [p] c (c.free (p:Nat)):=by
 refine⟨hc.free_fine _,?_,?_,?_⟩
 ·intro k h1 h2 hu hn
  rw[free_eq h]
  refine⟨?_,now_other (by simpa using hn) _⟩
  show(if k=p then false else c.h.used k)=true
  rw[if_neg (by simpa using hn)]
  exact hu
 ·rw[free_eq h];rfl
 ·rw[free_eq h];rfl
theorem alloc_eq{c:Ch}{q:Nat}(h:allocF c.h=some q):c.alloc=⟨c.h.put q true,setF c.F q (some zerosB)⟩:=by
 unfold Ch.alloc
 rw[h]
theorem alloc_fr{pg:Nat->ByteArray}{c:Ch}{q:Nat}(hc:c.fine)(h:allocF c.h=some q):Fr pg [] c c.alloc/\InU c.alloc q/\c.h.used q=false/\1<=q/\q<2000:=by
 obtain⟨h1,h2,h3,_⟩:=allocF_some hc.head h
 refine⟨⟨hc.alloc_fine,?_,?_,?_⟩,⟨h1,h2,?_⟩,h3,h1,h2⟩
 ·intro k k1 k2 hu _
  have hne:k≠q:=fun e=>by rw[e,h3]at hu;cases hu
  rw[alloc_eq h]
  refine⟨?_,now_other hne _⟩
  show(if k=q then true else c.h.used k)=true
  rw[if_neg hne]
  exact hu
 ·rw[alloc_eq h];rfl
 ·rw[alloc_eq h];rfl
 ·rw[alloc_eq h]
  show(if q=q then true else c.h.used q)=true
  rw[if_pos rfl]
theorem Fr.inU{pg:Nat->ByteArray}{S:List Nat}{c c':Ch}(h:Fr pg S c c'){k:Nat}(hk:InU c k)(hn:k∉S):InU c' k:=⟨hk.1,hk.2.1,(h.keep k hk.1 hk.2.1 hk.2.2 hn).1⟩
theorem Fr.hasN{pg:Nat->ByteArray}{S:List Nat}{c c':Ch}(h:Fr pg S c c'){leaf:Bool}{p:Nat}{l:List En}(hk:HasN c pg leaf p l)(hn:p∉S):HasN c' pg leaf p l:=
 ⟨h.inU hk.1 hn,(h.keep p hk.1.1 hk.1.2.1 hk.1.2.2 hn).2.trans hk.2⟩
theorem T.lays_used{c:Ch}{pg:Nat->ByteArray}:{d:Nat}->{t:T d}->t.lays c pg->∀k∈t.pages,InU c k
 |0,t,h,k,hk=>by
  unfold T.pages at hk
  rw[List.mem_singleton.1 hk]
  exact h.1
 |d+1,t,h,k,hk=>by
  unfold T.pages at hk
  rcases List.mem_cons.1 hk with e|hk
  ·rw[e]
   exact h.1.1
  ·obtain⟨x,hx,hk⟩:=List.mem_flatMap.1 hk
   exact T.lays_used (h.2 x hx) k hk
theorem T.lays_fr{pg:Nat->ByteArray}{S:List Nat}{c c':Ch}(g:Fr pg S c c'):{d:Nat}->{t:T d}->t.lays c pg->(∀k∈t.pages,k∉S)->t.lays c' pg
 |0,t,h,hn=>g.hasN h (hn _ (by unfold T.pages;exact List.mem_singleton.2 rfl))
 |d+1,t,h,hn=>⟨g.hasN h.1 (hn _ (by unfold T.pages;exact List.mem_cons_self)),fun x hx=>T.lays_fr g (h.2 x hx) fun k hk=>hn k (by
  unfold T.pages
  exact List.mem_cons_of_mem _ (List.mem_flatMap.2 ⟨x,hx,hk⟩))⟩
theorem T.pg_mem:{d:Nat}->(t:T d)->t.pg∈t.pages
 |0,t=>by unfold T.pages T.pg;exact List.mem_singleton.2 rfl
 |d+1,t=>by unfold T.pages T.pg;exact List.mem_cons_self
structure PutOk{X:Type}(pg:Nat->ByteArray)(pgf:X->Nat)(pgs:X->List Nat)(lay:Ch->X->Prop)(ok:X->Prop)(p:Nat)(c:Ch)(S:List Nat)(r:Res X):Prop where
 fr:Fr pg S c r.1
 page:pgf r.2.1=p
 lays:lay r.1 r.2.1
 fits:ok r.2.1
 sub:∀k∈pgs r.2.1,k∈S\/c.h.used k=false
 nd:(pgs r.2.1).Nodup
 more:∀m,r.2.2=some (some m)->lay r.1 m.2/\ok m.2/\m.1.size<=60/\(∀k∈pgs m.2,k∈S\/c.h.used k=false)/\(pgs r.2.1++pgs m.2).Nodup
section
variable{X:Type}{pg:Nat->ByteArray}
def nPages(pgs:X->List Nat)(n:Nat×List (ByteArray×X)):List Nat:=n.1::n.2.flatMap fun x=>pgs x.2
def nLays(pg:Nat->ByteArray)(en:ByteArray×X->En)(leaf:Bool)(lay:Ch->X->Prop)(c:Ch)(n:Nat×List (ByteArray×X)):Prop:=HasN c pg leaf n.1 (n.2.map en)/\∀x∈n.2,lay c x.2
def nOk(en:ByteArray×X->En)(leaf:Bool)(ok:X->Prop)(n:Nat×List (ByteArray×X)):Prop:=OkN leaf (n.2.map en)/\∀x∈n.2,ok x.2
theorem split_ok{en:ByteArray×X->En}{leaf:Bool}{pgs:X->List Nat}{lay:Ch->X->Prop}{ok:X->Prop}
  (hfr:∀(c c':Ch) S x,Fr pg S c c'->lay c x->(∀k∈pgs x,k∉S)->lay c' x) (hus:∀(c:Ch) x,lay c x->∀k∈pgs x,InU c k) (hkey:∀x,(en x).key=x.1)
  {c:Ch} {p:Nat} {l old:List (ByteArray×X)} (hc:c.fine) (hp:InU c p) (hl:∀x∈l,lay c x.2/\ok x.2) (he:∀e∈l.map en,e.ok leaf) (hne:l≠[]) (hb:bytesE leaf (l.map en)<=1400)
  (hnd:(nPages pgs (p,l)).Nodup) (hold:nLays pg en leaf lay c (p,old)) (holdo:nOk en leaf ok (p,old)) (holdn:(nPages pgs (p,old)).Nodup) (holds:∀k∈nPages pgs (p,old),k∈nPages pgs (p,l)):
  PutOk pg Prod.fst (nPages pgs) (nLays pg en leaf lay) (nOk en leaf ok) p c (nPages pgs (p,l)) (splitL en leaf c p l old):=by
 have hnp:∀x∈l,∀k∈pgs x.2,k≠p:=fun x hx k hk e=>by
  have:=(List.nodup_cons.1 hnd).1
  exact this (List.mem_flatMap.2 ⟨x,hx,by rw[<-e];exact hk⟩)
 by_cases hfit:bytesE leaf (l.map en)<=1024
 ·have e:splitL en leaf c p l old=(c.write p (pageE leaf (l.map en)),(p,l),some none):=by
   unfold splitL
   rw[if_pos hfit]
  obtain⟨w1,w2,w3⟩:=write_fr (pg:=pg) hc hp (pageE_size he hfit)
  rw[e]
  refine⟨w1.wide fun k hk=>.inl ?_,rfl,⟨⟨w2,w3⟩,fun x hx=>hfr _ _ _ _ w1 (hl x hx).1 fun k hk hm=>hnp x hx k hk (by simpa using hm)⟩,⟨⟨by simpa using hne,hfit,he⟩,fun x hx=>(hl x hx).2⟩,fun k hk=>.inl hk,hnd,fun m hm=>by cases hm⟩
  rw[List.mem_singleton.1 hk]
  exact List.mem_cons_self
 ·cases ha:allocF c.h with
  |none=>
   have e:splitL en leaf c p l old=(c,(p,old),none):=by
    unfold splitL
    rw[if_neg hfit,ha]
   rw[e]
   exact⟨Fr.refl hc _,rfl,hold,holdo,fun k hk=>.inl (holds k hk),holdn,fun m hm=>by cases hm⟩
  |some q=>
   obtain⟨k,hk⟩:∃k,cutE leaf (l.map en)=k:=⟨_,rfl⟩
   have e:splitL en leaf c p l old=((c.alloc.write p (pageE leaf ((l.map en).take k))).write q (pageE leaf ((l.map en).drop k)),(p,l.take k),some (some (keyOf (l.drop k),(q,l.drop k)))):=by
    unfold splitL
    rw[if_neg hfit,ha]
    simp only[hk]
   obtain⟨b1,b2,b3,b4⟩:=cutE_bounds he (by omega) hb
   rw[hk]at b1 b2 b3 b4
   rw[List.length_map]at b2
   obtain⟨a1,a2,a3,a4,a5⟩:=alloc_fr (pg:=pg) hc ha
   have het:∀e∈(l.map en).take k,e.ok leaf:=fun e h=>he e (List.mem_of_mem_take h)
   have hed:∀e∈(l.map en).drop k,e.ok leaf:=fun e h=>he e (List.mem_of_mem_drop h)
   have hpq:p≠q:=fun e=>by rw[<-e,hp.2.2]at a3;cases a3
   obtain⟨w1,w2,w3⟩:=write_fr (pg:=pg) a1.fine (a1.inU hp (by simp)) (pageE_size het b3)
   have hq2:=w1.inU a2 (by simpa using hpq.symm)
   obtain⟨v1,v2,v3⟩:=write_fr (pg:=pg) w1.fine hq2 (pageE_size hed b4)
   have hfw:Fr pg [p] c (c.alloc.write p (pageE leaf ((l.map en).take k))):=(a1.wide (S':=[p]) (fun k hk=>absurd hk (by simp))).trans w1 fun k hk=>.inl hk
   have hfv:Fr pg [p] c ((c.alloc.write p (pageE leaf ((l.map en).take k))).write q (pageE leaf ((l.map en).drop k))):=hfw.trans v1 fun k hk=>.inr (by rw[List.mem_singleton.1 hk];exact a3)
   have hlay:∀x∈l,lay ((c.alloc.write p (pageE leaf ((l.map en).take k))).write q (pageE leaf ((l.map en).drop k))) x.2:=fun x hx=>hfr _ _ _ _ hfv (hl x hx).1 fun k hk hm=>hnp x hx k hk (by simpa using hm)
   have hqn:∀x∈l,q∉pgs x.2:=fun x hx hm=>by
    have:=(hus _ _ (hl x hx).1 q hm).2.2
    rw[a3]at this
    cases this
   have hsplit:l.flatMap (fun x=>pgs x.2)=(l.take k).flatMap (fun x=>pgs x.2)++(l.drop k).flatMap (fun x=>pgs x.2):=by
    rw[<-List.flatMap_append,List.take_append_drop]
   have hall:((nPages pgs (p,l.take k))++(nPages pgs (q,l.drop k))).Nodup:=by
    unfold nPages at hnd⊢
    simp only at hnd⊢
    rw[hsplit]at hnd
    have h1:((p::(l.take k).flatMap (fun x=>pgs x.2))++(l.drop k).flatMap (fun x=>pgs x.2)).Nodup:=by rw[List.cons_append];exact hnd
    rw[List.nodup_append]at h1⊢
    obtain⟨g1,g2,g3⟩:=h1
    refine⟨g1,List.nodup_cons.2 ⟨fun hm=>?_,g2⟩,fun a ha b hb=>?_⟩
    ·obtain⟨x,hx,hm⟩:=List.mem_flatMap.1 hm
     exact hqn x (List.mem_of_mem_drop hx) hm
    ·rcases List.mem_cons.1 hb with e|hb
     ·rw[e]
      intro e2
      rw[e2]at ha
      rcases List.mem_cons.1 ha with e3|ha
      ·exact hpq e3.symm
      ·obtain⟨x,hx,hm⟩:=List.mem_flatMap.1 ha
       exact hqn x (List.mem_of_mem_take hx) hm
     ·exact g3 a ha b hb
   have hnt:l.take k≠[]:=fun e=>by
    have:=congrArg List.length e
    rw[List.length_take,List.length_nil]at this
    omega
   have hndr:l.drop k≠[]:=fun e=>by
    have:=congrArg List.length e
    rw[List.length_drop,List.length_nil]at this
    omega
   rw[e]
   refine⟨hfv.wide fun j hj=>.inl ?_,rfl,⟨?_,fun x hx=>hlay x (List.mem_of_mem_take hx)⟩,⟨⟨?_,?_,?_⟩,fun x hx=>(hl x (List.mem_of_mem_take hx)).2⟩,fun j hj=>.inl ?_,(List.nodup_append.1 hall).1,fun m hm=>?_⟩
   ·rw[List.mem_singleton.1 hj]
    exact List.mem_cons_self
   ·show HasN _ pg leaf p ((l.take k).map en)
    rw[List.map_take]
    exact v1.hasN ⟨w2,w3⟩ (by simpa using hpq)
   ·simpa using hnt
   ·show bytesE leaf ((l.take k).map en)<=1024
    rw[List.map_take]
    exact b3
   ·show∀e∈(l.take k).map en,e.ok leaf
    rw[List.map_take]
    exact het
   ·unfold nPages at hj⊢
    rcases List.mem_cons.1 hj with e|hj
    ·rw[e]
     exact List.mem_cons_self
    ·refine List.mem_cons_of_mem _ ?_
     rw[hsplit]
     exact List.mem_append_left _ hj
   ·injection hm with hm
    injection hm with hm
    subst hm
    have g1:HasN ((c.alloc.write p (pageE leaf ((l.map en).take k))).write q (pageE leaf ((l.map en).drop k))) pg leaf q ((l.drop k).map en):=by
     rw[List.map_drop]
     exact⟨v2,v3⟩
    have g2:OkN leaf ((l.drop k).map en):=by
     rw[List.map_drop]
     exact⟨by rw[<-List.map_drop];simpa using hndr,b4,hed⟩
    refine⟨⟨g1,fun x hx=>hlay x (List.mem_of_mem_drop hx)⟩,⟨g2,fun x hx=>(hl x (List.mem_of_mem_drop hx)).2⟩,?_,fun j hj=>?_,hall⟩
    ·unfold keyOf
     cases hd:l.drop k with
     |nil=>exact absurd hd hndr
     |cons x r=>
      have hx:x∈l:=List.mem_of_mem_drop (i:=k) (by rw[hd];exact List.mem_cons_self)
      have:=(he (en x) (List.mem_map_of_mem hx)).key
      rw[hkey]at this
      simpa using this
    ·unfold nPages at hj⊢
     rcases List.mem_cons.1 hj with e|hj
     ·rw[e]
      exact .inr a3
     ·refine .inl (List.mem_cons_of_mem _ ?_)
      rw[hsplit]
      exact List.mem_append_right _ hj
end
