/-
  Part 31 of the proof.
-/
import Derived.Test.YtldmhjbdahjhdaaGreatDoorZc28
set_option maxRecDepth 100000
set_option maxHeartbeats 100000000
set_option linter.all false
namespace Go.Proofs.YtldmhjbdahjhdaaGreatDoor.Ev
open Go Go.RowKit
theorem sameTexts_k(ws:List ByteArray)(b off c b' off' c':Nat)(ao ao':Option Addr)(hao:0<ws.length->ao=some ⟨b,off,none⟩)(hao':0<ws.length->ao'=some ⟨b',off',none⟩)(hl:ws.length<=4611686018427387904)(w:World)
  (hc:StrsAt w b off ws) (hc':StrsAt w b' off' ws):
  Calls Tryz.prog 20 #[.slice ao ws.length c,.slice ao' ws.length c'] w (Ret w (.bool true)):=by
 have HC:=Lib.hid hc
 have HA:=Lib.hid hao
 have HC':=Lib.hid hc'
 have HA':=Lib.hid hao'
 clear hc hao hc' hao'
 go_enter Tryz.func20,Tryz.ntmps20
 go_wp2_with fail
 go_loopw [5] (fun i w'=>∃j:Nat,j<=ws.length/\i=.int .i64 j/\Gr w w') (fun i _=>ws.length-(intOf i).toNat)
 case atStart=>exact⟨0,Nat.zero_le _,rfl,Gr.refl _⟩
 case round=>
  obtain⟨j,hj,rfl,hg⟩:=hrel
  by_cases h1:j<ws.length
  ·obtain rfl:=HA.out (by omega)
   obtain rfl:=HA'.out (by omega)
   have f1:=HC.out.gr hg j h1
   have f2:=HC'.out.gr hg j h1
   have hne:(!ws[j].toList==ws[j].toList)=false:=by simp
   go_wp2_with fail
   go_quiet (fail)
   go_wp2_with fail
   exact⟨⟨j+1,by omega,by go_num,hg.drewN _⟩,by simp[intOf];omega⟩
  ·go_wp2_with fail
   go_ret
   exact Ret.mk rfl hg
theorem u64_wrap(n:Int):IntKind.u64.wrap n=n % 18446744073709551616:=rfl
theorem pick_num(n k:Int)(hk:0<k)(hk2:k<=9223372036854775807):wrap64 ((IntKind.u64.wrap n).tmod k)=n % 18446744073709551616 % k:=by
 rw[u64_wrap,Int.tmod_eq_emod_of_nonneg (Int.emod_nonneg _ (by decide))]
 have h1:=Int.emod_nonneg (n % 18446744073709551616) (b:=k) (by omega)
 have h2:=Int.emod_lt_of_pos (n % 18446744073709551616) hk
 generalize n % 18446744073709551616 % k=m at h1 h2
 unfold wrap64
 omega
theorem pick_t(n k:Int)(hk:0<k)(hk2:k<=9223372036854775807)(w:World):Calls Tryz.prog 16 #[.int .i64 n,.int .i64 k] w (Ret w (.int .i64 (n % 18446744073709551616 % k))):=by
 go_enter Tryz.func16,Tryz.ntmps16
 go_wp2_with fail
 go_ret
 exact Ret.mk (congrArg (Value.int .i64) (pick_num n k hk hk2)) (Gr.refl _)
def TxtAt(w:World)(ao:Option Addr)(ts:List ByteArray):Prop:=∀i (h:i<ts.length),∃B off,ao=some ⟨B,off,none⟩/\w.cell? ⟨B,off+i,none⟩=some (.string ts[i])
theorem TxtAt.gr{w w':World}{ao:Option Addr}{ts:List ByteArray}(h:TxtAt w ao ts)(g:Gr w w'):TxtAt w' ao ts:=fun i hi=>by
 obtain⟨B,off,h1,h2⟩:=h i hi
 exact⟨B,off,h1,g.keeps h2⟩
def NumAt(w:World)(ao:Option Addr)(ns:List Int):Prop:=∀i (h:i<ns.length),∃B off,ao=some ⟨B,off,none⟩/\w.cell? ⟨B,off+i,none⟩=some (.int .i64 ns[i])
theorem NumAt.gr{w w':World}{ao:Option Addr}{ns:List Int}(h:NumAt w ao ns)(g:Gr w w'):NumAt w' ao ns:=fun i hi=>by
 obtain⟨B,off,h1,h2⟩:=h i hi
 exact⟨B,off,h1,g.keeps h2⟩
theorem OwnVR.keepX{α:Type}{enc:α->Value}{e:TypeId}{S:Nat->Prop}{a0 w w':World}{v:Value}{xs:List α}(h:OwnVR enc e a0 w v xs)(g:GrX S w w')(hs:∀b,v.ownBlock=some b->¬S b):OwnVR enc e a0 w' v xs:=by
 have hlt:=ownBlock_lt h
 obtain⟨h1,h2⟩:=h
 refine⟨h1,?_⟩
 rcases h2 with h2|⟨b,cap,cur,hv,hb,hh,r⟩
 ·exact .inl h2
 ·have e:v.ownBlock=some b:=by rw[hv];rfl
  exact .inr ⟨b,cap,cur,hv,hb,by rw[g.block (hlt b e) (hs b e)];exact hh,r⟩
theorem MovedB.grX{a0 w w':World}{v v':Value}(m:MovedB v v' w w')(g:Gr a0 w)(g':Gr a0 w'):GrX (fun b=>v.ownBlock=some b) w w':=
 ⟨g'.os.trans g.os.symm,g'.tape.trans g.tape.symm,g'.output.trans g.output.symm,m.1,fun k hk hv=>(m.2 k hk hv).2⟩
theorem GrX.more{S T:Nat->Prop}{w w':World}(h:GrX S w w')(hs:∀k,S k->T k):GrX T w w':=⟨h.1,h.2.1,h.2.2.1,h.2.2.2.1,fun k hk ht=>h.2.2.2.2 k hk fun s=>ht (hs k s)⟩
theorem GrX.past{S T:Nat->Prop}{a b c:World}(h:GrX S a b)(k:GrX T b c)(ht:∀i,T i->a.heap.size<=i):GrX S a c:=
 ⟨k.1.trans h.1,k.2.1.trans h.2.1,k.2.2.1.trans h.2.2.1,Nat.le_trans h.2.2.2.1 k.2.2.2.1,fun i hi hs=>(k.2.2.2.2 i (Nat.lt_of_lt_of_le hi h.2.2.2.1) (fun t=>by have:=ht i t;omega)).trans (h.2.2.2.2 i hi hs)⟩
theorem right_is(xs:List GPlace)(v:Value)(w:World)(h:IsP w v xs)(hl:xs.length<=1000000):Calls Tryz.prog 23 #[v] w (Ret w (.bool (placesB xs))):=by
 rcases h with⟨rfl,rfl⟩|⟨b,off,c,rfl,_,hp⟩
 ·exact right_p [] 0 0 0 none (by simp) (by simp) w (fun i hi=>absurd hi (by simp))
 ·exact right_p xs b off c _ (fun _=>rfl) (by omega) w hp
structure RwAt(w:World)(b:Nat)(P:List Nat):Prop where
 cell:∀i (h:i<P.length),w.cell? ⟨b,i,none⟩=some (natV P[i])
 fz:∀o,w.frozen? ⟨b,o,none⟩=false
theorem rw_other{w:World}{b o p:Nat}{u:Value}(h:o≠p):(w.setCell ⟨b,p,none⟩ u).cell? ⟨b,o,none⟩=w.cell? ⟨b,o,none⟩:=
 World.cell?_setCell_other _ _ _ _ (fun e=>h (congrArg Addr.off e).symm)
theorem RwAt.set{w:World}{b:Nat}{P:List Nat}(h:RwAt w b P){i:Nat}(x:Nat):RwAt (w.setCell ⟨b,i,none⟩ (natV x)) b (P.set i x):=by
 refine⟨fun j hj=>?_,fun o=>by rw[World.frozen?_setCell];exact h.fz o⟩
 have hj2:j<P.length:=by simpa using hj
 by_cases e:j=i
 ·subst e
  rw[World.cell?_setCell_same _ _ _ (h.cell j hj2),List.getElem_set_self]
 ·rw[rw_other e,h.cell j hj2,List.getElem_set_ne (fun e2=>e e2.symm)]
theorem RwAt.keepX{S:Nat->Prop}{w w':World}{b:Nat}{P:List Nat}(h:RwAt w b P)(g:GrX S w w')(hb:b<w.heap.size)(hs:¬S b):RwAt w' b P:=
 ⟨fun i hi=>g.keeps hs (h.cell i hi),fun o=>(g.frozen o hb hs).trans (h.fz o)⟩
theorem rw_of{a0 w:World}{e:TypeId}{v:Value}{P:List Nat}{lo:Nat}(h:OwnVR natV e a0 w v P)(hb:∀b,v.ownBlock=some b->lo<=b)(hlo:lo<=w.heap.size):∃(b:Nat) (ao:Option Addr) (cap:Nat),v=.slice ao P.length cap/\lo<=b/\(0<P.length->ao=some ⟨b,0,none⟩/\b<w.heap.size/\RwAt w b P):=by
 have hlt:=ownBlock_lt h
 have hr:=h.row
 rcases h.2 with⟨rfl,h0⟩|⟨b,cap,cur,rfl,h1,h2,_⟩
 ·exact⟨w.heap.size,none,0,by rw[h0],hlo,fun h7=>by omega⟩
 ·refine⟨b,_,cap,rfl,hb b rfl,fun h7=>⟨rfl,hlt b rfl,fun i hi=>?_,fun o=>Lib.frozen_of_heap h2 _⟩⟩
  obtain⟨b2,off,e2,h3⟩:=hr.at (i:=i) hi
  have e3:=Option.some.inj e2
  have e4:b=b2:=congrArg Addr.block e3
  have e5:0=off:=congrArg Addr.off e3
  subst e4 e5
  have:=h3 i hi
  rwa [Nat.zero_add]at this
structure Lp2(n:Nat)(wL w':World)(GP UP QB EB NM b:Nat)(P:List Nat)(c:Ch):Prop where
 perm:P.Perm (List.range n)
 row:0<n->RwAt w' b P
 fd:FdW w' GP UP QB EB NM c headZ 0 dk0
 gx:GrX (fun x=>x=QB\/x=EB\/x=NM\/x=b) wL w'
section
variable{n:Nat}{wL w w':World}{GP UP QB EB NM b:Nat}{P:List Nat}{c c':Ch}
theorem Lp2.gr(h:Lp2 n wL w GP UP QB EB NM b P c)(g:Gr w w'):Lp2 n wL w' GP UP QB EB NM b P c:=
 ⟨h.perm,fun h0=>(h.row h0).keepX (S:=fun _=>False) (GrX.of_gr g) (lt_of_cell ((h.row h0).cell 0 (by rw[h.perm.length_eq,List.length_range];exact h0))) id,h.fd.gr g,h.gx.trans (GrX.of_gr g)⟩
theorem Lp2.lt(h:Lp2 n wL w GP UP QB EB NM b P c)(h0:0<n):b<w.heap.size:=lt_of_cell ((h.row h0).cell 0 (by rw[h.perm.length_eq,List.length_range];exact h0))
theorem Lp2.act(h:Lp2 n wL w GP UP QB EB NM b P c)(hb:QB<b/\EB<b/\NM<b)(hF:FdW w' GP UP QB EB NM c' headZ 0 dk0)(g:PgF QB EB NM NM w w'):Lp2 n wL w' GP UP QB EB NM b P c':=
 ⟨h.perm,fun h0=>(h.row h0).keepX g.2 (h.lt h0) (by omega),hF,h.gx.trans (GrX.more g.2 fun k hk=>by omega)⟩
theorem Lp2.swap(h:Lp2 n wL w GP UP QB EB NM b P c)(hb:GP<b/\UP<b/\QB<b/\EB<b/\NM<b)(h0:0<n){i k:Nat}(hi:i<P.length)(hk:k<P.length):
  Lp2 n wL ((w.setCell ⟨b,i,none⟩ (natV P[k])).setCell ⟨b,k,none⟩ (natV P[i])) GP UP QB EB NM b ((P.set i P[k]).set k P[i]) c:=by
 have g:GrX (fun x=>x=b) w ((w.setCell ⟨b,i,none⟩ (natV P[k])).setCell ⟨b,k,none⟩ (natV P[i])):=GrX.trans (GrX.setCell (S:=fun x=>x=b) w (p:=⟨b,i,none⟩) (natV P[k]) rfl) (GrX.setCell (S:=fun x=>x=b) _ (p:=⟨b,k,none⟩) (natV P[i]) rfl)
 have hp:=(List.set_set_perm hi hk).trans h.perm
 have hr:=((h.row h0).set (i:=i) P[k]).set (i:=k) P[i]
 have hf:=h.fd.keepX g (by omega)
 exact⟨hp,fun _=>hr,hf,h.gx.trans (GrX.more g fun k hk=>.inr (.inr (.inr hk)))⟩
end
theorem swap_take{P:List Nat}{i k:Nat}(hik:i<=k)(x y:Nat):((P.set i x).set k y).take i=P.take i:=by
 rw[List.take_set_of_le hik,List.take_set_of_le (Nat.le_refl _)]
theorem perm_next{P:List Nat}{n i:Nat}(h:P.Perm (List.range n))(hi:i<n):∃hp:i<P.length,P[i]<n/\P[i]∉P.take i/\P.take (i+1)=P.take i++[P[i]]/\(∀r∈P.take i,r<n)/\(P.take i).length=i:=by
 have hl:P.length=n:=by rw[h.length_eq,List.length_range]
 have hp:i<P.length:=by omega
 have hnd:P.Nodup:=h.nodup_iff.2 List.nodup_range
 refine⟨hp,List.mem_range.1 (h.mem_iff.1 (List.getElem_mem hp)),fun hm=>?_,List.take_succ_eq_append_getElem hp,fun r hr=>List.mem_range.1 (h.mem_iff.1 (List.mem_of_mem_take hr)),by rw[List.length_take];omega⟩
 obtain⟨j,hj,e⟩:=List.getElem_of_mem hm
 rw[List.length_take]at hj
 rw[List.getElem_take]at e
 exact List.pairwise_iff_getElem.1 hnd j i (by omega) hp (by omega) e
theorem pickN_lt(a:Int){n:Int}(hn:0<n):0<=a % 18446744073709551616 % n/\a % 18446744073709551616 % n<n:=⟨Int.emod_nonneg _ (by omega),Int.emod_lt_of_pos _ hn⟩
section
variable{ts:List ByteArray}{pg:Nat->ByteArray}{n:ByteArray}{M:PM}{E:ByteArray->Prop}{V0:Nat}{c:Ch}{X:Tr}
structure TellsE(X:Tr)(c:Ch)(pg:Nat->ByteArray)(n:ByteArray)(NL:List GNote)(ls:List (ByteArray×Int×ByteArray)):Prop where
 lays:X.lays c pg 3
 many:(X.get manyK=none/\NL.length=0)\/X.get manyK=some (cntB NL.length)
 beg:BegW X n ls
 few:ls.length<=1000
 has:∀wd,OkW wd->∃PS,HasW X n wd PS/\PS.flatten=refL NL wd
theorem FinR.tells{rs:List Nat}(hn:OkW n)(h1n:n.size<=1)(hV0:V0<=802)(h:FinR pg n M E V0 ts rs c X)(hl:rs.length<=20):
  ∃ls,TellsE X c pg n (NR ts rs) ls/\(squeeze (begL ⟨#[]⟩ ls)).Pairwise (wLt n)/\∀w,w∈squeeze (begL ⟨#[]⟩ ls)↔OkW w/\refL (NR ts rs) w≠[]:=by
 obtain⟨K,V,h1,h2⟩:=h
 have hV:V<12145:=by
  rcases h2 with⟨_,h2⟩|⟨_,h2⟩<;>omega
 obtain⟨ls,b1,b2,b3,b4⟩:=ev_begin hn h1 hV
 refine⟨ls,⟨h1.tg.lays,h1.get,b1,b2,fun wd hwd=>?_⟩,b3,b4⟩
 obtain⟨PS,e1,e2,e3⟩:=h1.has wd hwd
 exact⟨PS,h1.hasW hn h1n hV hwd e1 e2 e3,e3⟩
theorem ev_same{P:List Nat}{N:Nat}(hp:P.Perm (List.range N)){la lb:List (ByteArray×Int×ByteArray)}{n:ByteArray}
  (a1:(squeeze (begL ⟨#[]⟩ la)).Pairwise (wLt n)) (a2:∀w,w∈squeeze (begL ⟨#[]⟩ la)↔OkW w/\refL (NR ts (List.range N)) w≠[])
  (b1:(squeeze (begL ⟨#[]⟩ lb)).Pairwise (wLt n)) (b2:∀w,w∈squeeze (begL ⟨#[]⟩ lb)↔OkW w/\refL (NR ts P) w≠[]):
  refL (NR ts P)=refL (NR ts (List.range N))/\(NR ts P).length=(NR ts (List.range N)).length/\squeeze (begL ⟨#[]⟩ lb)=squeeze (begL ⟨#[]⟩ la):=by
 have hp2:=NR_mem (ts:=ts) hp
 have e:=refL_same (NL:=NR ts P) (NL':=NR ts (List.range N)) fun x=>hp2.mem_iff
 refine⟨e,hp2.length_eq,?_⟩
 rw[e]at b2
 exact ev_words b1 a1 b2 a2
theorem ev_right{NL:List GNote}{ls:List (ByteArray×Int×ByteArray)}(h:TellsE X c pg n NL ls){wd:ByteArray}(hw:OkW wd):placesB (refL NL wd)=true/\(refL NL wd).length<=100000:=by
 obtain⟨PS,h1,h2⟩:=h.has wd hw
 rw[<-h2]
 refine⟨placesB_rising (fun p hp=>?_) h1.ok.flat,h1.few⟩
 obtain⟨l,hl,hp⟩:=List.mem_flatten.1 hp
 exact h1.ok.fine l hl p hp
theorem ev_places{w:World}{FP TP PB DB M':Nat}{sv:Head}{t:Int}{dk:Dk}(hF:FdW w FP TP PB DB M' c sv t dk){NL:List GNote}{ls:List (ByteArray×Int×ByteArray)}(h:TellsE X c dk.pg n NL ls)(hn:OkW n){wd:ByteArray}(hw:OkW wd):
  Calls Tryz.prog 21 #[.pointer (some ⟨FP,0,none⟩),.string n,.string wd] w fun e w'=>∃v,e=.returned (.tuple #[v,.nilIface])/\OwnP w w' v (refL NL wd)/\Gr w w':=by
 obtain⟨PS,h1,h2⟩:=h.has wd hw
 have h7:=places_w hF h.lays hn hw h1
 rw[h2]at h7
 exact h7
theorem ev_sum{N:Nat}(hts:∀r∈List.range N,(ts.getD r ⟨#[]⟩).size<=40){us:List ByteArray}(hu:us.Pairwise (wLt n))(hm:∀w,w∈us↔OkW w/\refL (NR ts (List.range N)) w≠[]):
  (us.map fun w=>(refL (NR ts (List.range N)) w).length).sum=(NR ts (List.range N)).length:=by
 refine sum_refL (NR_nodup List.nodup_range) (hu.imp fun{a b} hab e=>?_) fun x hx=>?_
 ·subst e
  exact wLt_asymm n _ _ hab hab
 ·refine(hm x.1).2 ⟨(nr_mem hts hx).2.1,fun e=>?_⟩
  have:x.2∈refL (NR ts (List.range N)) x.1:=by
   unfold refL
   rw[setOf_mem]
   unfold ofP
   exact List.mem_map.2 ⟨x,List.mem_filter.2 ⟨hx,by simp⟩,rfl⟩
  rw[e]at this
  cases this
theorem sum_take{α:Type}(f:α->Nat)(us:List α){i:Nat}(h:i<us.length):((us.take (i+1)).map f).sum=((us.take i).map f).sum+f us[i]:=by
 rw[List.take_succ_eq_append_getElem h,List.map_append,List.sum_append]
 simp
theorem ev_sums(L:Ct)(us:List ByteArray){N:Nat}(h:(us.map fun w=>(L w).length).sum=N):∃sm:Nat->Nat,sm 0=0/\(∀i (h:i<us.length),sm (i+1)=sm i+(L us[i]).length)/\sm us.length=N/\∀i,sm i<=N:=by
 refine⟨fun i=>((us.take i).map fun w=>(L w).length).sum,rfl,fun i h=>sum_take _ us h,?_,fun i=>?_⟩
 ·show((us.take us.length).map fun w=>(L w).length).sum=N
  rw[List.take_length]
  exact h
 ·rw[<-h]
  have e:(us.map fun w=>(L w).length).sum=((us.take i).map fun w=>(L w).length).sum+((us.drop i).map fun w=>(L w).length).sum:=by
   rw[<-List.sum_append,<-List.map_append,List.take_append_drop]
  show((us.take i).map fun w=>(L w).length).sum<=_
  omega
theorem nr_len500{N:Nat}(hN:N<=20)(hts:∀r∈List.range N,(ts.getD r ⟨#[]⟩).size<=40):(NR ts (List.range N)).length<=400:=by
 have:=nr_len hts
 rw[List.length_range]at this
 omega
end
def MoreI(pg:Nat->ByteArray)(n:ByteArray)(V:Nat)(ws:List ByteArray)(R:Int)(L:Ct)(N:Nat)(todo:List ByteArray)(c:Ch)(X:Tr):Prop:=
 todo.Nodup/\(∀w∈todo,w∈ws)/\N+nOcc ws todo<=1000/\∃K,MSt pg n V ws (dist ws) R L todo (N+nOcc ws todo) K c X
section
variable{ts:List ByteArray}{pg:Nat->ByteArray}{n:ByteArray}{c:Ch}{X:Tr}{V N:Nat}{L:Ct}{K:LP}{R:Int}{ws:List ByteArray}
theorem more_i0(hN:N+ws.length<=1000)(h:∃K',MSt pg n V ws (dist ws) R L (dist ws) (N+ws.length) K' c X):MoreI pg n V ws R L N (dist ws) c X:=by
 have e:=nOcc_all (dist_nodup ws) fun x hx=>dist_mem.2 hx
 refine⟨dist_nodup ws,fun w hw=>dist_mem.1 hw,by omega,?_⟩
 rw[e]
 exact h
theorem more_i1(h:MoreI pg n V ws R L N [] c X):∃K,FSt pg n V (Mfull n ws (dist ws)) (EX n ws R) L N K c X/\K≠[]:=by
 obtain⟨_,_,_,K,h1⟩:=h
 refine⟨K,more_end (us:=dist ws) h1,fun e=>?_⟩
 have h2:=h1.cnt
 rw[e]at h2
 cases h2
theorem rin_more(hn:OkW n)(h1n:n.size<=1)(hV:V<12145){more:ByteArray}(hm:more.size<=40)(hR:1000<=R/\R<=1100){rs:List Nat}(hts:∀r∈rs,(ts.getD r ⟨#[]⟩).size<=40)(hrs:∀r∈rs,r<25)(hl:rs.length<=20)
  (h:FSt pg n V (Mfull n (splitS more) (dist (splitS more))) (EX n (splitS more) (R-1)) (refL (NR ts rs)) (NR ts rs).length K c X) (hK:K≠[]):
  (∀wd∈splitS more,OkW wd/\∃PS,HasW X n wd PS/\∀p∈PS.flatten,p.1≠R)/\
  ((X.get manyK=none/\(NR ts rs).length=0)\/X.get manyK=some (cntB (NR ts rs).length))/\
  (NR ts rs).length+(splitS more).length<=500/\
  (∃c1 X1,putR c 3 X manyK (cntB ((NR ts rs).length+(splitS more).length))=(c1,X1,0)/\AddsOk pg n R (splitS more) (fun c' X'=>MoreI pg n V (splitS more) R (refL (NR ts rs)) (NR ts rs).length (dist (splitS more)) c' X') [] (splitS more) c1 X1)/\
  ∀t1 wd t2 c X,MoreI pg n V (splitS more) R (refL (NR ts rs)) (NR ts rs).length (t1++wd::t2) c X->DropOk1 pg n wd R (MoreI pg n V (splitS more) R (refL (NR ts rs)) (NR ts rs).length (t1++t2)) c X:=by
 have hx:=rin_mcx (V:=V) (ts:=ts) (rs:=rs) (R:=R) hn h1n hV hm hR hts hrs
 have hlen:=nr_len hts
 obtain⟨w1,_,w3⟩:=short_words hm
 refine⟨fun wd hwd=>⟨(w3 wd hwd).1,?_⟩,h.get,by omega,?_,fun t1 wd t2 c X hI=>more_off hx hI⟩
 ·obtain⟨PS,e1,e2,e3⟩:=h.has wd (w3 wd hwd).1
  refine⟨PS,h.hasW hn h1n hV (w3 wd hwd).1 e1 e2 e3,fun p hp=>?_⟩
  rw[e3]at hp
  obtain⟨r2,hr2,e4⟩:=refL_row hts hp
  have:=hrs r2 hr2
  omega
 ·obtain⟨c1,X1,a1,a2⟩:=more_on hx (h.to (Nat.le_refl _) (ex_next (R:=R-1) (R':=R) (by omega))) hK
  exact⟨c1,X1,a1,a2.mono fun c' X' h7=>more_i0 (by omega) h7⟩
end
end Go.Proofs.YtldmhjbdahjhdaaGreatDoor.Ev
namespace Go.Proofs.YtldmhjbdahjhdaaGreatDoor.Ev
open Go Go.RowKit Go.Shelf Go.Lib Go.Sort Go.Maps
theorem finderEven_main(ts:List ByteArray)(ao:Option Addr)(cap:Nat)(os:List Int)(bo:Option Addr)(cap2:Nat)(more:ByteArray)(h20:ts.length<=20)(h40:os.length<=40)(hm:more.size<=40)(w:World)(ht:TxtAt w ao ts)(ho:NumAt w bo os)(he:EndsAt w)(hE:ErrTypeAt w)(hM:MaxAt w):
   Calls Tryz.prog 4 #[.slice ao ts.length cap,.slice bo os.length cap2,.string more] w (Ret w (.bool true)):=by
 have g1:¬(20:Int)<(ts.length:Int):=by omega
 have g1':decide ((20:Int)<(ts.length:Int))=false:=by simp;omega
 have g2:¬(40:Int)<(os.length:Int):=by omega
 have g2':decide ((40:Int)<(os.length:Int))=false:=by simp;omega
 have g3:¬(40:Int)<(more.size:Int):=by omega
 have g3':decide ((40:Int)<(more.size:Int))=false:=by simp;omega
 have HN:=Lib.hid (noted_t w he hE hM)
 have HB:=Lib.hid (And.intro he (And.intro hE hM))
 have HT:=Lib.hid ht
 have HO:=Lib.hid ho
 clear he hE hM ht ho
 go_enter Tryz.func4,Tryz.ntmps4
 go_wp2_with fail
 refine HN.out.mono ?_
 rintro e w1 ⟨rfl,hg1⟩
 go_wp2_with fail
 refine(found_w w1).mono ?_
 rintro e w2 ⟨FP,TP,PB,DB,M,rfl,hF,hlo,hg2⟩
 go_wp2_with fail
 refine(found_w w2).mono ?_
 rintro e w3 ⟨GP,UP,QB,EB,NM,rfl,hG,hlo2,hg3⟩
 have HG:=Lib.hid ((hg1.trans hg2).trans hg3)
 have HF:=Lib.hid (hF.gr hg3)
 have HGF:=Lib.hid hG
 have HLO:=Lib.hid (And.intro hg1.size (And.intro hlo (And.intro hF.lt (And.intro hlo2 hG.lt))))
 clear hg1 hg2 hg3 hF hG hlo hlo2
 go_wp2_with fail
 go_loopw [9,10] (fun rv iv w'=>∃(i:Nat) (c:Ch) (X:Tr),i<=ts.length/\iv=.int .i64 i/\(OwnVR natV 3 w w' rv (List.range i)/\∀b,rv.ownBlock=some b->w3.heap.size<=b)/\FdW w' FP TP PB DB M c headZ 0 dk0/\FinR dk0.pg nmN [] (fun _=>False) 347 ts (List.range i) c X/\(∀j,j<i->(ts.getD j ⟨#[]⟩).size<=40)/\GrX (fun b=>b=PB\/b=DB\/b=M) w3 w') (fun _ iv _=>ts.length-(intOf iv).toNat)
 case atStart=>exact⟨0,_,_,Nat.zero_le _,rfl,⟨ownVR_nil _ _ _ _,fun b h=>by cases h⟩,HF.out,rin_start nmN ts (M:=[]) (fun _ h=>by cases h) (fun _=>False) (by decide) (by omega),fun j hj=>absurd hj (Nat.not_lt_zero _),GrX.refl _ _⟩
 case round=>
  as_aux_lemma=>
   obtain⟨i,c,X,hi,rfl,⟨hr,hrb⟩,hf,hX,hs,hgx⟩:=hrel
   have hgr:=hgx.gr HG.out (fun b hb=>by
    have:=HLO.out
    omega)
   by_cases hlt:i<ts.length
   ·have hil:(i:Int)<(ts.length:Int):=by omega
    obtain⟨tx,htx⟩:∃tx,ts[i]=tx:=⟨_,rfl⟩
    obtain⟨B,off,rfl,k0⟩:=HT.out i hlt
    rw[htx]at k0
    have hgd:ts.getD i ⟨#[]⟩=tx:=by
      rw[List.getD_eq_getElem?_getD,List.getElem?_eq_getElem hlt,htx]
      rfl
    have k1:=hgr.keeps k0
    by_cases h4:tx.size<=40
    · have g40:decide ((40:Int)<(tx.size:Int))=false:=by simp;omega
      have g40':¬(40:Int)<(tx.size:Int):=by omega
      have hwi:IntKind.i64.wrap ((i:Int)+1)=(i:Int)+1:=by
       rw[IntKind.wrap_i64]
       omega
      have hst:=rin_step nmN_ok (by decide) (by omega) (fun _ h=>h.elim) hX (fun r hr=>hs r (List.mem_range.1 hr)) (fun r hr=>by have:=List.mem_range.1 hr;omega) (by rw[List.length_range];omega) (r:=i) (by omega) (by simp) (by rw[hgd];exact h4)
      rw[hgd]at hst
      have hBA:BaseAt w PB DB M:=⟨HB.out.1,HB.out.2.1,HB.out.2.2,by have:=HLO.out;omega⟩
      have had:=fun W (g:Gr wr W)=>add_w hBA (hgr.trans g) (hf.gr g) hX.lays nmN_ok (by decide) (row:=(i:Int)+1) (by omega) h4 hst.1 hst.2.1 hst.2.2.1 hst.2.2.2
      have HAD:=Lib.hid had
      have HR:=Lib.hid hr
      have HS:=Lib.hid hs
      have HGX:=Lib.hid hgx
      have HGR:=Lib.hid hgr
      have HGD:=Lib.hid hgd
      have HRB:=Lib.hid hrb
      have hf9:=hr.row.form
      clear had hst hr hrb hs hgx hgr hf hX hBA k0 htx hgd
      rw[List.length_range]at hf9
      obtain⟨a9,c9,rfl⟩:=hf9
      go_wp2_with fail
      refine(HAD.out wr (Gr.refl wr)).mono ?_
      rintro e w5 ⟨rfl,c5,X5,hF5,⟨K5,hs5,hK5⟩,hp5⟩
      have hX5:=FinR.of hs5 hK5
      rw[<-List.range_succ]at hX5
      have hgx5:=HGX.out.trans hp5.2
      have hr5:=OwnVR.keepX HR.out hp5.2 (fun b hb=>by
       have h1:=HRB.out b hb
       have h2:=HLO.out
       omega)
      have hgr5:=hgx5.gr HG.out (fun b hb=>by
       have:=HLO.out
       omega)
      have HR5:=Lib.hid hr5
      have HGR5:=Lib.hid hgr5
      have HH:=Lib.hid (And.intro hF5 (And.intro hX5 hgx5))
      clear hs5 hK5 hF5 hX5 hgx5 hp5 hr5 hgr5
      go_wp2_with(at_builtin;refine append_v (a0:=w) (enc:=natV) rfl _ _ 49 3 (.int .i64 0) 8 Tryz.underlying49 info_int1 rfl (by omega) rfl _ (List.range i) rfl (HR5.out) i rfl rfl (by rw[List.length_range];omega) HGR5.out ?_;intro v8 w8 ho8 hg8 hm8)
      have hmx:=MovedB.grX hm8 HGR5.out hg8
      have hap:∀k,(Value.slice a9 i c9).ownBlock=some k->w3.heap.size<=k:=HRB.out
      have hE8:FdW w8 FP TP PB DB M c5 headZ 0 dk0:=HH.out.1.keepX hmx (by
       have h1:=HLO.out
       refine⟨fun e=>?_,fun e=>?_,fun e=>?_,fun e=>?_,fun e=>?_⟩<;>have h2:=hap _ e<;>omega)
      have hb8:∀b,v8.ownBlock=some b->w3.heap.size<=b:=fun b e=>by
       rcases Nat.lt_or_ge b w5.heap.size with h7|h7
       · by_cases h6:(Value.slice a9 i c9).ownBlock=some b
         ·exact hap b h6
         ·exact absurd e (hm8.2 b h7 h6).1
       · have:=HH.out.2.2.2.2.2.1
         omega
      have hgx8:GrX (fun b=>b=PB\/b=DB\/b=M) w3 w8:=GrX.past HH.out.2.2 hmx hap
      have HE:=Lib.hid (And.intro ho8 (And.intro hb8 (And.intro hE8 (And.intro HH.out.2.1 hgx8))))
      clear ho8 hg8 hm8 hmx hap hE8 hb8 hgx8
      go_wp2_with fail
      obtain⟨e1,e2,e3,e4,e5⟩:=HE.out
      rw[<-List.range_succ]at e1
      refine⟨⟨i+1,c5,X5,hlt,by go_num,⟨e1,e2⟩,e3,e4,fun j hj=>?_,e5⟩,by simp[intOf];omega⟩
      rcases Nat.lt_or_ge j i with h7|h7
      ·exact HS.out j h7
      ·have:j=i:=by omega
       rw[this,HGD.out]
       exact h4
    · have g40:decide ((40:Int)<(tx.size:Int))=true:=by simp;omega
      have g40':(40:Int)<(tx.size:Int):=by omega
      have HGR:=Lib.hid hgr
      clear hr hrb hs hgx hgr hf hX k0 htx hgd
      go_wp2_with fail
      go_ret
      exact Ret.mk rfl HGR.out
   ·have hil:¬(i:Int)<(ts.length:Int):=by omega
    have hie:i=ts.length:=by omega
    obtain⟨wL,hwL⟩:∃x,x=wr:=⟨_,rfl⟩
    subst hwL
    have hg:=HGF.out.keepX hgx (by have:=HLO.out;omega)
    obtain⟨b,ao9,c9,hf9,hb9,hrw⟩:=rw_of hr hrb hgx.2.2.2.1
    rw[List.length_range]at hf9 hrw
    rw[hie]at hf9 hrw hX hs
    have hmass:massA (Mfull nmN (splitS more) (dist (splitS more)))<=802:=by
      have h1:=(short_words hm).2.1
      rw[mass_full nmN (dist_nodup _) fun x hx=>dist_mem.2 hx]
      omega
    have hfin:=rin_start nmN ts (full_gm (splitS more) (dist (splitS more))) (EX nmN (splitS more) (999+((0:Nat):Int))) hmass (by omega)
    have HFIN:=Lib.hid hfin
    have HLP:Hid (Lp2 ts.length wL wL GP UP QB EB NM b (List.range ts.length) (Ch.new headZ)):=Lib.hid ⟨List.Perm.refl _,fun h0=>(hrw h0).2.2,hg,GrX.refl _ _⟩
    have HAO:Hid (0<ts.length->ao9=some ⟨b,0,none⟩):=Lib.hid fun h0=>(hrw h0).1
    have HNB:Hid ((FP<GP/\FP<UP/\FP<QB/\FP<EB/\FP<NM/\TP<GP/\TP<UP/\TP<QB/\TP<EB/\TP<NM/\PB<GP/\PB<UP/\PB<QB/\PB<EB/\PB<NM)/\(DB<GP/\DB<UP/\DB<QB/\DB<EB/\DB<NM/\M<GP/\M<UP/\M<QB/\M<EB/\M<NM)/\(FP<b/\TP<b/\PB<b/\DB<b/\M<b/\GP<b/\UP<b/\QB<b/\EB<b/\NM<b)/\(w.heap.size<=FP/\w.heap.size<=GP/\w.heap.size<=QB/\w.heap.size<=EB/\w.heap.size<=NM/\w.heap.size<=b)):=Lib.hid (by
      have:=HLO.out
      omega)
    have HFX:=Lib.hid (And.intro hf hX)
    have HS:=Lib.hid hs
    have HGR:=Lib.hid hgr
    clear hf hX hs hgr hr hrb hgx hg hmass hfin hb9 hrw
    subst hf9
    go_wp2_with fail
    go_loopw [11] (fun iv w'=>∃(i:Nat) (P:List Nat) (c2:Ch) (X2:Tr),i<=ts.length/\iv=.int .i64 i/\Lp2 ts.length wL w' GP UP QB EB NM b P c2/\FinR dk0.pg nmN (Mfull nmN (splitS more) (dist (splitS more))) (EX nmN (splitS more) (999+(i:Int))) 802 ts (P.take i) c2 X2) (fun iv _=>ts.length-(intOf iv).toNat)
    case atStart=>exact⟨0,List.range ts.length,_,_,Nat.zero_le _,rfl,HLP.out,HFIN.out⟩
    case round=>
     as_aux_lemma=>
      obtain⟨i2,P,c2,X2,hi2,rfl,hlp,hfin⟩:=hrel
      have hgr2:=hlp.gx.gr HGR.out (fun k hk=>by
       have:=HNB.out
       omega)
      have HLP2:=Lib.hid hlp
      have HFN2:=Lib.hid hfin
      have HGR2:=Lib.hid hgr2
      clear hlp hfin hgr2
      by_cases hlt2:i2<ts.length
      ·have hil2:(i2:Int)<(ts.length:Int):=by omega
       have h0:0<ts.length:=by omega
       obtain rfl:=HAO.out h0
       go_upto_if 83 with(fail)
       go_cut [12] (fun _ wx=>∃P2,Lp2 ts.length wL wx GP UP QB EB NM b P2 c2/\P2.take i2=P.take i2)
       case first=>
        as_aux_lemma=>
         rcases Nat.eq_zero_or_pos os.length with h9|h9
         ·have g9:decide ((0:Int)<(os.length:Int))=false:=decide_eq_false (by omega)
          have g9':¬(0:Int)<(os.length:Int):=by omega
          clear h9
          go_wp2_with fail
          go_meet
          exact⟨P,HLP2.out,rfl⟩
         ·have g9:decide ((0:Int)<(os.length:Int))=true:=decide_eq_true (by omega)
          have g9':(0:Int)<(os.length:Int):=by omega
          have hmo:i2 % os.length<os.length:=Nat.mod_lt _ h9
          obtain⟨ob,ooff,rfl,k0⟩:=HO.out (i2 % os.length) hmo
          have k1:=HGR2.out.keeps k0
          obtain⟨x,hx⟩:∃x,os[i2 % os.length]=x:=⟨_,rfl⟩
          rw[hx]at k1
          have hrem:(i2:Int).tmod (os.length:Int)=((i2 % os.length:Nat):Int):=rfl
          obtain⟨j,hj⟩:∃j,i2 % os.length=j:=⟨_,rfl⟩
          rw[hj]at hmo k1 hrem
          have hmo':(j:Int)<(os.length:Int):=by omega
          have hwj:wrap64 (j:Int)=(j:Int):=by
            unfold wrap64
            omega
          have hsub:IntKind.i64.wrap ((ts.length:Int)-(i2:Int))=(ts.length:Int)-(i2:Int):=by
            rw[IntKind.wrap_i64]
            omega
          have hne9:((os.length:Int)==0)=false:=beq_eq_false_iff_ne.2 (by omega)
          obtain⟨q,hq⟩:∃q:Nat,x % 18446744073709551616 % ((ts.length:Int)-(i2:Int))=(q:Int):=⟨_,(Int.toNat_of_nonneg (pickN_lt x (by omega)).1).symm⟩
          have hql:(q:Int)<(ts.length:Int)-(i2:Int):=by
            rw[<-hq]
            exact(pickN_lt x (by omega)).2
          obtain⟨k,hk⟩:∃k,i2+q=k:=⟨_,rfl⟩
          have hkk:IntKind.i64.wrap ((i2:Int)+(q:Int))=(k:Int):=by
            rw[IntKind.wrap_i64]
            omega
          have hpick:=fun W=>pick_t x ((ts.length:Int)-(i2:Int)) (by omega) (by omega) W
          rw[hq]at hpick
          have HPK:=Lib.hid hpick
          have HK:=Lib.hid (show i2<=k/\k<ts.length by omega)
          clear k0 hx hj hq hpick hk hql
          go_wp2_with fail
          refine(HPK.out _).mono ?_
          rintro e w6 ⟨rfl,hg6⟩
          have hlp6:=HLP2.out.gr hg6
          have HLP6:=Lib.hid hlp6
          have hkl:(k:Int)<(ts.length:Int):=by have:=HK.out;omega
          have hpl:P.length=ts.length:=by rw[hlp6.perm.length_eq,List.length_range]
          have hip:i2<P.length:=by omega
          have hkp:k<P.length:=by omega
          have y0:w6.cell? ⟨b,i2,none⟩=some (.int .i64 (P[i2]:Int)):=(hlp6.row h0).cell i2 hip
          have y1:w6.cell? ⟨b,k,none⟩=some (.int .i64 (P[k]:Int)):=(hlp6.row h0).cell k hkp
          have z0:=(hlp6.row h0).fz i2
          have z1:=(hlp6.row h0).fz k
          have hsw:=hlp6.swap (by have:=HNB.out;omega) h0 hip hkp
          have htk:=swap_take (P:=P) (by have:=HK.out;omega:i2<=k) P[k] P[i2]
          obtain⟨Pi,hPi⟩:∃v,P[i2]=v:=⟨_,rfl⟩
          obtain⟨Pk,hPk⟩:∃v,P[k]=v:=⟨_,rfl⟩
          rw[hPi]at y0
          rw[hPk]at y1
          rw[hPi,hPk]at hsw htk
          have HSW:=Lib.hid hsw
          have HTK:=Lib.hid htk
          obtain⟨u1,y2⟩:=cell?_setCell_some (w:=w6) (p:=⟨b,i2,none⟩) (x:=.int .i64 (Pk:Int)) (q:=⟨b,k,none⟩) y1
          clear hsw htk hlp6 hPi hPk hg6
          go_wp2_with fail
          go_region
          all_goals
            go_wp2_with fail
            go_meet
            exact⟨_,HSW.out.gr (Gr.refl _).drew,HTK.out⟩
       case rest=>
        as_aux_lemma=>
         obtain⟨P2,hlp3,htk⟩:=hcut
         obtain⟨hpl,hrn,hnm,htk1,hin,htl⟩:=perm_next hlp3.perm hlt2
         obtain⟨r,hr⟩:∃r,P2[i2]=r:=⟨_,rfl⟩
         have k0:wc.cell? ⟨b,i2,none⟩=some (.int .i64 (r:Int)):=by
          rw[<-hr]
          exact(hlp3.row h0).cell i2 hpl
         rw[hr]at hrn hnm htk1
         obtain⟨B,off,rfl,k1⟩:=HT.out r hrn
         obtain⟨tx,htx⟩:∃tx,ts[r]=tx:=⟨_,rfl⟩
         rw[htx]at k1
         have hgd:ts.getD r ⟨#[]⟩=tx:=by
          rw[List.getD_eq_getElem?_getD,List.getElem?_eq_getElem hrn,htx]
          rfl
         have h4:tx.size<=40:=by
          rw[<-hgd]
          exact HS.out r hrn
         have hgc:=hlp3.gx.gr HGR.out (fun k hk=>by
          have:=HNB.out
          omega)
         have HBL:=Lib.hid (lt_of_cell k1)
         replace k1:=hgc.keeps k1
         have hfn:=HFN2.out
         rw[<-htk]at hfn
         have hst:=rin_step nmN_ok (by decide) (Nat.le_refl 802) (ex_far nmN_ok (R:=999+(i2:Int)) (by omega)) hfn (fun x hx=>HS.out x (hin x hx)) (fun x hx=>by have:=hin x hx;omega) (by omega) (r:=r) (by omega) hnm (by rw[hgd];exact h4)
         rw[hgd,htl,<-htk1]at hst
         have hBA:BaseAt w QB EB NM:=⟨HB.out.1,HB.out.2.1,HB.out.2.2,by have:=HNB.out;omega⟩
         have had:=fun W (g:Gr wc W)=>add_w hBA (hgc.trans g) (hlp3.fd.gr g) hfn.lays nmN_ok (by decide) (row:=(r:Int)+1) (by omega) h4 hst.1 hst.2.1 hst.2.2.1 hst.2.2.2
         have hri:(r:Int)<(ts.length:Int):=by omega
         have hwr:IntKind.i64.wrap ((r:Int)+1)=(r:Int)+1:=by
          rw[IntKind.wrap_i64]
          omega
         have hwi:IntKind.i64.wrap (1000+(i2:Int))=1000+(i2:Int):=by
          rw[IntKind.wrap_i64]
          omega
         have hww:IntKind.i64.wrap ((i2:Int)+1)=(i2:Int)+1:=by
          rw[IntKind.wrap_i64]
          omega
         have HAD:=Lib.hid had
         have HBA:=Lib.hid hBA
         have HL3:=Lib.hid hlp3
         have HIN:Hid (∀x∈P2.take (i2+1),x<ts.length):=Lib.hid (fun x hx=>by
          rw[htk1]at hx
          rcases List.mem_append.1 hx with h7|h7
          · exact hin x h7
          · rw[List.mem_singleton.1 h7]
            exact hrn)
         have HTL:Hid ((P2.take (i2+1)).length=i2+1):=Lib.hid (by rw[htk1,List.length_append,htl];rfl)
         have HBW:Hid (w.heap.size<=b):=Lib.hid HNB.out.2.2.2.2.2.2.2.2
         clear hst had hBA hfn hlp3 htk hnm htk1 hin htl hr htx hgd
         go_wp2_with fail
         have Gc:Gr wc wc.drew:=(Gr.refl wc).drew
         have y0:=Gc.keeps k0
         have y1:=Gc.keeps k1
         go_region_held3(fun w'=>w'.cell? ⟨b,i2,none⟩=some (.int .i64 (r:Int))/\w'.cell? ⟨B,off+r,none⟩=some (.string tx)) (first|exact⟨y0,y1⟩|exact⟨k0,k1⟩) (first
          |( go_at_call 10;refine(HAD.out _ Gc).mono ?_;rintro e w6 ⟨rfl,c6,X6,hF6,⟨K6,hs6,hK6⟩,hp6⟩;have hl6:=(HL3.out.gr Gc).act (by have:=HNB.out;omega) hF6 hp6;have y0:=hp6.2.keeps (by have:=HNB.out;omega) y0;have y1:=hp6.2.keeps (by have:=HNB.out;have:=HBL.out;omega) y1))
         have HR6:=Lib.hid (And.intro hl6 (And.intro hs6 hK6))
         have hg6:Gr w w6:=hl6.gx.gr HGR.out (fun k hk=>by
          have:=HNB.out
          omega)
         have hmore:=rin_more nmN_ok (by decide) (V:=802+12+401*(i2+1)) (by omega) hm (R:=1000+(i2:Int)) (by omega) (rs:=P2.take (i2+1)) (fun x hx=>HS.out x (HIN.out x hx)) (fun x hx=>by have:=HIN.out x hx;omega) (by have:=HTL.out;omega) (by rw[show 1000+(i2:Int)-1=999+(i2:Int)by omega];exact hs6) hK6
         obtain⟨m1,m2,m3,m4,m5⟩:=hmore
         have had2:=add_w HBA.out hg6 hF6 hs6.tg.lays nmN_ok (by decide) (row:=1000+(i2:Int)) (by omega) hm m1 m2 m3 m4
         have HAD2:=Lib.hid had2
         have HM1:=Lib.hid m1
         have HM5:=Lib.hid m5
         have HG6:=Lib.hid hg6
         clear had2 m1 m2 m3 m4 m5 hg6 hs6 hK6 hl6 hF6 hp6 Gc y0 y1 k0 k1
         go_wp2_with fail
         refine HAD2.out.mono ?_
         rintro e w7 ⟨rfl,c7,X7,hF7,hI7,hp7⟩
         have hl7:=HR6.out.1.act (by have:=HNB.out;omega) hF7 hp7
         have hg7:Gr w w7:=HBA.out.pg HG6.out hp7
         have hdr:=drop_w HBA.out hg7 hF7 hI7 nmN_ok (by decide) (row:=1000+(i2:Int)) (by omega) hm (dist_nodup _) (fun x=>dist_mem) (fun x hx=>(HM1.out x hx).1) HM5.out
         have HDR:=Lib.hid hdr
         have HL7:=Lib.hid hl7
         clear hdr hl7 hg7 hF7 hI7 hp7
         go_wp2_with fail
         refine HDR.out.mono ?_
         rintro e w8 ⟨rfl,c8,X8,hF8,hI8,hp8⟩
         have hl8:=HL7.out.act (by have:=HNB.out;omega) hF8 hp8
         obtain⟨K8,hs8,hK8⟩:=more_i1 hI8
         have hf8:FinR dk0.pg nmN (Mfull nmN (splitS more) (dist (splitS more))) (EX nmN (splitS more) (999+((i2+1:Nat):Int))) 802 ts (P2.take (i2+1)) c8 X8:=⟨K8,_,hs8.to (Nat.le_refl _) (ex_next (by omega)),.inr ⟨hK8,by rw[HTL.out]⟩⟩
         have HE:=Lib.hid (And.intro hl8 hf8)
         clear hl8 hf8 hs8 hK8 hI8 hF8 hp8
         go_wp2_with fail
         exact⟨⟨i2+1,P2,c8,X8,hlt2,by go_num,HE.out.1,HE.out.2⟩,by simp[intOf];omega⟩
      ·have hil2:¬(i2:Int)<(ts.length:Int):=by omega
       have hie2:i2=ts.length:=by omega
       obtain⟨w5,hw5⟩:∃x,x=wr:=⟨_,rfl⟩
       subst hw5
       have hlp:=HLP2.out
       have hfn:=HFN2.out
       have hpl:P.length=ts.length:=by rw[hlp.perm.length_eq,List.length_range]
       rw[hie2,List.take_of_length_le (by omega)]at hfn
       have hff:=HFX.out.1.keepX hlp.gx (by have:=HNB.out;omega)
       have hfg:=hlp.fd
       have hts:∀r∈List.range ts.length,(ts.getD r ⟨#[]⟩).size<=40:=fun r hr=>HS.out r (List.mem_range.1 hr)
       obtain⟨la,ta,ta2,ta3⟩:=HFX.out.2.tells nmN_ok (by decide) (by omega) (by rw[List.length_range];exact h20)
       obtain⟨lb,tb,tb2,tb3⟩:=hfn.tells nmN_ok (by decide) (Nat.le_refl _) (by omega)
       obtain⟨er,el,eb⟩:=ev_same hlp.perm ta2 ta3 tb2 tb3
       have hsum:=ev_sum hts ta2 ta3
       have h400:=nr_len500 h20 hts
       have hper:=hlp.perm
       obtain⟨us,hus⟩:∃us,squeeze (begL ⟨#[]⟩ la)=us:=⟨_,rfl⟩
       obtain⟨NL,hNL⟩:∃NL,NR ts (List.range ts.length)=NL:=⟨_,rfl⟩
       obtain⟨NL2,hNL2⟩:∃NL,NR ts P=NL:=⟨_,rfl⟩
       rw[hus]at ta3 eb hsum
       rw[hNL]at ta ta3 er el hsum h400
       rw[hNL2]at tb er el
       obtain⟨sm,s0,s1,s2,s3⟩:=ev_sums (refL NL) us hsum
       have hb1:=fun W (g:Gr w5 W)=>begin_w (hff.gr g) (HB.out.2.2.gr (HGR2.out.trans g)) ta.lays nmN_ok ta.beg ⟨#[]⟩
       have hb2:=fun W (g:Gr w5 W)=>begin_w (hfg.gr g) (HB.out.2.2.gr (HGR2.out.trans g)) tb.lays nmN_ok tb.beg ⟨#[]⟩
       rw[hus]at hb1
       rw[eb]at hb2
       have hm1:=fun W (g:Gr w5 W)=>many_w (hff.gr g) (HB.out.2.1.gr (HGR2.out.trans g)) (HB.out.2.2.gr (HGR2.out.trans g)) ta.lays (by omega) ta.many
       have hm2:=fun W (g:Gr w5 W)=>many_w (hfg.gr g) (HB.out.2.1.gr (HGR2.out.trans g)) (HB.out.2.2.gr (HGR2.out.trans g)) tb.lays (by omega) tb.many
       rw[el]at hm2
       have hul:us.length<=1000:=by
         rw[<-hus]
         have h1:=squeeze_len (begL ⟨#[]⟩ la)
         have h2:=begL_le ⟨#[]⟩ la
         have h3:=ta.few
         omega
       have hp1:=fun wd (h:OkW wd) W (g:Gr w5 W)=>ev_places (hff.gr g) ta nmN_ok h
       have hp2:=fun wd (h:OkW wd) W (g:Gr w5 W)=>ev_places (hfg.gr g) tb nmN_ok h
       rw[er]at hp2
       have hpb:=fun wd (h:OkW wd)=>ev_right ta h
       have HB1:=Lib.hid hb1
       have HB2:=Lib.hid hb2
       have HM1:=Lib.hid hm1
       have HM2:=Lib.hid hm2
       have HP1:=Lib.hid hp1
       have HP2:=Lib.hid hp2
       have HPB:=Lib.hid hpb
       have HUS:=Lib.hid ta3
       have HSM:=Lib.hid (And.intro s0 (And.intro s1 (And.intro s2 s3)))
       have HUL:=Lib.hid hul
       have H400:=Lib.hid h400
       clear hb1 hb2 hm1 hm2 hp1 hp2 hpb ta ta2 ta3 tb tb2 tb3 er el eb hsum h400 hper hff hfg hts hfn hlp hpl s0 s1 s2 s3 hul hus hNL hNL2
       go_wp2_with fail
       refine(HB1.out w5 (Gr.refl _)).mono ?_
       rintro e w6 ⟨v6,rfl,hs6,hg6⟩
       obtain⟨a6,c6,b6,rfl,ha6,hst6⟩:=hs6
       have HA6:=Lib.hid ha6
       have HS6:=Lib.hid hst6
       have HG6:=Lib.hid hg6
       clear ha6 hst6 hg6
       go_wp2_with fail
       refine(HB2.out w6 HG6.out).mono ?_
       rintro e w7 ⟨v7,rfl,hs7,hg7⟩
       obtain⟨a7,c7,b7,rfl,ha7,hst7⟩:=hs7
       have HA7:=Lib.hid ha7
       have HS7:=Lib.hid hst7
       have HG7:=Lib.hid (HG6.out.trans hg7)
       have HS67:=Lib.hid (HS6.out.gr hg7)
       clear ha7 hst7 hg7
       go_wp2_with fail
       refine(HM1.out w7 HG7.out).mono ?_
       rintro e w8 ⟨rfl,hg8⟩
       have HG8:=Lib.hid (HG7.out.trans hg8)
       have HS8:=Lib.hid (And.intro (HS67.out.gr hg8) (HS7.out.gr hg8))
       clear hg8
       go_wp2_with fail
       refine(HM2.out w8 HG8.out).mono ?_
       rintro e w9 ⟨rfl,hg9⟩
       have HG9:=Lib.hid (HG8.out.trans hg9)
       have HS9:=Lib.hid (And.intro (HS8.out.1.gr hg9) (HS8.out.2.gr hg9))
       clear hg9
       go_wp2_with fail
       refine(sameTexts_k us b6 0 c6 b7 0 c7 a6 a7 (fun h=>(HA6.out h).1) (fun h=>(HA7.out h).1) (by have:=HUL.out;omega) w9 HS9.out.1 HS9.out.2).mono ?_
       rintro e w10 ⟨rfl,hg10⟩
       have HG10:=Lib.hid (HG9.out.trans hg10)
       have HS10:=Lib.hid (HS9.out.1.gr hg10)
       clear hg10
       go_wp2_with fail
       go_loopw [21,22] (fun sv iv w'=>∃i:Nat,i<=us.length/\iv=.int .i64 i/\sv=.int .i64 (sm i)/\Gr w10 w') (fun _ iv _=>us.length-(intOf iv).toNat)
       case atStart=>exact⟨0,Nat.zero_le _,rfl,by rw[HSM.out.1];rfl,Gr.refl _⟩
       case round=>
        as_aux_lemma=>
         obtain⟨i3,hi3,rfl,rfl,hg⟩:=hrel
         have HG:=Lib.hid hg
         clear hg
         by_cases hlt3:i3<us.length
         ·have hil3:(i3:Int)<(us.length:Int):=by omega
          obtain rfl:=(HA6.out (by omega)).1
          have k0:=HG.out.keeps (HS10.out i3 hlt3)
          rw[Nat.zero_add]at k0
          obtain⟨wd,hwd⟩:∃wd,us[i3]=wd:=⟨_,rfl⟩
          have hnx:=HSM.out.2.1 i3 hlt3
          have hu:=(HUS.out us[i3]).1 (List.getElem_mem hlt3)
          rw[hwd]at k0 hnx hu
          obtain⟨hok,hne⟩:=hu
          have hpb:=HPB.out wd hok
          obtain⟨L,hL⟩:∃L,refL NL wd=L:=⟨_,rfl⟩
          have hp1:=HP1.out wd hok
          have hp2:=HP2.out wd hok
          rw[hL]at hpb hp1 hp2 hne hnx
          have hs3:=HSM.out.2.2.2 (i3+1)
          have hnl:=H400.out
          have hln:((L.length:Int)==0)=false:=by
            have:=List.length_pos_iff.2 hne
            simp
            omega
          have hws:IntKind.i64.wrap ((sm i3:Int)+(L.length:Int))=(sm (i3+1):Int):=by
            rw[IntKind.wrap_i64]
            omega
          have hwi:IntKind.i64.wrap ((i3:Int)+1)=(i3:Int)+1:=by
            rw[IntKind.wrap_i64]
            have:=HUL.out
            omega
          have HP1:=Lib.hid hp1
          have HP2:=Lib.hid hp2
          have HPBL:=Lib.hid hpb
          clear hp1 hp2 hpb hnx hs3 hnl hwd hL
          go_wp2_with fail
          refine(HP1.out _ (HG10.out.trans HG.out)).mono ?_
          rintro e w11 ⟨v11,rfl,ho11,hg11⟩
          have hi11:=ho11.own.isP
          have k1:=hg11.keeps k0
          have HI11:=Lib.hid hi11
          have HG11:=Lib.hid (HG.out.trans hg11)
          obtain⟨a11,c11,hf11⟩:=hi11.form
          clear hi11 ho11 hg11 k0
          subst hf11
          go_wp2_with fail
          refine(HP2.out _ (HG10.out.trans HG11.out)).mono ?_
          rintro e w12 ⟨v12,rfl,ho12,hg12⟩
          have hi12:=ho12.own.isP
          have HI12:=Lib.hid hi12
          have HI112:=Lib.hid (HI11.out.gr hg12)
          have HG12:=Lib.hid (HG11.out.trans hg12)
          obtain⟨a12,c12,hf12⟩:=hi12.form
          clear hi12 ho12 hg12 k1
          subst hf12
          have hsp:=same_places L L _ _ w12 HI112.out HI12.out (by have:=HPBL.out.2;omega) (by have:=HPBL.out.2;omega)
          rw[decide_eq_true rfl]at hsp
          have HSP:=Lib.hid hsp
          clear hsp
          go_wp2_with fail
          refine HSP.out.mono ?_
          rintro e w13 ⟨rfl,hg13⟩
          have hrt:=right_is L _ w13 (HI112.out.gr hg13) (by have:=HPBL.out.2;omega)
          rw[HPBL.out.1]at hrt
          have HRT:=Lib.hid hrt
          have HG13:=Lib.hid (HG12.out.trans hg13)
          clear hrt hg13
          go_wp2_with fail
          refine HRT.out.mono ?_
          rintro e w14 ⟨rfl,hg14⟩
          have HG14:=Lib.hid (HG13.out.trans hg14)
          clear hg14
          go_wp2_with fail
          exact⟨⟨i3+1,hlt3,by go_num,rfl,HG14.out⟩,by simp[intOf];omega⟩
         ·have hil3:¬(i3:Int)<(us.length:Int):=by omega
          have hie3:sm i3=NL.length:=by
            rw[show i3=us.length by omega]
            exact HSM.out.2.2.1
          rw[hie3]
          have heq:((NL.length:Int)==(NL.length:Int))=true:=by simp
          go_wp2_with fail
          go_ret
          exact Ret.mk rfl ((HGR2.out.trans HG10.out).trans HG.out)
theorem finderEven_walk(ts:List ByteArray)(ao:Option Addr)(cap:Nat)(os:List Int)(bo:Option Addr)(cap2:Nat)(more:ByteArray)(hts:ts.length<=9223372036854775807)(hos:os.length<=9223372036854775807)(hms:more.size<=9223372036854775807)(w:World)(ht:TxtAt w ao ts)(_hsz:∀t∈ts,t.size<=9223372036854775807)(ho:NumAt w bo os)(he:EndsAt w)(hE:ErrTypeAt w)(hM:MaxAt w):
  Calls Tryz.prog 4 #[.slice ao ts.length cap,.slice bo os.length cap2,.string more] w (Ret w (.bool true)):=by
 by_cases h20:ts.length<=20
 ·by_cases h40:os.length<=40
  ·by_cases hm:more.size<=40
   ·exact finderEven_main ts ao cap os bo cap2 more h20 h40 hm w ht ho he hE hM
   ·have g1:¬(20:Int)<(ts.length:Int):=by omega
    have g1':decide ((20:Int)<(ts.length:Int))=false:=by simp;omega
    have g2:¬(40:Int)<(os.length:Int):=by omega
    have g2':decide ((40:Int)<(os.length:Int))=false:=by simp;omega
    have g3:(40:Int)<(more.size:Int):=by omega
    have g3':decide ((40:Int)<(more.size:Int))=true:=by simp;omega
    clear ht ho he hE hM _hsz
    go_enter Tryz.func4,Tryz.ntmps4
    go_wp2_with fail
    go_ret
    exact Ret.mk rfl (Gr.refl _)
  ·have g1:¬(20:Int)<(ts.length:Int):=by omega
   have g1':decide ((20:Int)<(ts.length:Int))=false:=by simp;omega
   have g2:(40:Int)<(os.length:Int):=by omega
   have g2':decide ((40:Int)<(os.length:Int))=true:=by simp;omega
   clear ht ho he hE hM _hsz
   go_enter Tryz.func4,Tryz.ntmps4
   go_wp2_with fail
   go_ret
   exact Ret.mk rfl (Gr.refl _)
 ·have g1:(20:Int)<(ts.length:Int):=by omega
  have g1':decide ((20:Int)<(ts.length:Int))=true:=by simp;omega
  clear ht ho he hE hM _hsz
  go_enter Tryz.func4,Tryz.ntmps4
  go_wp2_with fail
  go_ret
  exact Ret.mk rfl (Gr.refl _)
end Go.Proofs.YtldmhjbdahjhdaaGreatDoor.Ev
