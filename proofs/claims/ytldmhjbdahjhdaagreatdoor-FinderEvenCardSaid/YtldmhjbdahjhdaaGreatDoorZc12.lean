/-
  Part 12 of the proof.
-/
import Derived.Test.YtldmhjbdahjhdaaGreatDoorZc11
set_option maxRecDepth 100000
set_option maxHeartbeats 100000000
set_option linter.all false
namespace Go.Proofs.YtldmhjbdahjhdaaGreatDoor
section
open Go Go.RowKit
theorem write_notes(c:Ch)(k:Int)(s:ByteArray):(c.write k s).h.notes=c.h.notes:=by rw[write_usedQ]
theorem alloc_notes(c:Ch):c.alloc.h.notes=c.h.notes:=by
 unfold Ch.alloc
 split<;>rfl
theorem free_notes(c:Ch)(k:Int):(c.free k).h.notes=c.h.notes:=by
 unfold Ch.free
 split<;>rfl
theorem root_notesQ(c:Ch)(i:Nat)(p:Int):(c.root i p).h.notes=c.h.notes:=by
 show(fun j=>if j=i then c.h.notes i else c.h.notes j)=c.h.notes
 funext j
 by_cases h:j=i
 ·rw[h,if_pos rfl]
 ·rw[if_neg h]
theorem splitL_notes{X:Type}(en:ByteArray×X->En)(leaf:Bool)(c:Ch)(p:Nat)(l old:List (ByteArray×X)):(splitL en leaf c p l old).1.h.notes=c.h.notes:=by
 unfold splitL
 split
 ·exact write_notes _ _ _
 ·split
  ·rfl
  ·show((c.alloc.write _ _).write _ _).h.notes=_
   rw[write_notes,write_notes,alloc_notes]
theorem putT_notes:∀{d:Nat} (c:Ch) (t:T d) (k v:ByteArray),(putT c t k v).1.h.notes=c.h.notes
 |0,c,t,k,v=>by
  rw[show putT (d:=0) c t k v=splitL enL true c (Prod.fst t) (putL (Prod.snd t) k v) (Prod.snd t)from putT.eq_1 c k v t]
  exact splitL_notes _ _ _ _ _ _
 |d+1,c,t,k,v=>by
  obtain⟨p,l⟩:Nat×List (ByteArray×T d):=t
  cases hx:l[downE (l.map Prod.fst) k]? with
  |none=>
   have e:putT (d:=d+1) c ((p,l):Nat×List (ByteArray×T d)) k v=(c,((p,l):Nat×List (ByteArray×T d)),none):=by
    refine(putT.eq_2 c k v d ((p,l):Nat×List (ByteArray×T d))).trans ?_
    simp only[hx]
    rfl
   rw[e]
  |some x=>
   have ih:=putT_notes c x.2 k v
   rcases he:putT c x.2 k v with⟨c1,u,r⟩
   rw[he]at ih
   have ih:c1.h.notes=c.h.notes:=ih
   rcases r with _|_|m
   ·have e:(putT (d:=d+1) c ((p,l):Nat×List (ByteArray×T d)) k v).1=c1:=by
     refine(congrArg Prod.fst (putT.eq_2 c k v d ((p,l):Nat×List (ByteArray×T d)))).trans ?_
     simp only[hx,he]
    rw[e]
    exact ih
   ·have e:(putT (d:=d+1) c ((p,l):Nat×List (ByteArray×T d)) k v).1.h.notes=c1.h.notes:=by
     refine(congrArg (fun z=>z.1.h.notes) (putT.eq_2 c k v d ((p,l):Nat×List (ByteArray×T d)))).trans ?_
     simp only[hx,he]
     exact splitL_notes _ _ _ _ _ _
    rw[e]
    exact ih
   ·have e:(putT (d:=d+1) c ((p,l):Nat×List (ByteArray×T d)) k v).1.h.notes=c1.h.notes:=by
     refine(congrArg (fun z=>z.1.h.notes) (putT.eq_2 c k v d ((p,l):Nat×List (ByteArray×T d)))).trans ?_
     simp only[hx,he]
     exact splitL_notes _ _ _ _ _ _
    rw[e]
    exact ih
theorem putsT_notes(c:Ch)(i:Nat)(t:Tr)(k v:ByteArray):(putsT c i t k v).1.h.notes=c.h.notes:=by
 cases t with
 |none=>
  cases ha:allocF c.h with
  |none=>
   unfold putsT
   rw[ha]
  |some q=>
   unfold putsT
   rw[ha]
   show((c.alloc.write _ _).root _ _).h.notes=_
   rw[root_notesQ,write_notes,alloc_notes]
 |some x=>
  obtain⟨d,t⟩:=x
  have h:=putT_notes c t k v
  rcases he:putT c t k v with⟨c1,u,r⟩
  rw[he]at h
  have h:c1.h.notes=c.h.notes:=h
  rcases r with _|_|m
  ·unfold putsT
   simp only[he]
   exact h
  ·unfold putsT
   simp only[he]
   exact h
  ·cases ha:allocF c1.h with
   |none=>
    unfold putsT
    simp only[he,ha]
    exact h
   |some q=>
    unfold putsT
    simp only[he,ha]
    rw[root_notesQ,write_notes,alloc_notes]
    exact h
theorem joinT_notes{d:Nat}(c:Ch)(l:List (ByteArray×T d))(k:Nat)(u:T d):(joinT c l k u).1.h.notes=c.h.notes:=by
 unfold joinT
 split
 ·rfl
 ·split
  ·split
   ·rfl
   ·rw[free_notes,write_notes]
  ·rfl
theorem dropT_notes:∀{d:Nat} (c:Ch) (t:T d) (k:ByteArray),(dropT c t k).1.h.notes=c.h.notes
 |0,c,t,k=>write_notes _ _ _
 |d+1,c,t,k=>by
  obtain⟨p,l⟩:Nat×List (ByteArray×T d):=t
  cases hx:l[downE (l.map Prod.fst) k]? with
  |none=>
   have e:dropT (d:=d+1) c ((p,l):Nat×List (ByteArray×T d)) k=(c,((p,l):Nat×List (ByteArray×T d))):=by
    refine(dropT.eq_2 c k d ((p,l):Nat×List (ByteArray×T d))).trans ?_
    simp only[hx]
    rfl
   rw[e]
  |some x=>
   have ih:=dropT_notes c x.2 k
   rcases he:dropT c x.2 k with⟨c1,u⟩
   rw[he]at ih
   have ih:c1.h.notes=c.h.notes:=ih
   have e:(dropT (d:=d+1) c ((p,l):Nat×List (ByteArray×T d)) k).1.h.notes=c1.h.notes:=by
    refine(congrArg (fun z=>z.1.h.notes) (dropT.eq_2 c k d ((p,l):Nat×List (ByteArray×T d)))).trans ?_
    simp only[hx,he]
    rw[write_notes]
    split
    ·exact free_notes _ _
    ·exact joinT_notes _ _ _ _
   rw[e]
   exact ih
theorem dropsT_notes(c:Ch)(i:Nat)(t:Tr)(k:ByteArray):(dropsT c i t k).1.h.notes=c.h.notes:=by
 rcases t with _|⟨_|d,t⟩
 ·rfl
 ·have h:=dropT_notes c t k
  unfold dropsT
  simp only
  split
  ·rw[root_notesQ,free_notes]
   exact h
  ·exact h
 ·have h:=dropT_notes c t k
  unfold dropsT
  simp only
  split
  ·rw[root_notesQ,free_notes]
   exact h
  ·split
   ·rw[root_notesQ,free_notes]
    exact h
   ·exact h
section
variable{ω:Wt}{pg:Nat->ByteArray}{b0 k:ByteArray}{i:Nat}{c:Ch}{X:Tr}{K:LP}{r V:Nat}{A:ByteArray->Prop}
theorem oz_none{l:LP}{k:ByteArray}(h:getA l k=none):oz ω l k=0:=by
 unfold oz
 rw[h]
theorem oz_some{l:LP}{k v:ByteArray}(h:getA l k=some v):oz ω l k=ω k v:=by
 unfold oz
 rw[h]
theorem set_notesQ(c:Ch)(i:Nat)(p n:Int)(F:Int->Option ByteArray):(⟨c.h.setRoot i p n,F⟩:Ch).h.notes i=n:=by
 show(if i=i then n else _)=n
 rw[if_pos rfl]
theorem moreT_eq{c:Ch}{i:Nat}{m n:Int}(h:c.h.notes i+m=n)(h0:0<=n/\n<65536):moreT c i m=(⟨c.h.setRoot i (c.h.roots i) n,c.F⟩,0):=by
 unfold moreT
 rw[h,if_pos h0]
end
def getV:Option ByteArray->Value
 |none=>.tuple #[.string noB,errV 7]
 |some s=>.tuple #[.string s,.nilIface]
section
variable{w:World}{PB DB M:Nat}{c:Ch}{sv:Head}{t:Int}{d:Dk}
theorem get_step{key:ByteArray}:{n:Nat}->(x:T n)->x.okT->x.lays c d.pg->
  (isLeaf n=true/\HasN c d.pg true x.pg x.ents/\OkN true x.ents/\getT key x=if hitE (keysE x.ents) key then(x.ents[searchE (keysE x.ents) key]?).map En.item else none)\/
  (isLeaf n=false/\HasN c d.pg false x.pg x.ents/\OkN false x.ents/\downE (keysE x.ents) key<x.ents.length/\∃m,n=m+1/\∃y:T m,(∃e,x.ents[downE (keysE x.ents) key]?=some e/\e.page=y.pg)/\y.okT/\y.lays c d.pg/\getT key x=getT key y)
 |0,x,ho,hl=>by
  obtain⟨p,l⟩:Nat×List (ByteArray×ByteArray):=x
  refine .inl ⟨rfl,hl,ho,?_⟩
  have hk:keysE (T.ents (d:=0) (p,l))=l.map Prod.fst:=keysE_L l
  rw[hk]
  show(if hitE (l.map Prod.fst) key then(l[searchE (l.map Prod.fst) key]?).map Prod.snd else none)=if hitE (l.map Prod.fst) key then((l.map enL)[searchE (l.map Prod.fst) key]?).map En.item else none
  rw[List.getElem?_map,Option.map_map]
  rfl
 |n+1,x,ho,hl=>by
  obtain⟨p,l⟩:Nat×List (ByteArray×T n):=x
  have hk:keysE (T.ents (d:=n+1) (p,l))=l.map Prod.fst:=keysE_N l
  have hne:l.map Prod.fst≠[]:=fun e=>ho.1.1 (by
   have:l=[]:=List.map_eq_nil_iff.1 e
   show l.map enN=[]
   rw[this]
   rfl)
  have hdl:=downE_lt hne key
  have hdl2:=hdl
  rw[List.length_map]at hdl
  refine .inr ⟨rfl,hl.1,ho.1,?_,n,rfl,?_⟩
  ·rw[hk]
   show _<(l.map enN).length
   rw[List.length_map]
   exact hdl
  rw[hk]
  obtain⟨y,hy⟩:∃y,l[downE (l.map Prod.fst) key]?=some y:=⟨_,List.getElem?_eq_getElem hdl⟩
  have hym:y∈l:=List.mem_of_getElem? hy
  refine⟨y.2,⟨enN y,?_,rfl⟩,ho.2 y hym,hl.2 y hym,?_⟩
  ·show(l.map enN)[downE (l.map Prod.fst) key]?=_
   rw[List.getElem?_map,hy]
   rfl
  ·show((l[downE (l.map Prod.fst) key]?).bind fun x=>getT key x.2)=_
   rw[hy]
   rfl
theorem get_n(h:PgT w PB DB M c sv t d){TP root:Nat}(ht:TreeAt w TP PB root)(hr:root<8)(key:ByteArray){tr:Tr}(hl:tr.lays c d.pg root):
  Calls Tryz.prog 67 #[.pointer (some ⟨TP,0,none⟩),.string key] w (Ret w (getV (tr.get key))):=by
 have hst:=start_n h ht hr
 have HST:=Lib.hid hst
 have hrd:=fun(W:World) (g:Gr w W) {leaf:Bool} {p:Nat} {l:List En} (hp:HasN c d.pg leaf p l) (hok:OkN leaf l)=>read_n (h.gr g).s (ht.gr g) hp hok.2.2 hok.2.1
 have HRD:=Lib.hid hrd
 obtain⟨G,hG⟩:∃G,tr.get key=G:=⟨_,rfl⟩
 rw[hG]
 have HP:Hid ((c.h.roots root=0/\G=none)\/∃n,∃x:T n,c.h.roots root=(x.pg:Nat)/\x.okT/\x.lays c d.pg/\getT key x=G):=by
  cases tr with
  |none=>exact .inl ⟨hl,hG.symm⟩
  |some x=>exact .inr ⟨x.1,x.2,hl.1,hl.2.2.1,hl.2.1,hG⟩
 clear hst hrd hG hl
 go_enter Tryz.func67,Tryz.ntmps67
 go_wp2_with(go_at_call 119;refine HST.out.mono ?_;rintro e w1 ⟨rfl,hg1⟩)
 have HG1:=Lib.hid hg1
 have HH:=Lib.hid (And.intro h ht)
 obtain⟨N0,hN0⟩:∃N0:Nat,(c.h.roots root=0/\G=none)\/∃n,N0=n+1/\∃x:T n,c.h.roots root=(x.pg:Nat)/\x.okT/\x.lays c d.pg/\getT key x=G:=by
  rcases HP.out with hz|⟨n,x,hx⟩
  ·exact⟨0,.inl hz⟩
  ·exact⟨n+1,.inr ⟨n,rfl,x,hx⟩⟩
 have HN0:=Lib.hid hN0
 clear hN0 hg1 HP
 go_loopg [6] N0 (fun k pv wr=>Gr w wr/\∃pg:Nat,pv=.int .i64 (pg:Int)/\((pg=0/\G=none)\/∃n,k=n+1/\∃x:T n,pg=x.pg/\x.okT/\x.lays c d.pg/\getT key x=G))
 case atStart=>
  refine⟨HG1.out,?_⟩
  rcases HN0.out with⟨e1,e2⟩|⟨n,e1,x,e2,e3⟩
  ·exact⟨0,by rw[e1];rfl,.inl ⟨rfl,e2⟩⟩
  ·exact⟨x.pg,by rw[e2],.inr ⟨n,e1,x,rfl,e3⟩⟩
 case round=>
  obtain⟨hg,pg,rfl,hk⟩:=hrel
  rcases hk with⟨rfl,hG⟩|⟨n,rfl,x,rfl,ho,hl,hG⟩
  ·have hGe:getV G=.tuple #[.string noB,errV 7]:=by rw[hG];rfl
   have HGE:=Lib.hid hGe
   have hRet:Ret w (getV G) (.returned (.tuple #[.string noB,errV 7])) wr:=by rw[hGe];exact Ret.mk rfl hg
   have HRet:=Lib.hid hRet
   clear hGe hRet hG hg
   go_wp2_with fail
   go_ret2
   exact HRet.out
  ·have hus:=(T.lays_used hl _ (T.pg_mem x)).1
   have hst:=get_step (key:=key) x ho hl
   have hpi:(0:Int)<(x.pg:Int):=by omega
   have HGr:=Lib.hid hg
   rcases hst with⟨i1,i2,i3,i4⟩|⟨i1,i2,i3,i4,m,rfl,y,⟨en,i6,i7⟩,i8,i9,i10⟩
   ·have hrdx:=HRD.out _ hg i2 i3
    unfold nodeV at hrdx
    have hln:x.ents.length<=600:=by
     have h1:=sumE_len true x.ents
     have h2:=i3.2.1
     unfold bytesE at h2
     omega
    obtain⟨l,hle⟩:∃l,x.ents=l:=⟨_,rfl⟩
    obtain⟨p,hpe⟩:∃p,x.pg=p:=⟨_,rfl⟩
    rw[hle]at hrdx hln
    rw[hG,hle]at i4
    have HI4:=Lib.hid i4
    clear i4 hG
    rw[hpe]at hrdx hpi⊢
    have HRDX:=Lib.hid hrdx
    clear hrdx hg i2 i3 hle hpe ho hl hus
    go_wp2_with fail
    refine HRDX.out.mono ?_
    rintro e w3 ⟨s3,rfl,ho3,hg3⟩
    obtain⟨ao,ca,rfl⟩:=ho3.form
    have hfn:=fun W (g:Gr w3 W)=>find_n p true l (.slice ao l.length ca) key W (ho3.isE.gr g) (by omega)
    unfold nodeV at hfn
    simp only[if_true]at hfn
    have HFN:=Lib.hid hfn
    clear hfn
    have hga:Gr w3 (w3.alloc (.cells #[.int .i64 (p:Int),.bool true,.slice ao l.length ca] 200)):=(Gr.refl w3).alloc _
    have k0:(w3.alloc (.cells #[.int .i64 (p:Int),.bool true,.slice ao l.length ca] 200)).cell? ⟨w3.heap.size,0,none⟩=some (.int .i64 (p:Int)):=by rw[World.cell?_alloc_new];rfl
    have k1:(w3.alloc (.cells #[.int .i64 (p:Int),.bool true,.slice ao l.length ca] 200)).cell? ⟨w3.heap.size,1,none⟩=some (.bool true):=by rw[World.cell?_alloc_new];rfl
    have k2:(w3.alloc (.cells #[.int .i64 (p:Int),.bool true,.slice ao l.length ca] 200)).cell? ⟨w3.heap.size,2,none⟩=some (.slice ao l.length ca):=by rw[World.cell?_alloc_new];rfl
    go_wp2_with fail
    obtain⟨NB,hNB⟩:∃NB,w3.heap.size=NB:=⟨_,rfl⟩
    rw[hNB]at k0 k1 k2⊢
    refine(HFN.out _ hga).mono ?_
    rintro e w4 ⟨rfl,hg4⟩
    replace k0:=hg4.keeps k0
    replace k1:=hg4.keeps k1
    replace k2:=hg4.keeps k2
    have HG4:=Lib.hid (((HGr.out.trans hg3).trans hga).trans hg4)
    have ho4:=ho3.gr (hga.trans hg4)
    cases hh:hitE (keysE l) key with
    |false=>
     have hRet:Ret w (getV G) (.returned (.tuple #[.string noB,errV 7])) w4:=by
      rw[HI4.out,hh]
      exact Ret.mk rfl HG4.out
     have HRet:=Lib.hid hRet
     clear hRet
     go_wp2_with fail
     go_ret2
     exact HRet.out
    |true=>
     have hlt:=hitE_lt hh
     have hkl:(keysE l).length=l.length:=by unfold keysE;rw[List.length_map]
     obtain⟨S,hS⟩:∃S,searchE (keysE l) key=S:=⟨_,rfl⟩
     rw[hS]at hlt HI4⊢
     have hSl:S<l.length:=by omega
     rcases ho4.at' with⟨_,e2⟩|⟨B,cap,e3,h2,h3,h4,h5,h6⟩
     ·rw[e2]at hSl
      exact absurd hSl (by simp)
     obtain⟨rfl,rfl⟩:ao=some ⟨B,0,none⟩/\ca=cap:=by
      injection e3 with e1 e2 e3
      exact⟨e1,e3⟩
     obtain⟨_,b1,_⟩:=h5 S hSl
     rw[Nat.zero_add]at b1
     have hRet:Ret w (getV G) (.returned (.tuple #[.string l[S].item,.nilIface])) w4:=by
      rw[HI4.out,hh,if_pos rfl,List.getElem?_eq_getElem hSl]
      exact Ret.mk rfl HG4.out
     have HRet:=Lib.hid hRet
     generalize l[S].item=it at*
     have hSi:(S:Int)<(l.length:Int):=by omega
     clear hRet h5 h6 e3 hkl
     go_wp2_with fail
     go_ret2
     exact HRet.out
   ·have hrdx:=HRD.out _ hg i2 i3
    unfold nodeV at hrdx
    have hln:x.ents.length<=600:=by
     have h1:=sumE_len false x.ents
     have h2:=i3.2.1
     unfold bytesE at h2
     omega
    obtain⟨l,hle⟩:∃l,x.ents=l:=⟨_,rfl⟩
    obtain⟨p,hpe⟩:∃p,x.pg=p:=⟨_,rfl⟩
    rw[hle]at hrdx i4 i6 hln
    rw[hpe]at hrdx hpi⊢
    have HRDX:=Lib.hid hrdx
    rw[hG]at i10
    have HN:=Lib.hid (And.intro i8 (And.intro i9 i10.symm))
    clear i8 i9 i10 hG
    clear hrdx hg i2 i3 hle hpe ho hl hus
    go_wp2_with fail
    refine HRDX.out.mono ?_
    rintro e w3 ⟨s3,rfl,ho3,hg3⟩
    obtain⟨ao,ca,rfl⟩:=ho3.form
    have hfn:=fun W (g:Gr w3 W)=>find_n p false l (.slice ao l.length ca) key W (ho3.isE.gr g) (by omega)
    unfold nodeV at hfn
    simp only[Bool.false_eq_true,if_false]at hfn
    have HFN:=Lib.hid hfn
    clear hfn
    have hga:Gr w3 (w3.alloc (.cells #[.int .i64 (p:Int),.bool false,.slice ao l.length ca] 200)):=(Gr.refl w3).alloc _
    have k0:(w3.alloc (.cells #[.int .i64 (p:Int),.bool false,.slice ao l.length ca] 200)).cell? ⟨w3.heap.size,0,none⟩=some (.int .i64 (p:Int)):=by rw[World.cell?_alloc_new];rfl
    have k1:(w3.alloc (.cells #[.int .i64 (p:Int),.bool false,.slice ao l.length ca] 200)).cell? ⟨w3.heap.size,1,none⟩=some (.bool false):=by rw[World.cell?_alloc_new];rfl
    have k2:(w3.alloc (.cells #[.int .i64 (p:Int),.bool false,.slice ao l.length ca] 200)).cell? ⟨w3.heap.size,2,none⟩=some (.slice ao l.length ca):=by rw[World.cell?_alloc_new];rfl
    go_wp2_with fail
    obtain⟨NB,hNB⟩:∃NB,w3.heap.size=NB:=⟨_,rfl⟩
    rw[hNB]at k0 k1 k2⊢
    refine(HFN.out _ hga).mono ?_
    rintro e w4 ⟨rfl,hg4⟩
    replace k0:=hg4.keeps k0
    replace k1:=hg4.keeps k1
    replace k2:=hg4.keeps k2
    have HG4:=Lib.hid (((HGr.out.trans hg3).trans hga).trans hg4)
    have ho4:=ho3.gr (hga.trans hg4)
    obtain⟨K,hK⟩:∃K,downE (keysE l) key=K:=⟨_,rfl⟩
    rw[hK]at i4 i6⊢
    rcases ho4.at' with⟨_,e2⟩|⟨B,cap,e3,h2,h3,h4,h5,h6⟩
    ·rw[e2]at i4
     exact absurd i4 (by simp)
    obtain⟨rfl,rfl⟩:ao=some ⟨B,0,none⟩/\ca=cap:=by
     injection e3 with e1 e2 e3
     exact⟨e1,e3⟩
    obtain⟨_,_,b2⟩:=h5 K i4
    rw[Nat.zero_add]at b2
    have hen:l[K]=en:=by
     rw[List.getElem?_eq_getElem i4]at i6
     exact Option.some.inj i6
    rw[hen,i7]at b2
    have hKi:(K:Int)<(l.length:Int):=by omega
    clear h5 h6 e3 i6 i7 hen
    generalize hitE (keysE l) key=hit at*
    go_wp2_with fail
    go_roundg (m+1)
    case rel=>exact⟨HG4.out,y.pg,rfl,.inr ⟨m,rfl,y,rfl,HN.out.1,HN.out.2.1,HN.out.2.2⟩⟩
    case measure=>omega
end
theorem setS_zero{c:Ch}(h:c.fine){i:Nat}(hi:i<8)(p:Int):setS c i p 0=(c.root i p,0):=by
 have hn:=h.head.note i hi
 unfold setS Ch.root
 rw[Int.add_zero,if_pos hn]
theorem one_isE(w:World)(key item:ByteArray)(pg:Nat):IsE (w.alloc (.cells #[.string key,.string item,.int .i64 (pg:Int)] 206)) (.slice (some ⟨w.heap.size,0,none⟩) 1 1) [⟨key,item,pg⟩]:=by
 have:OneE (w.alloc (.cells #[.string key,.string item,.int .i64 (pg:Int)] 206)) w.heap.size ⟨key,item,pg⟩:=⟨by show(w.heap.push _)[w.heap.size]?=_;rw[Array.getElem?_push_size];rfl⟩
 exact this.isE
section
variable{w:World}{PB DB M:Nat}{c:Ch}{sv:Head}{t:Int}{d:Dk}
theorem puts_none(h:PgT w PB DB M c sv t d){TP root:Nat}(ht:TreeAt w TP PB root)(hTn:TP≠PB/\TP≠DB/\TP≠M)(hr:root<8)(key item:ByteArray)(hk:key.size<=60)(hi:item.size<=100)(h0:c.h.roots root=0):
  Calls Tryz.prog 144 #[.pointer (some ⟨TP,0,none⟩),.agg #[.string key,.string item,.int .i64 0]] w fun e w'=>e=.returned (errV (putsT c root none key item).2.2)/\PgT w' PB DB M (putsT c root none key item).1 sv t d/\PgF PB DB M M w w':=by
 have hlw:=h.lt
 have htl:=lt_of_cell ht.p
 have gE:Gr w (w.alloc (.cells #[.string key,.string item,.int .i64 0] 206)):=(Gr.refl w).alloc _
 have e0:(w.alloc (.cells #[.string key,.string item,.int .i64 0] 206)).cell? ⟨w.heap.size,0,none⟩=some (.string key):=by rw[World.cell?_alloc_new];rfl
 have e1:(w.alloc (.cells #[.string key,.string item,.int .i64 0] 206)).cell? ⟨w.heap.size,1,none⟩=some (.string item):=by rw[World.cell?_alloc_new];rfl
 have e2:(w.alloc (.cells #[.string key,.string item,.int .i64 0] 206)).cell? ⟨w.heap.size,2,none⟩=some (.int .i64 0):=by rw[World.cell?_alloc_new];rfl
 have hst:=start_n (h.gr gE) (ht.gr gE) hr
 rw[h0]at hst
 have HST:=Lib.hid hst
 have HE:=Lib.hid gE
 have hEW:w.heap.size<(w.alloc (.cells #[.string key,.string item,.int .i64 0] 206)).heap.size:=by simp
 obtain⟨PR,hPR⟩:∃PR,putsT c root none key item=PR:=⟨_,rfl⟩
 rw[hPR]
 have HPR:=Lib.hid hPR
 clear hst gE hPR
 go_enter Tryz.func144,Tryz.ntmps144
 go_wp2_with fail
 obtain⟨WE,hWE⟩:∃WE,w.alloc (.cells #[.string key,.string item,.int .i64 0] 206)=WE:=⟨_,rfl⟩
 rw[hWE]at e0 e1 e2 HST HE hEW⊢
 clear hWE
 obtain⟨EB,hEB⟩:∃EB,w.heap.size=EB:=⟨_,rfl⟩
 rw[hEB]at e0 e1 e2 hEW hlw htl⊢
 have HEB:=Lib.hid hEB
 clear hEB
 refine HST.out.mono ?_
 rintro e w1 ⟨rfl,hg1⟩
 replace e0:=hg1.keeps e0
 replace e1:=hg1.keeps e1
 replace e2:=hg1.keeps e2
 have hE1:EB<w1.heap.size:=lt_of_cell e0
 have hG1:=HE.out.trans hg1
 have ht1:=ht.gr hG1
 have tp:=ht1.p
 have hal:=alloc_t (h.gr hG1)
 have HAL:=Lib.hid hal
 have HT1:=Lib.hid ht1
 have HG1:=Lib.hid hG1
 have hEP:EB≠PB/\EB≠DB/\EB≠M:=by omega
 have HF:=Lib.hid h.f
 clear hg1 hG1 ht1 hal
 cases ha:allocF c.h with
 |none=>
  have hav:allocV c=.tuple #[.int .i64 0,.iface 24 (.int .i64 12)]:=by
   unfold allocV
   rw[ha]
  have hce:c.alloc=c:=by
   unfold Ch.alloc
   rw[ha]
  rw[hav,hce]at HAL
  have hpr:PR=(c,none,12):=by
   rw[<-HPR.out]
   unfold putsT
   rw[ha]
  have HP:=Lib.hid hpr
  clear hav hce ha hpr
  go_wp2_with fail
  refine HAL.out.mono ?_
  rintro e w2 ⟨rfl,hp2,hf2⟩
  have HX:=Lib.hid (And.intro hp2 hf2)
  clear hp2 hf2
  go_wp2_with fail
  go_ret
  exact⟨by rw[HP.out];rfl,by rw[HP.out];exact HX.out.1,(PgF.of_gr PB DB M HG1.out).trans HX.out.2⟩
 |some k=>
  have hav:allocV c=.tuple #[.int .i64 (k:Int),.nilIface]:=by
   unfold allocV
   rw[ha]
  rw[hav]at HAL
  obtain⟨f1,u1,n1,k1,k2⟩:=alloc_fr (pg:=d.pg) HF.out ha
  have ho:=oneE_ok (key:=key) (item:=item) hk hi
  obtain⟨f2,u2,_⟩:=write_fr (pg:=d.pg) f1.fine u1 (pageE_size ho.2.2 ho.2.1)
  have hpr:PR=((c.alloc.write (k:Nat) (pageE true [⟨key,item,0⟩])).root root (k:Nat),some ⟨0,(k,[(key,item)])⟩,0):=by
   rw[<-HPR.out]
   unfold putsT
   rw[ha]
  have hss:=setS_zero f2.fine hr (k:Nat)
  have HP:=Lib.hid hpr
  have HSS:=Lib.hid hss
  have HOO:=Lib.hid ho
  have HU1:=Lib.hid u1
  clear hav ha hpr hss ho u1 u2 f1 f2 n1
  go_wp2_with fail
  refine HAL.out.mono ?_
  rintro e w2 ⟨rfl,hp2,hf2⟩
  have hE2:EB<w2.heap.size:=Nat.lt_of_lt_of_le hE1 hf2.size
  replace e0:=hf2.keeps hEP.1 hEP.2.1 hEP.2.2 e0
  replace e1:=hf2.keeps hEP.1 hEP.2.1 hEP.2.2 e1
  replace e2:=hf2.keeps hEP.1 hEP.2.1 hEP.2.2 e2
  have ht2:=HT1.out.pg hf2 hTn.1 hTn.2.1 hTn.2.2
  have gS:Gr w2 (w2.alloc (.cells #[.string key,.string item,.int .i64 0] 206)):=(Gr.refl w2).alloc _
  have hwr:=write_n (hp2.gr gS) (ht2.gr gS) (p:=k) (one_isE w2 key item 0) HOO.out.2.2 HOO.out.2.1 HU1.out
  unfold nodeV at hwr
  have HWR:=Lib.hid hwr
  have HT2:=Lib.hid (ht2.gr gS)
  have HF2:=Lib.hid (((PgF.of_gr PB DB M HG1.out).trans hf2).trans (PgF.of_gr PB DB M gS))
  clear hp2 hf2 ht2 gS hwr
  go_wp2_with fail
  refine HWR.out.mono ?_
  rintro e w4 ⟨rfl,hp4,hf4⟩
  have hst:=set_n hp4 (HT2.out.pg hf4 hTn.1 hTn.2.1 hTn.2.2) hTn hr (p:=(k:Int)) (more:=0) (by omega) (by omega)
  rw[HSS.out]at hst
  have HST4:=Lib.hid hst
  have HF4:=Lib.hid (HF2.out.trans hf4)
  clear hp4 hf4 hst
  go_wp2_with fail
  refine HST4.out.mono ?_
  rintro e w5 ⟨rfl,hp5,hf5⟩
  have HX:=Lib.hid (And.intro hp5 (HF4.out.trans hf5))
  clear hp5 hf5
  have hev:errV 0=.nilIface:=rfl
  rw[hev]
  go_wp2_with fail
  go_ret
  exact⟨by rw[HP.out];rfl,by rw[HP.out];exact HX.out.1,HX.out.2⟩
end
theorem two_isE(w:World)(k1 i1 k2 i2:ByteArray)(p1 p2:Nat):IsE (w.alloc (.cells #[.string k1,.string i1,.int .i64 (p1:Int),.string k2,.string i2,.int .i64 (p2:Int)] 206)) (.slice (some ⟨w.heap.size,0,none⟩) 2 2) [⟨k1,i1,p1⟩,⟨k2,i2,p2⟩]:=by
 have hc:∀j,(w.alloc (.cells #[.string k1,.string i1,.int .i64 (p1:Int),.string k2,.string i2,.int .i64 (p2:Int)] 206)).cell? ⟨w.heap.size,j,none⟩=#[Value.string k1,.string i1,.int .i64 (p1:Int),.string k2,.string i2,.int .i64 (p2:Int)][j]?:=fun j=>by rw[World.cell?_alloc_new]
 refine .inr ⟨w.heap.size,0,2,rfl,by simp,fun i hi=>?_⟩
 have:i=0\/i=1:=by simp at hi;omega
 rcases this with rfl|rfl
 ·rw[hc,hc,hc]
  exact⟨rfl,rfl,rfl⟩
 ·rw[hc,hc,hc]
  exact⟨rfl,rfl,rfl⟩
section
variable{w:World}{PB DB M:Nat}{c:Ch}{sv:Head}{t:Int}{d:Dk}
theorem puts_some(h:PgT w PB DB M c sv t d){TP root:Nat}(ht:TreeAt w TP PB root)(hTn:TP≠PB/\TP≠DB/\TP≠M)(hr:root<8)(key item:ByteArray)(hk:key.size<=60)(hi:item.size<=100){n:Nat}{x:T n}(hx:Tr.lays c d.pg root (some ⟨n,x⟩)):
  Calls Tryz.prog 144 #[.pointer (some ⟨TP,0,none⟩),.agg #[.string key,.string item,.int .i64 0]] w fun e w'=>e=.returned (errV (putsT c root (some ⟨n,x⟩) key item).2.2)/\PgT w' PB DB M (putsT c root (some ⟨n,x⟩) key item).1 sv t d/\PgF PB DB M M w w':=by
 obtain⟨hrt,hl,ho,hn⟩:=hx
 have hus:=T.lays_used hl
 have hpos:=(hus _ (T.pg_mem x)).1
 have hlw:=h.lt
 have htl:=lt_of_cell ht.p
 have gE:Gr w (w.alloc (.cells #[.string key,.string item,.int .i64 0] 206)):=(Gr.refl w).alloc _
 have e0:(w.alloc (.cells #[.string key,.string item,.int .i64 0] 206)).cell? ⟨w.heap.size,0,none⟩=some (.string key):=by rw[World.cell?_alloc_new];rfl
 have e1:(w.alloc (.cells #[.string key,.string item,.int .i64 0] 206)).cell? ⟨w.heap.size,1,none⟩=some (.string item):=by rw[World.cell?_alloc_new];rfl
 have e2:(w.alloc (.cells #[.string key,.string item,.int .i64 0] 206)).cell? ⟨w.heap.size,2,none⟩=some (.int .i64 0):=by rw[World.cell?_alloc_new];rfl
 have hst:=start_n (h.gr gE) (ht.gr gE) hr
 rw[hrt]at hst
 have HST:=Lib.hid hst
 have HE:=Lib.hid gE
 have hEW:w.heap.size<(w.alloc (.cells #[.string key,.string item,.int .i64 0] 206)).heap.size:=by simp
 obtain⟨PR,hPR⟩:∃PR,putsT c root (some ⟨n,x⟩) key item=PR:=⟨_,rfl⟩
 rw[hPR]
 have HPR:=Lib.hid hPR
 have hpo:=putT_ok (pg:=d.pg) hk hi h.f hl ho hn
 have hpt:=fun W (g:Gr w W)=>put_t hTn key item hk hi (h.gr g) (ht.gr g) hl ho hn
 rcases hpe:putT c x key item with⟨c1,u,r⟩
 rw[hpe]at hpo
 simp only[hpe]at hpt
 have hpg:u.pg=x.pg:=hpo.page
 have hlu:u.lays c1 d.pg:=hpo.lays
 have hou:u.okT:=hpo.fits
 have hfr1:c1.fine:=hpo.fr.fine
 have hmo:=hpo.more
 have hpx:x.pg=u.pg:=hpg.symm
 rw[hpx]at hpt HST hpos
 have HPT:=Lib.hid hpt
 have HPE:=Lib.hid hpe
 have HMO:=Lib.hid hmo
 have HLU:=Lib.hid hlu
 have HOU:=Lib.hid hou
 clear hst gE hPR hpo hpt hpe hpg hmo hlu hou hpx hus hl ho hn hrt
 go_enter Tryz.func144,Tryz.ntmps144
 go_wp2_with fail
 obtain⟨WE,hWE⟩:∃WE,w.alloc (.cells #[.string key,.string item,.int .i64 0] 206)=WE:=⟨_,rfl⟩
 rw[hWE]at e0 e1 e2 HST HE hEW⊢
 clear hWE
 obtain⟨EB,hEB⟩:∃EB,w.heap.size=EB:=⟨_,rfl⟩
 rw[hEB]at e0 e1 e2 hEW hlw htl⊢
 have HEB:=Lib.hid hEB
 clear hEB
 refine HST.out.mono ?_
 rintro e w1 ⟨rfl,hg1⟩
 replace e0:=hg1.keeps e0
 replace e1:=hg1.keeps e1
 replace e2:=hg1.keeps e2
 have hE1:EB<w1.heap.size:=lt_of_cell e0
 have hG1:=HE.out.trans hg1
 have HT1:=Lib.hid (ht.gr hG1)
 have HG1:=Lib.hid hG1
 have hEP:EB≠PB/\EB≠DB/\EB≠M:=by omega
 have hp0:¬(u.pg:Int)=0:=by omega
 have hp0':¬u.pg=0:=by omega
 have hpt1:=HPT.out _ hG1
 have HPT1:=Lib.hid hpt1
 clear hg1 hG1 hpt1 HPT HST
 obtain⟨P0,hP0⟩:∃P0,u.pg=P0:=⟨_,rfl⟩
 rw[hP0]at HPT1 hp0 hp0' hpos⊢
 have HP0:=Lib.hid hP0
 clear hP0
 go_wp2_with fail
 refine HPT1.out.mono ?_
 rintro e w2 ⟨v,rfl,hm,hp2,hf2⟩
 have ht2:=HT1.out.pg hf2 hTn.1 hTn.2.1 hTn.2.2
 have F2:=(PgF.of_gr PB DB M HG1.out).trans hf2
 rcases r with _|_|m
 ·obtain rfl:v=.tuple #[.pointer none,errV 12]:=hm
  have hev:errV 12=.iface 24 (.int .i64 12):=rfl
  rw[hev]
  have hpr:PR=(c1,some ⟨n,u⟩,12):=by
   rw[<-HPR.out]
   unfold putsT
   simp only[HPE.out]
  have HP:=Lib.hid hpr
  have HX:=Lib.hid (And.intro hp2 F2)
  clear hpr hp2 F2 hf2 ht2
  go_wp2_with fail
  go_ret
  exact⟨by rw[HP.out];rfl,by rw[HP.out];exact HX.out.1,HX.out.2⟩
 ·obtain rfl:v=.tuple #[.pointer none,.nilIface]:=hm
  have hpr:PR=(c1,some ⟨n,u⟩,0):=by
   rw[<-HPR.out]
   unfold putsT
   simp only[HPE.out]
  have HP:=Lib.hid hpr
  have HX:=Lib.hid (And.intro hp2 F2)
  clear hpr hp2 F2 hf2 ht2
  go_wp2_with fail
  go_ret
  exact⟨by rw[HP.out];rfl,by rw[HP.out];exact HX.out.1,HX.out.2⟩
 ·obtain⟨EC,rfl,hec,y0,y1,y2⟩:=hm
  have hN:=(T.lays_iff.1 HLU.out).1
  have hO:=(T.okT_iff.1 HOU.out).1
  rw[HP0.out]at hN
  have hrd:=read_n hp2.s ht2 hN hO.2.2 hO.2.1
  unfold nodeV at hrd
  have hk1:=head_key HOU.out
  have hmt:=HMO.out m rfl
  have hmk:m.1.size<=60:=hmt.2.2.1
  have hmu:=T.lays_used hmt.1 _ (T.pg_mem m.2)
  obtain⟨K1,hK1⟩:∃K1,(u.ents.head?.map En.key).getD noB=K1:=⟨_,rfl⟩
  obtain⟨l,hle⟩:∃l,u.ents=l:=⟨_,rfl⟩
  have hEC:=HEB
  have hy0:w2.cell? ⟨EC,0,none⟩=some (.string m.1):=y0
  have hy1:w2.cell? ⟨EC,1,none⟩=some (.string noB):=y1
  have hy2:w2.cell? ⟨EC,2,none⟩=some (.int .i64 (m.2.pg:Int)):=y2
  have hoT:=twoE_ok (p1:=P0) (p2:=m.2.pg) hk1 hmk hN.1.2.1 hmu.2.1
  rw[hK1]at hoT
  have HK1:=Lib.hid hK1
  rw[hle]at hrd hO hK1
  have hne:=hO.1
  have HNU:=Lib.hid hN.1
  have HRD:=Lib.hid hrd
  have HOT:=Lib.hid hoT
  have HLE:=Lib.hid hle
  have hwE:EB<w2.heap.size:=Nat.lt_of_lt_of_le hE1 hf2.size
  have hECl:EC<w2.heap.size:=lt_of_cell hy0
  have hWE1:EB<=w1.heap.size:=Nat.le_of_lt hE1
  have hECP:EC≠PB/\EC≠DB/\EC≠M:=by omega
  have HP2:=Lib.hid hp2
  have HT2:=Lib.hid ht2
  have HF2:=Lib.hid F2
  have hew:EB<=w2.heap.size:=Nat.le_of_lt hwE
  have hW1E:w1.heap.size<=EC:=hec
  clear hN hO hrd hk1 hmt hmk hoT hle hp2 ht2 F2 hf2 y0 y1 y2 hEC hmu e0 e1 e2
  have hl1:0<l.length:=List.length_pos_iff.2 hne
  have hk0:(l[0]'hl1).key=K1:=by
   rw[<-hK1]
   cases l with
   |nil=>exact absurd rfl hne
   |cons a r=>rfl
  clear hK1
  go_wp2_with fail
  refine HRD.out.mono ?_
  rintro e w3 ⟨s3,rfl,ho3,hg3⟩
  rcases ho3.at' with⟨_,e2⟩|⟨B,cap,rfl,h2,h3,h4,h5,h6⟩
  ·rw[e2]at hl1
   exact absurd hl1 (by simp)
  obtain⟨b0,_,_⟩:=h5 0 hl1
  rw[hk0]at b0
  simp only[Nat.zero_mul,Nat.zero_add]at b0
  have gN:Gr w3 (w3.alloc (.cells #[.int .i64 (P0:Int),.bool (isLeaf n),.slice (some ⟨B,0,none⟩) l.length cap] 200)):=(Gr.refl w3).alloc _
  have n2:(w3.alloc (.cells #[.int .i64 (P0:Int),.bool (isLeaf n),.slice (some ⟨B,0,none⟩) l.length cap] 200)).cell? ⟨w3.heap.size,2,none⟩=some (.slice (some ⟨B,0,none⟩) l.length cap):=by rw[World.cell?_alloc_new];rfl
  replace b0:=gN.keeps b0
  replace hy0:=gN.keeps (hg3.keeps hy0)
  replace hy1:=gN.keeps (hg3.keeps hy1)
  replace hy2:=gN.keeps (hg3.keeps hy2)
  have hal:=alloc_t (HP2.out.gr (hg3.trans gN))
  have HAL:=Lib.hid hal
  have ht4:=HT2.out.gr (hg3.trans gN)
  have tp:=ht4.p
  have HT4:=Lib.hid ht4
  have HF4:=Lib.hid (HF2.out.trans (PgF.of_gr PB DB M (hg3.trans gN)))
  have hNB:w2.heap.size<=w3.heap.size:=hg3.size
  have hl1i:(0:Int)<(l.length:Int):=by omega
  clear h5 h6 ho3 hal ht4
  go_wp2_with fail
  obtain⟨NB,hNBe⟩:∃NB,w3.heap.size=NB:=⟨_,rfl⟩
  rw[hNBe]at n2 hNB⊢
  clear hNBe
  generalize w3.alloc (.cells #[.int .i64 (P0:Int),.bool (isLeaf n),.slice (some ⟨B,0,none⟩) l.length cap] 200)=w4 at*
  cases ha:allocF c1.h with
  |none=>
   have hav:allocV c1=.tuple #[.int .i64 0,.iface 24 (.int .i64 12)]:=by
    unfold allocV
    rw[ha]
   have hce:c1.alloc=c1:=by
    unfold Ch.alloc
    rw[ha]
   rw[hav,hce]at HAL
   have hpr:PR=(c1,some ⟨n,u⟩,12):=by
    rw[<-HPR.out]
    unfold putsT
    simp only[HPE.out,ha]
   have HP:=Lib.hid hpr
   clear hav hce ha hpr
   refine HAL.out.mono ?_
   rintro e w5 ⟨rfl,hp5,hf5⟩
   have HX:=Lib.hid (And.intro hp5 (HF4.out.trans hf5))
   clear hp5 hf5
   go_wp2_with fail
   go_ret
   exact⟨by rw[HP.out];rfl,by rw[HP.out];exact HX.out.1,HX.out.2⟩
  |some k=>
   have hav:allocV c1=.tuple #[.int .i64 (k:Int),.nilIface]:=by
    unfold allocV
    rw[ha]
   rw[hav]at HAL
   obtain⟨f1,u1,n1,k1,k2⟩:=alloc_fr (pg:=d.pg) hfr1 ha
   obtain⟨f2,u2,_⟩:=write_fr (pg:=d.pg) f1.fine u1 (pageE_size HOT.out.2.2 HOT.out.2.1)
   have hpr:PR=((c1.alloc.write (k:Nat) (pageE false (twoE K1 P0 m.1 m.2.pg))).root root (k:Nat),some ⟨n+1,(k,[(K1,u),m])⟩,0):=by
    rw[<-HPR.out]
    unfold putsT
    simp only[HPE.out,ha,HK1.out,HP0.out]
    rfl
   have hss:=setS_zero f2.fine hr (k:Nat)
   have HP:=Lib.hid hpr
   have HSS:=Lib.hid hss
   have HU1:=Lib.hid u1
   clear hav ha hpr hss u1 u2 f1 f2 n1
   refine HAL.out.mono ?_
   rintro e w5 ⟨rfl,hp5,hf5⟩
   have hNP:NB≠PB/\NB≠DB/\NB≠M:=by omega
   have hBP:B≠PB/\B≠DB/\B≠M:=by omega
   replace n2:=hf5.keeps hNP.1 hNP.2.1 hNP.2.2 n2
   replace b0:=hf5.keeps hBP.1 hBP.2.1 hBP.2.2 b0
   replace hy0:=hf5.keeps hECP.1 hECP.2.1 hECP.2.2 hy0
   replace hy1:=hf5.keeps hECP.1 hECP.2.1 hECP.2.2 hy1
   replace hy2:=hf5.keeps hECP.1 hECP.2.1 hECP.2.2 hy2
   have ht5:=HT4.out.pg hf5 hTn.1 hTn.2.1 hTn.2.2
   have gA:=fun W:World=>(Gr.refl W).alloc (.cells #[.string K1,.string noB,.int .i64 (P0:Int),.string m.1,.string noB,.int .i64 (m.2.pg:Int)] 206)
   have hwr:=fun W (g:Gr w5 W)=>write_n (hp5.gr (g.trans (gA W))) (ht5.gr (g.trans (gA W))) (p:=k) (two_isE W K1 noB m.1 noB P0 m.2.pg) HOT.out.2.2 HOT.out.2.1 HU1.out
   unfold nodeV at hwr
   have HWR:=Lib.hid hwr
   have HT5:=Lib.hid ht5
   have HF5:=Lib.hid (HF4.out.trans hf5)
   have HGA:=Lib.hid gA
   obtain⟨mk,hmk⟩:∃mk,m.1=mk:=⟨_,rfl⟩
   obtain⟨mp,hmp⟩:∃mp,(m.2.pg:Int)=mp:=⟨_,rfl⟩
   have hnb:noB=(⟨#[]⟩:ByteArray):=rfl
   rw[hmk]at hy0
   rw[hmp]at hy2
   rw[hmk,hmp]at HWR HGA
   rw[hnb]at hy1 HWR HGA
   clear hp5 hf5 ht5 gA hwr hnb
   go_wp2_with fail
   have Gc:Gr w5 w5.drew:=(Gr.refl w5).drew
   have ga:=HGA.out w5.drew
   have Y1:w5.drew.cell? ⟨NB,2,none⟩=some (.slice (some ⟨B,0,none⟩) l.length cap):=n2
   have Y2:w5.drew.cell? ⟨B,0,none⟩=some (.string K1):=b0
   have Y3:w5.drew.cell? ⟨EC,0,none⟩=some (.string mk):=hy0
   have Y4:w5.drew.cell? ⟨EC,1,none⟩=some (.string ⟨#[]⟩):=hy1
   have Y5:w5.drew.cell? ⟨EC,2,none⟩=some (.int .i64 mp):=hy2
   have Z1:=ga.keeps Y1
   have Z2:=ga.keeps Y2
   have Z3:=ga.keeps Y3
   have Z4:=ga.keeps Y4
   have Z5:=ga.keeps Y5
   have kf:∀W W':World,PgF PB DB M M W W'->(W.cell? ⟨NB,2,none⟩=some (.slice (some ⟨B,0,none⟩) l.length cap)/\W.cell? ⟨B,0,none⟩=some (.string K1)/\W.cell? ⟨EC,0,none⟩=some (.string mk)/\W.cell? ⟨EC,1,none⟩=some (.string ⟨#[]⟩)/\W.cell? ⟨EC,2,none⟩=some (.int .i64 mp))->(W'.cell? ⟨NB,2,none⟩=some (.slice (some ⟨B,0,none⟩) l.length cap)/\W'.cell? ⟨B,0,none⟩=some (.string K1)/\W'.cell? ⟨EC,0,none⟩=some (.string mk)/\W'.cell? ⟨EC,1,none⟩=some (.string ⟨#[]⟩)/\W'.cell? ⟨EC,2,none⟩=some (.int .i64 mp)):=fun W W' f ⟨a1,a2,a3,a4,a5⟩=>⟨f.keeps hNP.1 hNP.2.1 hNP.2.2 a1,f.keeps hBP.1 hBP.2.1 hBP.2.2 a2,f.keeps hECP.1 hECP.2.1 hECP.2.2 a3,f.keeps hECP.1 hECP.2.1 hECP.2.2 a4,f.keeps hECP.1 hECP.2.1 hECP.2.2 a5⟩
   have KF:=Lib.hid kf
   clear kf ga
   go_region_held3(fun w'=>w'.cell? ⟨NB,2,none⟩=some (.slice (some ⟨B,0,none⟩) l.length cap)/\w'.cell? ⟨B,0,none⟩=some (.string K1)/\w'.cell? ⟨EC,0,none⟩=some (.string mk)/\w'.cell? ⟨EC,1,none⟩=some (.string ⟨#[]⟩)/\w'.cell? ⟨EC,2,none⟩=some (.int .i64 mp)) (first|exact⟨Y1,Y2,Y3,Y4,Y5⟩|exact⟨Z1,Z2,Z3,Z4,Z5⟩|exact⟨V1,V2,V3,V4,V5⟩|exact⟨n2,b0,hy0,hy1,hy2⟩) (first|(go_at_call 200;refine(HWR.out _ Gc).mono ?_;rintro e w6 ⟨rfl,hp6,hf6⟩;obtain⟨V1,V2,V3,V4,V5⟩:=KF.out _ _ hf6 ⟨Z1,Z2,Z3,Z4,Z5⟩))
   all_goals
    have hfw:=(PgF.of_gr PB DB M (Gc.trans (HGA.out w5.drew))).trans hf6
    have hst:=set_n hp6 (HT5.out.pg hfw hTn.1 hTn.2.1 hTn.2.2) hTn hr (p:=(k:Int)) (more:=0) (by omega) (by omega)
    have HST6:=Lib.hid hst
    have HFW:=Lib.hid (HF5.out.trans hfw)
    clear hfw hp6 hf6 hst
    go_wp2_with fail
    refine HST6.out.mono ?_
    rintro e w7 ⟨rfl,hp7,hf7⟩
    have hs7:setS (c1.alloc.write (k:Nat) (pageE false [⟨K1,⟨#[]⟩,P0⟩,⟨mk,⟨#[]⟩,m.2.pg⟩])) root (k:Nat) 0=((c1.alloc.write (k:Nat) (pageE false (twoE K1 P0 m.1 m.2.pg))).root root (k:Nat),0):=by
     rw[<-hmk]
     exact HSS.out
    have HX:=Lib.hid (And.intro hp7 (HFW.out.trans hf7))
    rw[hs7]at HX⊢
    clear hp7 hf7 hs7
    have hev:errV 0=.nilIface:=rfl
    rw[hev]
    go_wp2_with fail
    go_ret
    exact⟨by rw[HP.out];rfl,by rw[HP.out];exact HX.out.1,HX.out.2⟩
end
theorem setS_more(c:Ch)(i:Nat)(m:Int):setS c i (c.h.roots i) m=moreT c i m:=rfl
theorem getT_size{key:ByteArray}:∀{n:Nat} {x:T n} {s:ByteArray},x.okT->getT key x=some s->s.size<=100
 |0,x,s,ho,h=>by
  obtain⟨p,l⟩:Nat×List (ByteArray×ByteArray):=x
  have h:(if hitE (l.map Prod.fst) key then(l[searchE (l.map Prod.fst) key]?).map Prod.snd else none)=some s:=h
  split at h
  ·cases hx:l[searchE (l.map Prod.fst) key]? with
   |none=>rw[hx]at h;cases h
   |some y=>
    rw[hx]at h
    have hy:y.2=s:=by simpa using h
    have hm:=List.mem_of_getElem? hx
    have:=(ho.2.2 (enL y) (List.mem_map_of_mem hm)).item
    rw[<-hy]
    exact this
  ·cases h
 |n+1,x,s,ho,h=>by
  obtain⟨p,l⟩:Nat×List (ByteArray×T n):=x
  have h:((l[downE (l.map Prod.fst) key]?).bind fun x=>getT key x.2)=some s:=h
  cases hx:l[downE (l.map Prod.fst) key]? with
  |none=>rw[hx]at h;cases h
  |some y=>
   rw[hx]at h
   exact getT_size (ho.2 y (List.mem_of_getElem? hx)) h
theorem get_size{c:Ch}{pg:Nat->ByteArray}{i:Nat}{tr:Tr}(hl:tr.lays c pg i){key s:ByteArray}(h:tr.get key=some s):s.size<=100:=by
 cases tr with
 |none=>cases h
 |some x=>exact getT_size hl.2.2.1 h
theorem putsT_err(c:Ch)(i:Nat)(tr:Tr)(key item:ByteArray):(putsT c i tr key item).2.2=0\/(putsT c i tr key item).2.2=12:=by
 cases tr with
 |none=>
  cases ha:allocF c.h with
  |none=>
   refine .inr ?_
   unfold putsT
   simp only[ha]
  |some k=>
   refine .inl ?_
   unfold putsT
   simp only[ha]
 |some x=>
  obtain⟨d,t⟩:=x
  rcases he:putT c t key item with⟨c1,u,r⟩
  rcases r with _|_|m
  ·refine .inr ?_
   unfold putsT
   simp only[he]
  ·refine .inl ?_
   unfold putsT
   simp only[he]
  ·cases ha:allocF c1.h with
   |none=>
    refine .inr ?_
    unfold putsT
    simp only[he,ha]
   |some k=>
    refine .inl ?_
    unfold putsT
    simp only[he,ha]
section
variable{w:World}{PB DB M:Nat}{c:Ch}{sv:Head}{t:Int}{d:Dk}
theorem puts_n(h:PgT w PB DB M c sv t d){TP root:Nat}(ht:TreeAt w TP PB root)(hTn:TP≠PB/\TP≠DB/\TP≠M)(hr:root<8)(key item:ByteArray)(hk:key.size<=60)(hi:item.size<=100){tr:Tr}(hl:tr.lays c d.pg root):
  Calls Tryz.prog 144 #[.pointer (some ⟨TP,0,none⟩),.agg #[.string key,.string item,.int .i64 0]] w fun e w'=>e=.returned (errV (putsT c root tr key item).2.2)/\PgT w' PB DB M (putsT c root tr key item).1 sv t d/\PgF PB DB M M w w':=by
 cases tr with
 |none=>exact puts_none h ht hTn hr key item hk hi hl
 |some x=>exact puts_some h ht hTn hr key item hk hi hl
theorem put_n(h:PgT w PB DB M c sv t d){TP root:Nat}(ht:TreeAt w TP PB root)(hTn:TP≠PB/\TP≠DB/\TP≠M)(hr:root<8)(key item:ByteArray){tr:Tr}(hl:tr.lays c d.pg root):
  Calls Tryz.prog 89 #[.pointer (some ⟨TP,0,none⟩),.string key,.string item] w fun e w'=>e=.returned (errV (putR c root tr key item).2.2)/\PgT w' PB DB M (putR c root tr key item).1 sv t d/\PgF PB DB M M w w':=by
 obtain⟨PR,hPR⟩:∃PR,putR c root tr key item=PR:=⟨_,rfl⟩
 rw[hPR]
 have HPR:=Lib.hid hPR
 have tp:=ht.p
 have hnt:=h.f.head.note root hr
 have HH:=Lib.hid (And.intro h (And.intro ht hl))
 clear hPR h ht
 by_cases hs:key.size<1\/60<key.size\/100<item.size
 ·have hpr:PR=(c,tr,1):=by
   rw[<-HPR.out]
   unfold putR
   rw[if_pos hs]
  have HP:=Lib.hid hpr
  clear hpr hl
  go_enter Tryz.func89,Tryz.ntmps89
  have hsi:(key.size:Int)<1\/60<(key.size:Int)\/100<(item.size:Int):=by omega
  clear hs
  have hfin:errV PR.2.2=.iface 24 (.int .i64 1)/\PgT w PB DB M PR.1 sv t d:=by
   rw[HP.out]
   exact⟨rfl,HH.out.1⟩
  have HFIN:=Lib.hid hfin
  clear hfin
  rcases hsi with h1|h1
  ·go_wp2_with fail
   go_ret
   exact⟨by rw[HFIN.out.1];rfl,HFIN.out.2,PgF.of_gr PB DB M (Gr.refl w)⟩
  ·by_cases h0:(key.size:Int)<1
   ·go_wp2_with fail
    go_ret
    exact⟨by rw[HFIN.out.1];rfl,HFIN.out.2,PgF.of_gr PB DB M (Gr.refl w)⟩
   rcases h1 with h1|h1
   ·go_wp2_with fail
    go_ret
    exact⟨by rw[HFIN.out.1];rfl,HFIN.out.2,PgF.of_gr PB DB M (Gr.refl w)⟩
   ·by_cases h2:60<(key.size:Int)
    ·go_wp2_with fail
     go_ret
     exact⟨by rw[HFIN.out.1];rfl,HFIN.out.2,PgF.of_gr PB DB M (Gr.refl w)⟩
    ·go_wp2_with fail
     go_ret
     exact⟨by rw[HFIN.out.1];rfl,HFIN.out.2,PgF.of_gr PB DB M (Gr.refl w)⟩
 ·have hs1:¬(key.size:Int)<1:=by omega
  have hs2:¬60<(key.size:Int):=by omega
  have hs3:¬100<(item.size:Int):=by omega
  have hk60:key.size<=60:=by omega
  have hi100:item.size<=100:=by omega
  have hdn:=down_t HH.out.1
  have HDN:=Lib.hid hdn
  have hgt:=fun W (g:Gr w W)=>get_n (HH.out.1.gr g) (HH.out.2.1.gr g) hr key hl
  have HGT:=Lib.hid hgt
  obtain⟨mo,hmo⟩:∃mo,moreP tr key item=mo:=⟨_,rfl⟩
  have HMO:=Lib.hid hmo
  have HS:=Lib.hid hs
  have HL:=Lib.hid hl
  clear hs hdn hgt hmo
  go_enter Tryz.func89,Tryz.ntmps89
  go_wp2_with fail
  refine HDN.out.mono ?_
  rintro e w1 ⟨rfl,hg1⟩
  have hgt1:=HGT.out _ hg1
  have HGT1:=Lib.hid hgt1
  have HG1:=Lib.hid hg1
  clear hgt1 hg1
  go_wp2_with fail
  have hmb:-200<=mo/\mo<=200:=by
   rw[<-HMO.out]
   unfold moreP
   cases hgk:tr.get key with
   |none=>dsimp only;omega
   |some old=>
    have:=get_size HL.out hgk
    dsimp only
    omega
  refine HGT1.out.mono ?_
  rintro e w2 ⟨rfl,hg2⟩
  have HG2:=Lib.hid (HG1.out.trans hg2)
  clear hg2
  cases hgk:tr.get key with
  |none=>
   have hm:mo=2+(key.size:Int)+item.size:=by
    rw[<-HMO.out]
    unfold moreP
    rw[hgk]
   have HM:=Lib.hid hm
   have hgv:getV none=.tuple #[.string noB,.iface 24 (.int .i64 7)]:=rfl
   rw[hgv]
   clear hm hgk hgv
   have hsm:=sum_n (HH.out.1.gr HG2.out) (HH.out.2.1.gr HG2.out) hr
   have HSM:=Lib.hid hsm
   clear hsm
   go_wp2_with fail
   refine HSM.out.mono ?_
   rintro e w3 ⟨rfl,hg3⟩
   have HG3:=Lib.hid (HG2.out.trans hg3)
   clear hg3
   obtain⟨nt,hnte⟩:∃nt,c.h.notes root=nt:=⟨_,rfl⟩
   rw[hnte]at hnt⊢
   have HNT:=Lib.hid hnte
   clear hnte
   by_cases hf:30000<nt+(2+(key.size:Int)+item.size)
   ·have hpr:PR=(c,tr,12):=by
     rw[<-HPR.out]
     unfold putR
     rw[if_neg HS.out,HMO.out,HNT.out,HM.out,if_pos hf]
    have hfin:errV PR.2.2=.iface 24 (.int .i64 12)/\PgT w3 PB DB M PR.1 sv t d:=by
     rw[hpr]
     exact⟨rfl,HH.out.1.gr HG3.out⟩
    have HFIN:=Lib.hid hfin
    clear hfin hpr
    go_wp2_with fail
    go_ret
    exact⟨by rw[HFIN.out.1];rfl,HFIN.out.2,PgF.of_gr PB DB M HG3.out⟩
   ·have hps:=puts_n (HH.out.1.gr HG3.out) (HH.out.2.1.gr HG3.out) hTn hr key item hk60 hi100 HL.out
    have hpo:=putsT_ok (pg:=d.pg) HH.out.1.f HL.out hr hk60 hi100
    have her:=putsT_err c root tr key item
    have hpr0:putR c root tr key item=match putsT c root tr key item with
     |( c1,u,0)=>((moreT c1 root mo).1,u,(moreT c1 root mo).2)
     |r=>r:=by
     unfold putR
     rw[if_neg HS.out,HMO.out,HNT.out,HM.out,if_neg hf]
     generalize putsT c root tr key item=r
     obtain⟨ra,rb,rn⟩:=r
     cases rn<;>rfl
    rw[HPR.out]at hpr0
    rcases hpe:putsT c root tr key item with⟨c1,u,en⟩
    rw[hpe]at hpo hpr0
    simp only[hpe]at her hps
    have hc1:c1.fine:=hpo.k.fine
    have hri:=hc1.head.root root hr
    have HPS:=Lib.hid hps
    have HPR0:=Lib.hid hpr0
    have HC1:=Lib.hid hc1
    clear hps hpr0 hpo hc1 hpe
    rcases her with her|her
    ·subst her
     have hpr:PR=((moreT c1 root mo).1,u,(moreT c1 root mo).2):=HPR0.out
     have HP:=Lib.hid hpr
     have hev:errV 0=.nilIface:=rfl
     rw[hev]at HPS
     clear hpr hev
     go_wp2_with fail
     refine HPS.out.mono ?_
     rintro e w4 ⟨rfl,hp4,hf4⟩
     have ht4:=(HH.out.2.1.gr HG3.out).pg hf4 hTn.1 hTn.2.1 hTn.2.2
     have hst:=start_n hp4 ht4 hr
     have HST:=Lib.hid hst
     have HP4:=Lib.hid hp4
     have HT4:=Lib.hid ht4
     have HF4:=Lib.hid ((PgF.of_gr PB DB M HG3.out).trans hf4)
     clear hst hp4 ht4 hf4
     go_wp2_with fail
     refine HST.out.mono ?_
     rintro e w5 ⟨rfl,hg5⟩
     have hse:=set_n (HP4.out.gr hg5) (HT4.out.gr hg5) hTn hr (p:=c1.h.roots root) (more:=mo) hri (by omega)
     rw[setS_more]at hse
     have HSE:=Lib.hid hse
     have HF5:=Lib.hid (HF4.out.trans (PgF.of_gr PB DB M hg5))
     clear hse hg5
     rw[HM.out]at HSE HP
     go_wp2_with fail
     refine HSE.out.mono ?_
     rintro e w6 ⟨rfl,hp6,hf6⟩
     have HX:=Lib.hid (And.intro hp6 (HF5.out.trans hf6))
     have hfin:errV PR.2.2=errV (moreT c1 root ((2+(key.size:Int)+item.size))).2/\PgT w6 PB DB M PR.1 sv t d:=by
       rw[HP.out]
       exact⟨rfl,HX.out.1⟩
     have HFIN:=Lib.hid hfin
     clear hfin hp6 hf6
     obtain⟨EV,hEV⟩:∃EV,errV (moreT c1 root ((2+(key.size:Int)+item.size))).2=EV:=⟨_,rfl⟩
     rw[hEV]at HFIN⊢
     clear hEV
     go_wp2_with fail
     go_ret
     exact⟨by rw[HFIN.out.1];rfl,HFIN.out.2,HX.out.2⟩
    ·subst her
     have hpr:PR=(c1,u,12):=HPR0.out
     have HP:=Lib.hid hpr
     have hev:errV 12=.iface 24 (.int .i64 12):=rfl
     rw[hev]at HPS
     clear hpr hev
     go_wp2_with fail
     refine HPS.out.mono ?_
     rintro e w4 ⟨rfl,hp4,hf4⟩
     have HX:=Lib.hid (And.intro hp4 ((PgF.of_gr PB DB M HG3.out).trans hf4))
     clear hp4 hf4
     go_wp2_with fail
     go_ret
     exact⟨by rw[HP.out];rfl,by rw[HP.out];exact HX.out.1,HX.out.2⟩
  |some old=>
   have hm:mo=(item.size:Int)-old.size:=by
    rw[<-HMO.out]
    unfold moreP
    rw[hgk]
   have HM:=Lib.hid hm
   have hos:=get_size HL.out hgk
   have hgv:getV (some old)=.tuple #[.string old,.nilIface]:=rfl
   rw[hgv]
   clear hm hgk hgv
   have hsm:=sum_n (HH.out.1.gr HG2.out) (HH.out.2.1.gr HG2.out) hr
   have HSM:=Lib.hid hsm
   clear hsm
   go_wp2_with fail
   refine HSM.out.mono ?_
   rintro e w3 ⟨rfl,hg3⟩
   have HG3:=Lib.hid (HG2.out.trans hg3)
   clear hg3
   obtain⟨nt,hnte⟩:∃nt,c.h.notes root=nt:=⟨_,rfl⟩
   rw[hnte]at hnt⊢
   have HNT:=Lib.hid hnte
   clear hnte
   by_cases hf:30000<nt+((item.size:Int)-old.size)
   ·have hpr:PR=(c,tr,12):=by
     rw[<-HPR.out]
     unfold putR
     rw[if_neg HS.out,HMO.out,HNT.out,HM.out,if_pos hf]
    have hfin:errV PR.2.2=.iface 24 (.int .i64 12)/\PgT w3 PB DB M PR.1 sv t d:=by
     rw[hpr]
     exact⟨rfl,HH.out.1.gr HG3.out⟩
    have HFIN:=Lib.hid hfin
    clear hfin hpr
    go_wp2_with fail
    go_ret
    exact⟨by rw[HFIN.out.1];rfl,HFIN.out.2,PgF.of_gr PB DB M HG3.out⟩
   ·have hps:=puts_n (HH.out.1.gr HG3.out) (HH.out.2.1.gr HG3.out) hTn hr key item hk60 hi100 HL.out
    have hpo:=putsT_ok (pg:=d.pg) HH.out.1.f HL.out hr hk60 hi100
    have her:=putsT_err c root tr key item
    have hpr0:putR c root tr key item=match putsT c root tr key item with
     |( c1,u,0)=>((moreT c1 root mo).1,u,(moreT c1 root mo).2)
     |r=>r:=by
     unfold putR
     rw[if_neg HS.out,HMO.out,HNT.out,HM.out,if_neg hf]
     generalize putsT c root tr key item=r
     obtain⟨ra,rb,rn⟩:=r
     cases rn<;>rfl
    rw[HPR.out]at hpr0
    rcases hpe:putsT c root tr key item with⟨c1,u,en⟩
    rw[hpe]at hpo hpr0
    simp only[hpe]at her hps
    have hc1:c1.fine:=hpo.k.fine
    have hri:=hc1.head.root root hr
    have HPS:=Lib.hid hps
    have HPR0:=Lib.hid hpr0
    have HC1:=Lib.hid hc1
    clear hps hpr0 hpo hc1 hpe
    rcases her with her|her
    ·subst her
     have hpr:PR=((moreT c1 root mo).1,u,(moreT c1 root mo).2):=HPR0.out
     have HP:=Lib.hid hpr
     have hev:errV 0=.nilIface:=rfl
     rw[hev]at HPS
     clear hpr hev
     go_wp2_with fail
     refine HPS.out.mono ?_
     rintro e w4 ⟨rfl,hp4,hf4⟩
     have ht4:=(HH.out.2.1.gr HG3.out).pg hf4 hTn.1 hTn.2.1 hTn.2.2
     have hst:=start_n hp4 ht4 hr
     have HST:=Lib.hid hst
     have HP4:=Lib.hid hp4
     have HT4:=Lib.hid ht4
     have HF4:=Lib.hid ((PgF.of_gr PB DB M HG3.out).trans hf4)
     clear hst hp4 ht4 hf4
     go_wp2_with fail
     refine HST.out.mono ?_
     rintro e w5 ⟨rfl,hg5⟩
     have hse:=set_n (HP4.out.gr hg5) (HT4.out.gr hg5) hTn hr (p:=c1.h.roots root) (more:=mo) hri (by omega)
     rw[setS_more]at hse
     have HSE:=Lib.hid hse
     have HF5:=Lib.hid (HF4.out.trans (PgF.of_gr PB DB M hg5))
     clear hse hg5
     rw[HM.out]at HSE HP
     go_wp2_with fail
     refine HSE.out.mono ?_
     rintro e w6 ⟨rfl,hp6,hf6⟩
     have HX:=Lib.hid (And.intro hp6 (HF5.out.trans hf6))
     have hfin:errV PR.2.2=errV (moreT c1 root (((item.size:Int)-old.size))).2/\PgT w6 PB DB M PR.1 sv t d:=by
       rw[HP.out]
       exact⟨rfl,HX.out.1⟩
     have HFIN:=Lib.hid hfin
     clear hfin hp6 hf6
     obtain⟨EV,hEV⟩:∃EV,errV (moreT c1 root (((item.size:Int)-old.size))).2=EV:=⟨_,rfl⟩
     rw[hEV]at HFIN⊢
     clear hEV
     go_wp2_with fail
     go_ret
     exact⟨by rw[HFIN.out.1];rfl,HFIN.out.2,HX.out.2⟩
    ·subst her
     have hpr:PR=(c1,u,12):=HPR0.out
     have HP:=Lib.hid hpr
     have hev:errV 12=.iface 24 (.int .i64 12):=rfl
     rw[hev]at HPS
     clear hpr hev
     go_wp2_with fail
     refine HPS.out.mono ?_
     rintro e w4 ⟨rfl,hp4,hf4⟩
     have HX:=Lib.hid (And.intro hp4 ((PgF.of_gr PB DB M HG3.out).trans hf4))
     clear hp4 hf4
     go_wp2_with fail
     go_ret
     exact⟨by rw[HP.out];rfl,by rw[HP.out];exact HX.out.1,HX.out.2⟩
end
theorem tell_node{w w5:World}{PB DB M:Nat}{c:Ch}{sv:Head}{t:Int}{d:Dk}{RB:Nat}{s:Value}{R:List En}(hRB:w.heap.size<=RB)(hF:PgF PB DB M M w w5)(hp:PgT w5 PB DB M c sv t d)(ho:OwnE w w5 s R)(hN:∀b,s.ownBlock=some b->¬b=RB)(hlt:PB<w.heap.size/\DB<w.heap.size/\M<w.heap.size)(v0 v1 v2:Value):
  OwnE w (((w5.setCell ⟨RB,0,none⟩ v0).setCell ⟨RB,1,none⟩ v1).setCell ⟨RB,2,none⟩ v2) s R/\PgT (((w5.setCell ⟨RB,0,none⟩ v0).setCell ⟨RB,1,none⟩ v1).setCell ⟨RB,2,none⟩ v2) PB DB M c sv t d/\PgF PB DB M M w (((w5.setCell ⟨RB,0,none⟩ v0).setCell ⟨RB,1,none⟩ v1).setCell ⟨RB,2,none⟩ v2):=by
 have g:GrX (fun b=>b=RB) w5 (((w5.setCell ⟨RB,0,none⟩ v0).setCell ⟨RB,1,none⟩ v1).setCell ⟨RB,2,none⟩ v2):=((GrX.setCell (S:=fun b=>b=RB) (p:=⟨RB,0,none⟩) w5 _ rfl).trans (GrX.setCell (S:=fun b=>b=RB) (p:=⟨RB,1,none⟩) _ _ rfl)).trans (GrX.setCell (S:=fun b=>b=RB) (p:=⟨RB,2,none⟩) _ _ rfl)
 exact⟨ho.keepX g hN,hp.keepX g (by omega) (by omega) (by omega),hF.own g (fun j e=>by omega)⟩
theorem three_set{w:World}{B:Nat}{x0 x1 x2 v0 v1 v2:Value}(r0:w.cell? ⟨B,0,none⟩=some x0)(r1:w.cell? ⟨B,1,none⟩=some x1)(r2:w.cell? ⟨B,2,none⟩=some x2):
  (((w.setCell ⟨B,0,none⟩ v0).setCell ⟨B,1,none⟩ v1).setCell ⟨B,2,none⟩ v2).cell? ⟨B,0,none⟩=some v0/\(((w.setCell ⟨B,0,none⟩ v0).setCell ⟨B,1,none⟩ v1).setCell ⟨B,2,none⟩ v2).cell? ⟨B,1,none⟩=some v1/\(((w.setCell ⟨B,0,none⟩ v0).setCell ⟨B,1,none⟩ v1).setCell ⟨B,2,none⟩ v2).cell? ⟨B,2,none⟩=some v2:=by
 refine⟨?_,?_,?_⟩
 ·rw[World.cell?_setCell_other _ _ _ _ (by simp),World.cell?_setCell_other _ _ _ _ (by simp),World.cell?_setCell_same _ _ _ r0]
 ·rw[World.cell?_setCell_other _ _ _ _ (by simp),World.cell?_setCell_same _ _ _ ((World.cell?_setCell_other _ _ _ _ (by simp)).trans r1)]
 ·rw[World.cell?_setCell_same _ _ _ ((World.cell?_setCell_other _ _ _ _ (by simp)).trans ((World.cell?_setCell_other _ _ _ _ (by simp)).trans r2))]
section
variable{w:World}{PB DB M:Nat}{c:Ch}{sv:Head}{t:Int}{d:Dk}
theorem drop_leaf(h:PgT w PB DB M c sv t d){TP root:Nat}(ht:TreeAt w TP PB root)(hTn:TP≠PB/\TP≠DB/\TP≠M){p:Nat}{l:List En}(hp:HasN c d.pg true p l)(hok:∀e∈l,e.ok true)(hb:bytesE true l<=1024)(key:ByteArray)(hh:hitE (keysE l) key=true):
  Calls Tryz.prog 203 #[.pointer (some ⟨TP,0,none⟩),.int .i64 (p:Int),.string key] w fun e w'=>∃s,e=.returned (.tuple #[nodeV p true s,.nilIface])/\OwnE w w' s (l.eraseIdx (searchE (keysE l) key))/\PgT w' PB DB M (c.write (p:Nat) (pageE true (l.eraseIdx (searchE (keysE l) key)))) sv t d/\PgF PB DB M M w w':=by
 have hg0:Gr w (w.alloc (.cells #[.int .i64 0,.bool false,.slice none 0 0] 200)):=(Gr.refl w).alloc _
 have hrd:=read_n (h.gr hg0).s (ht.gr hg0) hp hok hb
 have r0:(w.alloc (.cells #[.int .i64 0,.bool false,.slice none 0 0] 200)).cell? ⟨w.heap.size,0,none⟩=some (.int .i64 0):=by rw[World.cell?_alloc_new];rfl
 have r1:(w.alloc (.cells #[.int .i64 0,.bool false,.slice none 0 0] 200)).cell? ⟨w.heap.size,1,none⟩=some (.bool false):=by rw[World.cell?_alloc_new];rfl
 have r2:(w.alloc (.cells #[.int .i64 0,.bool false,.slice none 0 0] 200)).cell? ⟨w.heap.size,2,none⟩=some (.slice none 0 0):=by rw[World.cell?_alloc_new];rfl
 have rf:∀o,(w.alloc (.cells #[.int .i64 0,.bool false,.slice none 0 0] 200)).frozen? ⟨w.heap.size,o,none⟩=false:=fun o=>by simp
 have hl:l.length<=600:=by
  have:=sumE_len true l
  unfold bytesE at hb
  omega
 have hkl:(keysE l).length=l.length:=by unfold keysE;rw[List.length_map]
 have hlt:searchE (keysE l) key<l.length:=by rw[<-hkl];exact hitE_lt hh
 obtain⟨K,hK⟩:∃K,searchE (keysE l) key=K:=⟨_,rfl⟩
 rw[hK]at hlt⊢
 obtain⟨R,hR⟩:∃R,l.eraseIdx K=R:=⟨_,rfl⟩
 rw[hR]
 go_enter Tryz.func203,Tryz.ntmps203
 go_wp2_with fail
 have hRW:Hid (w.heap.size<(w.alloc (.cells #[.int .i64 0,.bool false,.slice none 0 0] 200)).heap.size):=Lib.hid (by simp)
 have HG0:=Lib.hid hg0
 obtain⟨WB,hWB⟩:∃WB,w.alloc (.cells #[.int .i64 0,.bool false,.slice none 0 0] 200)=WB:=⟨_,rfl⟩
 rw[hWB]at hrd r0 r1 r2 rf HG0 hRW⊢
 clear hWB hg0
 obtain⟨RB,hRB⟩:∃RB,w.heap.size=RB:=⟨_,rfl⟩
 have HRB:=Lib.hid hRB
 rw[hRB]at r0 r1 r2 rf hRW⊢
 refine hrd.mono ?_
 rintro e w1 ⟨s',rfl,ho1,hg1⟩
 obtain⟨ao,ca,rfl⟩:=ho1.form
 have hfn:=fun W (g:Gr w1 W)=>find_n p true l (.slice ao l.length ca) key W (ho1.isE.gr g) (by omega)
 simp only[if_true,hh,hK]at hfn
 have hga:Gr w1 (w1.alloc (.cells #[.int .i64 (p:Int),.bool true,.slice ao l.length ca] 200)):=(Gr.refl w1).alloc _
 unfold nodeV at*
 have HFN:=Lib.hid hfn
 have hg2:=hg1.trans hga
 have r0:=hg2.keeps r0
 have r1:=hg2.keeps r1
 have r2:=hg2.keeps r2
 have k0:(w1.alloc (.cells #[.int .i64 (p:Int),.bool true,.slice ao l.length ca] 200)).cell? ⟨w1.heap.size,0,none⟩=some (.int .i64 (p:Int)):=by rw[World.cell?_alloc_new];rfl
 have k1:(w1.alloc (.cells #[.int .i64 (p:Int),.bool true,.slice ao l.length ca] 200)).cell? ⟨w1.heap.size,1,none⟩=some (.bool true):=by rw[World.cell?_alloc_new];rfl
 have k2:(w1.alloc (.cells #[.int .i64 (p:Int),.bool true,.slice ao l.length ca] 200)).cell? ⟨w1.heap.size,2,none⟩=some (.slice ao l.length ca):=by rw[World.cell?_alloc_new];rfl
 have kf:∀o,(w1.alloc (.cells #[.int .i64 (p:Int),.bool true,.slice ao l.length ca] 200)).frozen? ⟨w1.heap.size,o,none⟩=false:=fun o=>by simp
 clear hrd hfn
 go_wp2_with fail
 obtain⟨NB,hNB⟩:∃NB,w1.heap.size=NB:=⟨_,rfl⟩
 rw[hNB]at k0 k1 k2 kf⊢
 refine(HFN.out _ hga).mono ?_
 rintro e w2 ⟨rfl,hg3⟩
 have r0:=hg3.keeps r0
 have r1:=hg3.keeps r1
 have r2:=hg3.keeps r2
 have k0:=hg3.keeps k0
 have k1:=hg3.keeps k1
 have k2:=hg3.keeps k2
 have ho2:=ho1.gr (hga.trans hg3)
 have hg4:=hg2.trans hg3
 have hdl:=delete_o WB w2 _ l K ho2 hlt hg4.size (by omega)
 rw[hR]at hdl
 have HDL:=Lib.hid hdl
 clear hdl
 have hRok:=okE_sub (List.eraseIdx_sublist l K) ⟨hok,hb⟩
 rw[hR]at hRok
 have hNB2:NB<w2.heap.size:=lt_of_cell k0
 have hNo:¬((Value.slice ao l.length ca).ownBlock=some NB):=fun e=>by
  have:=ownBlock_lt ho1 _ e
  omega
 have hRo:¬((Value.slice ao l.length ca).ownBlock=some RB):=fun e=>by
  have:=ownBlock_ge ho1 _ e
  have:=hRW.out
  omega
 have hNw:WB.heap.size<=NB:=by
  have:=hg1.size
  omega
 have hgw:=HG0.out.trans hg4
 go_wp2_with(refine HDL.out.mono ?_;rintro e w3 ⟨v3,rfl,ho3,hx3,hob⟩;obtain⟨a3,c3,rfl⟩:=ho3.form;(have r0:=hx3.keeps hRo r0);(have r1:=hx3.keeps hRo r1);(have r2:=hx3.keeps hRo r2);(have k0:=hx3.keeps hNo k0);(have k1:=hx3.keeps hNo k1);(have k2:=hx3.keeps hNo k2);(have kz:w3.frozen? ⟨NB,2,none⟩=false:=by(rw[hx3.frozen 2 hNB2 hNo,hg3.frozen 2 (by rw[<-hNB];simp)];exact kf 2)))
 have gS:GrX (fun b=>b=NB) w3 (w3.setCell ⟨NB,2,none⟩ (.slice a3 R.length c3)):=GrX.setCell (S:=fun b=>b=NB) (p:=⟨NB,2,none⟩) w3 _ rfl
 have hoN:∀b,(Value.slice a3 R.length c3).ownBlock=some b->¬b=NB:=fun b hb e=>hNo (by rw[<-hob,hb,e])
 have hoR:∀b,(Value.slice a3 R.length c3).ownBlock=some b->¬b=RB:=fun b hb e=>hRo (by rw[<-hob,hb,e])
 have hob2:∀b,(Value.slice ao l.length ca).ownBlock=some b->WB.heap.size<=b:=fun b hb=>ownBlock_ge ho1 b hb
 have hwz:=HG0.out.size
 have hlw:=h.lt
 have ho4:=(ho3.keepX gS hoN).back HG0.out
 have hPN:¬PB=NB/\¬DB=NB/\¬M=NB:=by omega
 have hp4:=((h.gr hgw).keepX hx3 (fun e=>by have:=hob2 _ e;omega) (fun e=>by have:=hob2 _ e;omega) (fun e=>by have:=hob2 _ e;omega)).keepX gS hPN.1 hPN.2.1 hPN.2.2
 have htw:=lt_of_cell ht.p
 have ht4:=((ht.gr hgw).keepX hx3 (fun e=>by have:=hob2 _ e;omega)).keepX gS (by omega)
 have hF4:=((PgF.of_gr PB DB M hgw).own hx3 (fun j e=>by have:=hob2 _ e;omega)).own gS (fun j e=>by omega)
 have hRN:RB≠NB:=by
  have:=hRW.out
  omega
 have r0:=gS.keeps hRN r0
 have r1:=gS.keeps hRN r1
 have r2:=gS.keeps hRN r2
 have k0':(w3.setCell ⟨NB,2,none⟩ (.slice a3 R.length c3)).cell? ⟨NB,0,none⟩=some (.int .i64 (p:Int)):=by
  rw[World.cell?_setCell_other _ _ _ _ (by simp)]
  exact k0
 have k1':(w3.setCell ⟨NB,2,none⟩ (.slice a3 R.length c3)).cell? ⟨NB,1,none⟩=some (.bool true):=by
  rw[World.cell?_setCell_other _ _ _ _ (by simp)]
  exact k1
 have k2':=World.cell?_setCell_same w3 ⟨NB,2,none⟩ (.slice a3 R.length c3) k2
 have rfz:∀o,(w3.setCell ⟨NB,2,none⟩ (.slice a3 R.length c3)).frozen? ⟨RB,o,none⟩=false:=fun o=>by
  have:=hRW.out
  have:=hg4.size
  have:=hx3.2.2.2.1
  rw[gS.frozen o (by omega) hRN,hx3.frozen o (by omega) hRo,hg4.frozen o hRW.out]
  exact rf o
 have hRw4:RB<(w3.setCell ⟨NB,2,none⟩ (.slice a3 R.length c3)).heap.size:=lt_of_cell r0
 generalize w3.setCell ⟨NB,2,none⟩ (.slice a3 R.length c3)=w4 at*
 have hwr:=fun W (g:Gr w4 W)=>write_n (hp4.gr g) (ht4.gr g) (ho4.isE.gr g) hRok.1 hRok.2 hp.1
 have HWR:=Lib.hid hwr
 have HF4:=Lib.hid hF4
 have HO4:=Lib.hid ho4
 unfold nodeV at HWR
 clear hwr hF4 hp4 ho4 gS hx3
 have hRP:RB≠PB/\RB≠DB/\RB≠M:=by omega
 have hNP:NB≠PB/\NB≠DB/\NB≠M:=by omega
 have hRf:∀(w5:World) (o:Nat),PgF PB DB M M w4 w5->w5.frozen? ⟨RB,o,none⟩=false:=fun w5 o f5=>(f5.2.frozen o hRw4 (fun e=>e.elim hRP.1 fun e=>e.elim hRP.2.1 hRP.2.2)).trans (rfz o)
 have HRF:=Lib.hid hRf
 go_region_with(go_at_call 200;refine(HWR.out _ ?_).mono ?_;(with_reducible exact(Gr.refl _).drew);rintro e w5 ⟨rfl,hp5,hf5⟩;(have hf5':=(PgF.of_gr PB DB M (Gr.refl w4).drew).trans hf5);(have r0:=hf5'.keeps hRP.1 hRP.2.1 hRP.2.2 r0);(have r1:=hf5'.keeps hRP.1 hRP.2.1 hRP.2.2 r1);(have r2:=hf5'.keeps hRP.1 hRP.2.1 hRP.2.2 r2);(have x0:=HRF.out _ 0 hf5');(have x1:=HRF.out _ 1 hf5');(have x2:=HRF.out _ 2 hf5');(have q0:=hf5'.keeps hNP.1 hNP.2.1 hNP.2.2 k0');(have q1:=hf5'.keeps hNP.1 hNP.2.1 hNP.2.2 k1');(have q2:=hf5'.keeps hNP.1 hNP.2.1 hNP.2.2 k2'))
 all_goals
  have y:=Lib.hid (three_set (v0:=.int .i64 (p:Int)) (v1:=.bool true) (v2:=.slice a3 R.length c3) r0 r1 r2)
  have tn:=Lib.hid (tell_node (RB:=RB) (Nat.le_of_eq HRB.out) (HF4.out.trans hf5') hp5 (HO4.out.keepX hf5'.2 (fun b hb e=>by have:=hob2 b (by rw[<-hob];exact hb);omega)) hoR hlw (.int .i64 (p:Int)) (.bool true) (.slice a3 R.length c3))
  go_wp2_with fail
  obtain⟨y0,y1,y2⟩:=y.out
  have tn1:=tn.out
  generalize(((w5.setCell ⟨RB,0,none⟩ (.int .i64 (p:Int))).setCell ⟨RB,1,none⟩ (.bool true)).setCell ⟨RB,2,none⟩ (.slice a3 R.length c3))=w9 at*
  refine bodyPost_ret (v:=.tuple #[.agg #[.int .i64 (p:Int),.bool true,.slice a3 R.length c3],.nilIface]) (by simp[results,Tryz.results203,go_sem,y0,y1,y2]) rfl ⟨_,rfl,tn1.1,tn1.2.1,tn1.2.2⟩
end
