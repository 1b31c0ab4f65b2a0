/-
  Part 7 of the proof.
-/
import Derived.Test.YtldmhjbdahjhdaaGreatDoorZc6
import Derived.Test.YtldmhjbdahjhdaaGreatDoorZc4
set_option maxRecDepth 100000
set_option maxHeartbeats 100000000
set_option linter.all false
namespace Go.Proofs.YtldmhjbdahjhdaaGreatDoor
section
open Go Go.RowKit
theorem at_split{α:Type}:∀{l:List α} {k:Nat} {x:α},l[k]?=some x->∃l1 l2,l=l1++x::l2/\l1.length=k
 |[],k,x,h=>by simp at h
 |a::l,0,x,h=>⟨[],l,by simpa using h,rfl⟩
 |a::l,k+1,x,h=>by
  obtain⟨l1,l2,e,hk⟩:=at_split (l:=l) (k:=k) (x:=x) (by simpa using h)
  exact⟨a::l1,l2,by rw[e];rfl,by rw[List.length_cons,hk]⟩
theorem set_mid{α:Type}(x y:α)(l2:List α):∀l1:List α,(l1++x::l2).set l1.length y=l1++y::l2
 |[]=>rfl
 |a::l1=>by
  have:=set_mid x y l2 l1
  simp only[List.cons_append,List.length_cons,List.set_cons_succ,this]
theorem insert_mid{α:Type}(m y:α)(l2:List α):∀l1:List α,(l1++y::l2).insertIdx (l1.length+1) m=l1++y::m::l2
 |[]=>by simp
 |a::l1=>by
  have:=insert_mid m y l2 l1
  simp only[List.cons_append,List.length_cons,List.insertIdx_succ_cons,this]
theorem erase_mid{α:Type}(x:α)(l2:List α):∀l1:List α,(l1++x::l2).eraseIdx l1.length=l1++l2
 |[]=>rfl
 |a::l1=>by
  have:=erase_mid x l2 l1
  simp only[List.cons_append,List.length_cons,List.eraseIdx_cons_succ,this]
theorem mem_putL{l:List (ByteArray×ByteArray)}{key item:ByteArray}{x:ByteArray×ByteArray}(h:x∈putL l key item):x∈l\/x=(key,item):=by
 unfold putL at h
 split at h
 ·rcases List.mem_or_eq_of_mem_set h with h|h
  ·exact .inl h
  ·exact .inr h
 ·rw[List.mem_insertIdx (by have:=searchE_le (l.map Prod.fst) key;simpa using this)]at h
  exact h.elim .inr .inl
theorem putL_ne{l:List (ByteArray×ByteArray)}{key item:ByteArray}(h:l≠[]):putL l key item≠[]:=by
 have h0:=List.length_pos_iff.2 h
 unfold putL
 split
 ·intro e
  have:=congrArg List.length e
  rw[List.length_set,List.length_nil]at this
  omega
 ·intro e
  have:=congrArg List.length e
  rw[List.length_insertIdx,List.length_nil]at this
  split at this<;>omega
theorem sumE_set{leaf:Bool}{y:En}:∀(l:List En) (i:Nat),sumE leaf (l.set i y)<=sumE leaf l+y.sz leaf
 |[],i=>by simp[sumE]
 |a::l,0=>by
  rw[List.set_cons_zero,sumE_cons,sumE_cons]
  omega
 |a::l,i+1=>by
  have:=sumE_set (leaf:=leaf) (y:=y) l i
  rw[List.set_cons_succ,sumE_cons,sumE_cons]
  omega
theorem sumE_insert{leaf:Bool}{y:En}:∀(l:List En) (i:Nat),sumE leaf (l.insertIdx i y)<=sumE leaf l+y.sz leaf
 |l,0=>by
  rw[List.insertIdx_zero,sumE_cons]
  omega
 |[],i+1=>by simp[sumE]
 |a::l,i+1=>by
  have:=sumE_insert (leaf:=leaf) (y:=y) l i
  rw[List.insertIdx_succ_cons,sumE_cons,sumE_cons]
  omega
theorem map_insertIdx'{α β:Type}(f:α->β)(y:α):∀(l:List α) (i:Nat),(l.insertIdx i y).map f=(l.map f).insertIdx i (f y)
 |l,0=>by simp
 |[],i+1=>by simp
 |a::l,i+1=>by simp[map_insertIdx' f y l i]
theorem putL_bytes{l:List (ByteArray×ByteArray)}{key item:ByteArray}:bytesE true ((putL l key item).map enL)<=bytesE true (l.map enL)+(enL (key,item)).sz true:=by
 unfold putL bytesE
 split
 ·rw[List.map_set]
  have:=sumE_set (leaf:=true) (y:=enL (key,item)) (l.map enL) (searchE (l.map Prod.fst) key)
  omega
 ·rw[map_insertIdx']
  have:=sumE_insert (leaf:=true) (y:=enL (key,item)) (l.map enL) (searchE (l.map Prod.fst) key)
  omega
theorem PutOk.turn{X:Type}{pg:Nat->ByteArray}{pgf pgf':X->Nat}{pgs pgs':X->List Nat}{lay lay':Ch->X->Prop}{ok ok':X->Prop}{p:Nat}{c:Ch}{S S':List Nat}{r:Res X}
  (h:PutOk pg pgf pgs lay ok p c S r) (h1:∀x,pgf x=pgf' x) (h2:∀x,pgs x=pgs' x) (h3:∀c x,lay c x->lay' c x) (h4:∀x,ok x->ok' x) (h5:∀k∈S,k∈S'\/c.h.used k=false):PutOk pg pgf' pgs' lay' ok' p c S' r:=
 ⟨h.fr.wide h5,(h1 _).symm.trans h.page,h3 _ _ h.lays,h4 _ h.fits,fun k hk=>(h.sub k (by rw[h2];exact hk)).elim (h5 k) .inr,by rw[<-h2];exact h.nd,fun m hm=>by
  obtain⟨m1,m2,m3,m4,m5⟩:=h.more m hm
  exact⟨h3 _ _ m1,h4 _ m2,m3,fun k hk=>(m4 k (by rw[h2];exact hk)).elim (h5 k) .inr,by rw[<-h2,<-h2];exact m5⟩⟩
theorem PutOk.after{X:Type}{pg:Nat->ByteArray}{pgf:X->Nat}{pgs:X->List Nat}{lay:Ch->X->Prop}{ok:X->Prop}{p:Nat}{c0 c:Ch}{S0 S:List Nat}{r:Res X}
  (h:PutOk pg pgf pgs lay ok p c S r) (h0:Fr pg S0 c0 c) (hS:∀k∈S,k∈S0\/c0.h.used k=false) (hus:∀(c:Ch) x,lay c x->∀k∈pgs x,InU c k):PutOk pg pgf pgs lay ok p c0 S0 r:=by
 have key:∀k,1<=k->k<2000->k∈S\/c.h.used k=false->k∈S0\/c0.h.used k=false:=fun k k1 k2 hk=>by
  rcases hk with hk|hk
  ·exact hS k hk
  ·by_cases h1:k∈S0
   ·exact .inl h1
   ·cases h2:c0.h.used k with
    |false=>exact .inr rfl
    |true=>
     have:=(h0.keep k k1 k2 h2 h1).1
     rw[hk]at this
     cases this
 exact⟨h0.trans h.fr hS,h.page,h.lays,h.fits,fun k hk=>key k (hus _ _ h.lays k hk).1 (hus _ _ h.lays k hk).2.1 (h.sub k hk),h.nd,fun m e=>by
  obtain⟨m1,m2,m3,m4,m5⟩:=h.more m e
  exact⟨m1,m2,m3,fun k hk=>key k (hus _ _ m1 k hk).1 (hus _ _ m1 k hk).2.1 (m4 k hk),m5⟩⟩
theorem flat_nil{α β:Type}(l:List α):l.flatMap (fun _=>([]:List β))=[]:=by
 induction l with
 |nil=>rfl
 |cons a l ih=>rw[List.flatMap_cons,ih];rfl
theorem nPages_nil{X:Type}(n:Nat×List (ByteArray×X)):nPages (fun _=>[]) n=[n.1]:=by
 unfold nPages
 rw[flat_nil]
theorem mid_nodup{p:Nat}{a x b m:List Nat}{U:Nat->Prop}(h:(p::(a++(x++b))).Nodup)(hm:m.Nodup)(hs:∀k∈m,k∈x\/¬U k)(hu:∀k∈p::(a++b),U k):(p::(a++(m++b))).Nodup:=by
 obtain⟨n1,n2⟩:=List.nodup_cons.1 h
 obtain⟨n3,n4,n5⟩:=List.nodup_append.1 n2
 obtain⟨n6,n7,n8⟩:=List.nodup_append.1 n4
 refine List.nodup_cons.2 ⟨fun hp=>?_,List.nodup_append.2 ⟨n3,List.nodup_append.2 ⟨hm,n7,fun i hi j hj e=>?_⟩,fun i hi j hj e=>?_⟩⟩
 ·rcases List.mem_append.1 hp with hp|hp
  ·exact n1 (List.mem_append_left _ hp)
  rcases List.mem_append.1 hp with hp|hp
  ·rcases hs p hp with hp|hp
   ·exact n1 (List.mem_append_right _ (List.mem_append_left _ hp))
   ·exact hp (hu p List.mem_cons_self)
  ·exact n1 (List.mem_append_right _ (List.mem_append_right _ hp))
 ·subst e
  rcases hs i hi with h|h
  ·exact n8 i h i hj rfl
  ·exact h (hu i (List.mem_cons_of_mem _ (List.mem_append_right _ hj)))
 ·subst e
  rcases List.mem_append.1 hj with hj|hj
  ·rcases hs i hj with h|h
   ·exact n5 i hi i (List.mem_append_left _ h) rfl
   ·exact h (hu i (List.mem_cons_of_mem _ (List.mem_append_left _ hi)))
  ·exact n5 i hi i (List.mem_append_right _ hj) rfl
theorem putT_ok{pg:Nat->ByteArray}{key item:ByteArray}(hk:key.size<=60)(hi:item.size<=100):∀{d:Nat} {c:Ch} {t:T d},c.fine->t.lays c pg->t.okT->t.pages.Nodup->
  PutOk pg T.pg T.pages (fun c (t:T d)=>t.lays c pg) T.okT t.pg c t.pages (putT c t key item)
 |0,c,t,hc,hl,ho,hn=>by
  have ha:=split_ok (X:=ByteArray) (pg:=pg) (en:=enL) (leaf:=true) (pgs:=fun _=>[]) (lay:=fun _ _=>True) (ok:=fun _=>True) (fun _ _ _ _ _ _ _=>trivial) (fun _ _ _ _ h=>absurd h (by simp)) (fun _=>rfl)
   (c:=c) (p:=Prod.fst t) (l:=putL (Prod.snd t) key item) (old:=Prod.snd t) hc hl.1 (fun _ _=>⟨trivial,trivial⟩)
   (fun e he=>by
    obtain⟨x,hx,rfl⟩:=List.mem_map.1 he
    rcases mem_putL hx with h|h
    ·exact ho.2.2 _ (List.mem_map_of_mem h)
    ·rw[h]
     exact⟨hk,hi,by show 0<2000;omega,fun _=>rfl,fun h=>by cases h⟩)
   (putL_ne (fun e=>ho.1 (by rw[e];rfl)))
   (by
    have h1:=putL_bytes (l:=Prod.snd t) (key:=key) (item:=item)
    have h2:=ho.2.1
    have h3:(enL (key,item)).sz true<=162:=En.sz_le ⟨hk,hi,by show 0<2000;omega,fun _=>rfl,fun h=>by cases h⟩
    omega)
   (by rw[nPages_nil];simp) ⟨hl,fun _ _=>trivial⟩ ⟨ho,fun _ _=>trivial⟩ (by rw[nPages_nil];simp) (fun k h=>by rw[nPages_nil]at h⊢;exact h)
  exact ha.turn (fun _=>rfl) (fun x=>nPages_nil x) (fun _ _ h=>h.1) (fun _ h=>h.1) (fun k h=>.inl (by rw[nPages_nil]at h;exact h))
 |d+1,c,t,hc,hl,ho,hn=>by
  obtain⟨p,l⟩:Nat×List (ByteArray×T d):=t
  have hne:l.map Prod.fst≠[]:=fun e=>ho.1.1 (by
   have:l=[]:=List.map_eq_nil_iff.1 e
   show l.map enN=[]
   rw[this]
   rfl)
  have hdl:=downE_lt hne key
  rw[List.length_map]at hdl
  obtain⟨x,hx⟩:∃x,l[downE (l.map Prod.fst) key]?=some x:=⟨_,List.getElem?_eq_getElem hdl⟩
  obtain⟨l1,l2,hle,hk1⟩:=at_split hx
  have hxm:x∈l:=by rw[hle];simp
  have hpn:(p::(l1.flatMap (fun y=>y.2.pages)++(x.2.pages++l2.flatMap fun y=>y.2.pages))).Nodup:=by
   have h:(p::l.flatMap fun y=>y.2.pages).Nodup:=hn
   rw[hle,List.flatMap_append,List.flatMap_cons]at h
   exact h
  obtain⟨n1,n2⟩:=List.nodup_cons.1 hpn
  obtain⟨n3,n4,n5⟩:=List.nodup_append.1 n2
  obtain⟨n6,n7,n8⟩:=List.nodup_append.1 n4
  have hlx:∀y∈l,y.2.lays c pg:=hl.2
  have hox:∀y∈l,y.2.okT:=ho.2
  have hpu:InU c p:=hl.1.1
  have hnode:HasN c pg false p (l.map enN):=hl.1
  have hokn:OkN false (l.map enN):=ho.1
  have ih:=putT_ok (pg:=pg) hk hi hc (hlx x hxm) (hox x hxm) n6
  have hS:∀k∈x.2.pages,k∈p::l.flatMap (fun y=>y.2.pages):=fun k h=>List.mem_cons_of_mem _ (List.mem_flatMap.2 ⟨x,hxm,h⟩)
  have hoth:∀y,y∈l1\/y∈l2->y∈l/\∀k∈y.2.pages,k∉x.2.pages:=fun y hy=>by
   rcases hy with hy|hy
   ·refine⟨by rw[hle];exact List.mem_append_left _ hy,fun k h1 h2=>n5 k (List.mem_flatMap.2 ⟨y,hy,h1⟩) k (List.mem_append_left _ h2) rfl⟩
   ·refine⟨by rw[hle];exact List.mem_append_right _ (List.mem_cons_of_mem _ hy),fun k h1 h2=>n8 k h2 k (List.mem_flatMap.2 ⟨y,hy,h1⟩) rfl⟩
  have husd:∀k∈p::(l1.flatMap (fun y=>y.2.pages)++l2.flatMap fun y=>y.2.pages),InU c k:=fun k h=>by
   rcases List.mem_cons.1 h with e|h
   ·rw[e];exact hpu
   ·rcases List.mem_append.1 h with h|h
    ·obtain⟨y,hy,h⟩:=List.mem_flatMap.1 h
     exact T.lays_used (hlx y (hoth y (.inl hy)).1) k h
    ·obtain⟨y,hy,h⟩:=List.mem_flatMap.1 h
     exact T.lays_used (hlx y (hoth y (.inr hy)).1) k h
  have hpx:p∉x.2.pages:=fun h=>n1 (List.mem_append_right _ (List.mem_append_left _ h))
  rcases hr:putT c x.2 key item with⟨c1,u,r⟩
  rw[hr]at ih
  have hfr:=ih.fr
  have hpg:u.pg=x.2.pg:=ih.page
  have hlu:u.lays c1 pg:=ih.lays
  have hou:u.okT:=ih.fits
  have hsu:∀k∈u.pages,k∈x.2.pages\/c.h.used k=false:=ih.sub
  have hnu:u.pages.Nodup:=ih.nd
  have hmo:=ih.more
  simp only at hfr hmo
  have hset:l.set (downE (l.map Prod.fst) key) (x.1,u)=l1++(x.1,u)::l2:=by rw[<-hk1,hle,set_mid]
  have hins:∀m,(l1++(x.1,u)::l2).insertIdx (downE (l.map Prod.fst) key+1) m=l1++(x.1,u)::m::l2:=fun m=>by rw[<-hk1,insert_mid]
  have hmap:(l1++(x.1,u)::l2).map enN=l.map enN:=by
   rw[hle]
   simp only[List.map_append,List.map_cons]
   have:enN (x.1,u)=enN x:=by
    unfold enN
    rw[hpg]
   rw[this]
  have hlo:∀y,y∈l1\/y∈l2->y.2.lays c1 pg/\y.2.okT:=fun y hy=>⟨T.lays_fr hfr (hlx y (hoth y hy).1) (hoth y hy).2,hox y (hoth y hy).1⟩
  have hn1:HasN c1 pg false p (l.map enN):=hfr.hasN hnode hpx
  have hnd1:∀ms:List (ByteArray×T d),(ms.flatMap fun y=>y.2.pages).Nodup->(∀y∈ms,∀k∈y.2.pages,k∈x.2.pages\/c.h.used k=false)->(nPages T.pages (p,l1++(ms++l2))).Nodup:=fun ms h1 h2=>by
   unfold nPages
   simp only
   rw[List.flatMap_append,List.flatMap_append]
   refine mid_nodup (U:=fun k=>c.h.used k=true) hpn h1 (fun k h=>?_) (fun k h=>(husd k h).2.2)
   obtain⟨y,hy,h⟩:=List.mem_flatMap.1 h
   rcases h2 y hy k h with e|e
   ·exact .inl e
   ·exact .inr (by rw[e];simp)
  have hsub1:∀ms:List (ByteArray×T d),(∀y∈ms,∀k∈y.2.pages,k∈x.2.pages\/c.h.used k=false)->∀k∈nPages T.pages (p,l1++(ms++l2)),k∈(p::l.flatMap fun y=>y.2.pages)\/c.h.used k=false:=fun ms h2 k h=>by
   unfold nPages at h
   simp only at h
   rcases List.mem_cons.1 h with e|h
   ·exact .inl (by rw[e];exact List.mem_cons_self)
   ·rw[List.flatMap_append,List.flatMap_append]at h
    rcases List.mem_append.1 h with h|h
    ·obtain⟨y,hy,h⟩:=List.mem_flatMap.1 h
     exact .inl (List.mem_cons_of_mem _ (List.mem_flatMap.2 ⟨y,(hoth y (.inl hy)).1,h⟩))
    rcases List.mem_append.1 h with h|h
    ·obtain⟨y,hy,h⟩:=List.mem_flatMap.1 h
     rcases h2 y hy k h with e|e
     ·exact .inl (hS k e)
     ·exact .inr e
    ·obtain⟨y,hy,h⟩:=List.mem_flatMap.1 h
     exact .inl (List.mem_cons_of_mem _ (List.mem_flatMap.2 ⟨y,(hoth y (.inr hy)).1,h⟩))
  have hu1:∀y∈[(x.1,u)],∀k∈y.2.pages,k∈x.2.pages\/c.h.used k=false:=fun y hy k h=>by
   rw[List.mem_singleton.1 hy]at h
   exact hsu k h
  have hndu:(nPages T.pages (p,l1++(x.1,u)::l2)).Nodup:=hnd1 [(x.1,u)] (by simpa using hnu) hu1
  have hsubu:∀k∈nPages T.pages (p,l1++(x.1,u)::l2),k∈(p::l.flatMap fun y=>y.2.pages)\/c.h.used k=false:=hsub1 [(x.1,u)] hu1
  have hlayu:∀y∈l1++(x.1,u)::l2,y.2.lays c1 pg/\y.2.okT:=fun y hy=>by
   rcases List.mem_append.1 hy with h|h
   ·exact hlo y (.inl h)
   rcases List.mem_cons.1 h with e|h
   ·rw[e];exact⟨hlu,hou⟩
   ·exact hlo y (.inr h)
  have hpu1:InU c1 p:=hn1.1
  have hold:nLays pg enN false (fun c (t:T d)=>t.lays c pg) c1 (p,l1++(x.1,u)::l2):=⟨by
   show HasN c1 pg false p ((l1++(x.1,u)::l2).map enN)
   rw[hmap]
   exact hn1,fun y hy=>(hlayu y hy).1⟩
  have holdo:nOk enN false (fun t:T d=>t.okT) (p,l1++(x.1,u)::l2):=⟨by
   show OkN false ((l1++(x.1,u)::l2).map enN)
   rw[hmap]
   exact hokn,fun y hy=>(hlayu y hy).2⟩
  have hus:∀(c:Ch) (t:T d),t.lays c pg->∀k∈t.pages,InU c k:=fun c t h=>T.lays_used h
  have husn:∀(c:Ch) (n:Nat×List (ByteArray×T d)),nLays pg enN false (fun c (t:T d)=>t.lays c pg) c n->∀k∈nPages T.pages n,InU c k:=fun c n h k hk=>by
   unfold nPages at hk
   rcases List.mem_cons.1 hk with e|hk
   ·rw[e];exact h.1.1
   ·obtain⟨y,hy,hk⟩:=List.mem_flatMap.1 hk
    exact hus c _ (h.2 y hy) k hk
  have hfw:Fr pg (p::l.flatMap fun y=>y.2.pages) c c1:=hfr.wide fun k h=>.inl (hS k h)
  have huf:InU c1 u.pg:=T.lays_used hlu _ (T.pg_mem u)
  cases r with
  |none=>
   have e0:putT (d:=d+1) c (p,l) key item=(c1,(p,l1++(x.1,u)::l2),none):=by
    refine(putT.eq_2 c key item d ((p,l):Nat×List (ByteArray×T d))).trans ?_
    simp only[hx,hr,hset]
    rfl
   rw[e0]
   exact⟨hfw,rfl,hold,holdo,hsubu,hndu,fun m hm=>by cases hm⟩
  |some r=>
   cases r with
   |none=>
    have e0:putT (d:=d+1) c (p,l) key item=splitL (X:=T d) enN false c1 p (l1++(x.1,u)::l2) (l1++(x.1,u)::l2):=by
     refine(putT.eq_2 c key item d ((p,l):Nat×List (ByteArray×T d))).trans ?_
     simp only[hx,hr,hset]
     rfl
    rw[e0]
    have ha:=split_ok (X:=T d) (pg:=pg) (en:=enN) (leaf:=false) (pgs:=T.pages) (lay:=fun c (t:T d)=>t.lays c pg) (ok:=T.okT) (fun c c' S t g h hn=>T.lays_fr g h hn) hus (fun _=>rfl)
     (c:=c1) (p:=p) (l:=l1++(x.1,u)::l2) (old:=l1++(x.1,u)::l2) hfr.fine hpu1 hlayu holdo.1.2.2 (by simp) (by have:=holdo.1.2.1;simp only at this;omega) hndu hold holdo hndu (fun k h=>h)
    exact ha.after hfw hsubu husn
   |some m=>
    obtain⟨m1,m2,m3,m4,m5⟩:=hmo m rfl
    have e0:putT (d:=d+1) c (p,l) key item=splitL (X:=T d) enN false c1 p (l1++(x.1,u)::m::l2) (l1++(x.1,u)::l2):=by
     refine(putT.eq_2 c key item d ((p,l):Nat×List (ByteArray×T d))).trans ?_
     simp only[hx,hr,hset,hins]
     rfl
    rw[e0]
    have hum:∀y∈[(x.1,u),m],∀k∈y.2.pages,k∈x.2.pages\/c.h.used k=false:=fun y hy k h=>by
     rcases List.mem_cons.1 hy with e|hy
     ·rw[e]at h
      exact hsu k h
     ·rw[List.mem_singleton.1 hy]at h
      exact m4 k h
    have hndm:(nPages T.pages (p,l1++(x.1,u)::m::l2)).Nodup:=hnd1 [(x.1,u),m] (by simpa using m5) hum
    have hsubm:∀k∈nPages T.pages (p,l1++(x.1,u)::m::l2),k∈(p::l.flatMap fun y=>y.2.pages)\/c.h.used k=false:=hsub1 [(x.1,u),m] hum
    have hlaym:∀y∈l1++(x.1,u)::m::l2,y.2.lays c1 pg/\y.2.okT:=fun y hy=>by
     rcases List.mem_append.1 hy with h|h
     ·exact hlo y (.inl h)
     rcases List.mem_cons.1 h with e|h
     ·rw[e];exact⟨hlu,hou⟩
     rcases List.mem_cons.1 h with e|h
     ·rw[e];exact⟨m1,m2⟩
     ·exact hlo y (.inr h)
    have hmp:InU c1 m.2.pg:=T.lays_used m1 _ (T.pg_mem m.2)
    have hem:(enN m).ok false:=⟨m3,by show(0:Nat)<=100;omega,hmp.2.1,fun h=>(by cases h),fun _=>rfl⟩
    have heo:=holdo.1.2.2
    simp only[List.map_append,List.map_cons]at heo
    have hbm:bytesE false ((l1++(x.1,u)::m::l2).map enN)<=1400:=by
     have h1:=holdo.1.2.1
     have h2:=En.sz_le hem
     simp only[List.map_append,List.map_cons,bytesE,sumE_append,sumE_cons]at h1⊢
     omega
    have ha:=split_ok (X:=T d) (pg:=pg) (en:=enN) (leaf:=false) (pgs:=T.pages) (lay:=fun c (t:T d)=>t.lays c pg) (ok:=T.okT) (fun c c' S t g h hn=>T.lays_fr g h hn) hus (fun _=>rfl)
     (c:=c1) (p:=p) (l:=l1++(x.1,u)::m::l2) (old:=l1++(x.1,u)::l2) hfr.fine hpu1 hlaym (fun e he=>by
      simp only[List.map_append,List.map_cons]at he
      rcases List.mem_append.1 he with h|h
      ·exact heo e (List.mem_append_left _ h)
      rcases List.mem_cons.1 h with h|h
      ·exact heo e (List.mem_append_right _ (by rw[h];exact List.mem_cons_self))
      rcases List.mem_cons.1 h with h|h
      ·rw[h];exact hem
      ·exact heo e (List.mem_append_right _ (List.mem_cons_of_mem _ h))) (by simp) hbm hndm hold holdo hndu (fun k h=>by
      unfold nPages at h⊢
      simp only[List.flatMap_append,List.flatMap_cons,List.mem_cons,List.mem_append]at h⊢
      rcases h with h|h|h|h
      ·exact .inl h
      ·exact .inr (.inl h)
      ·exact .inr (.inr (.inl h))
      ·exact .inr (.inr (.inr (.inr h))))
    exact ha.after hfw hsubm husn
def T.kidsLay(c:Ch)(pg:Nat->ByteArray):{d:Nat}->T d->Prop
 |0,_=>True
 |_+1,t=>∀x∈Prod.snd t,x.2.lays c pg
def T.kidsOk:{d:Nat}->T d->Prop
 |0,_=>True
 |_+1,t=>∀x∈Prod.snd t,x.2.okT
theorem T.lays_iff{c:Ch}{pg:Nat->ByteArray}:{d:Nat}->{t:T d}->(t.lays c pg↔HasN c pg (isLeaf d) t.pg t.ents/\t.kidsLay c pg)
 |0,t=>⟨fun h=>⟨h,trivial⟩,fun h=>h.1⟩
 |d+1,t=>Iff.rfl
theorem T.okT_iff:{d:Nat}->{t:T d}->(t.okT↔OkN (isLeaf d) t.ents/\t.kidsOk)
 |0,t=>⟨fun h=>⟨h,trivial⟩,fun h=>h.1⟩
 |d+1,t=>Iff.rfl
theorem T.pages_eq:{d:Nat}->(t:T d)->t.pages=t.pg::t.pages.tail
 |0,t=>by unfold T.pages T.pg;rfl
 |d+1,t=>by unfold T.pages T.pg;rfl
theorem T.kids_fr{pg:Nat->ByteArray}{S:List Nat}{c c':Ch}(g:Fr pg S c c'):{d:Nat}->{t:T d}->t.kidsLay c pg->(∀k∈t.pages.tail,k∉S)->t.kidsLay c' pg
 |0,t,h,hn=>trivial
 |d+1,t,h,hn=>fun x hx=>T.lays_fr g (h x hx) fun k hk=>hn k (by
  unfold T.pages
  exact List.mem_flatMap.2 ⟨x,hx,hk⟩)
theorem meet_pages:{d:Nat}->(a:T d)->(k:ByteArray)->(b:T d)->(a.meet k b).pages=a.pages++b.pages.tail
 |0,a,k,b=>by unfold T.pages T.meet;rfl
 |d+1,a,k,b=>by
  obtain⟨p,l⟩:Nat×List (ByteArray×T d):=a
  obtain⟨q,m⟩:Nat×List (ByteArray×T d):=b
  show(p::(l++reKey k m).flatMap fun x=>x.2.pages)=(p::l.flatMap fun x=>x.2.pages)++m.flatMap fun x=>x.2.pages
  rw[List.cons_append,List.flatMap_append]
  cases m<;>rfl
theorem meet_pg:{d:Nat}->(a:T d)->(k:ByteArray)->(b:T d)->(a.meet k b).pg=a.pg
 |0,a,k,b=>rfl
 |d+1,a,k,b=>rfl
theorem meet_kids{c:Ch}{pg:Nat->ByteArray}:{d:Nat}->{a:T d}->{k:ByteArray}->{b:T d}->a.kidsLay c pg->b.kidsLay c pg->(a.meet k b).kidsLay c pg
 |0,a,k,b,_,_=>trivial
 |d+1,a,k,b,ha,hb=>fun x hx=>by
  obtain⟨p,l⟩:Nat×List (ByteArray×T d):=a
  obtain⟨q,m⟩:Nat×List (ByteArray×T d):=b
  have hx:x∈l++reKey k m:=hx
  rcases List.mem_append.1 hx with h|h
  ·exact ha x h
  ·cases m with
   |nil=>cases h
   |cons y r=>
    rcases List.mem_cons.1 h with e|h
    ·rw[e]
     exact hb y List.mem_cons_self
    ·exact hb x (List.mem_cons_of_mem _ h)
def meetE(leaf:Bool)(a:List En)(k:ByteArray)(b:List En):List En:=a++(if leaf then b else reKeyE k b)
theorem meet_ents:{d:Nat}->(a:T d)->(k:ByteArray)->(b:T d)->(a.meet k b).ents=meetE (isLeaf d) a.ents k b.ents
 |0,a,k,b=>by
  obtain⟨p,l⟩:Nat×List (ByteArray×ByteArray):=a
  obtain⟨q,m⟩:Nat×List (ByteArray×ByteArray):=b
  show(l++m).map enL=l.map enL++m.map enL
  rw[List.map_append]
 |d+1,a,k,b=>by
  obtain⟨p,l⟩:Nat×List (ByteArray×T d):=a
  obtain⟨q,m⟩:Nat×List (ByteArray×T d):=b
  show(l++reKey k m).map enN=l.map enN++reKeyE k (m.map enN)
  rw[List.map_append]
  cases m<;>rfl
theorem meet_ok:{d:Nat}->{a:T d}->{k:ByteArray}->{b:T d}->a.okT->b.okT->k.size<=60->bytesE (isLeaf d) (a.meet k b).ents<=1024->(a.meet k b).okT
 |0,a,k,b,ha,hb,hk,hs=>by
  obtain⟨p,l⟩:Nat×List (ByteArray×ByteArray):=a
  obtain⟨q,m⟩:Nat×List (ByteArray×ByteArray):=b
  refine⟨fun e=>ha.1 ?_,hs,fun e he=>?_⟩
  ·have:(l++m).map enL=[]:=e
   rw[List.map_append]at this
   exact(List.append_eq_nil_iff.1 this).1
  ·have he:e∈(l++m).map enL:=he
   rw[List.map_append]at he
   rcases List.mem_append.1 he with h|h
   ·exact ha.2.2 e h
   ·exact hb.2.2 e h
 |d+1,a,k,b,ha,hb,hk,hs=>by
  obtain⟨p,l⟩:Nat×List (ByteArray×T d):=a
  obtain⟨q,m⟩:Nat×List (ByteArray×T d):=b
  have ha1:OkN false (l.map enN):=ha.1
  have hb1:OkN false (m.map enN):=hb.1
  refine⟨⟨fun e=>ha1.1 ?_,hs,fun e he=>?_⟩,fun x hx=>?_⟩
  ·have:(l++reKey k m).map enN=[]:=e
   rw[List.map_append]at this
   exact(List.append_eq_nil_iff.1 this).1
  ·have he:e∈(l++reKey k m).map enN:=he
   rw[List.map_append]at he
   rcases List.mem_append.1 he with h|h
   ·exact ha1.2.2 e h
   ·cases m with
    |nil=>cases h
    |cons y r=>
     rcases List.mem_cons.1 h with e1|h
     ·rw[e1]
      have:=hb1.2.2 (enN y) List.mem_cons_self
      exact⟨hk,this.item,this.page,this.isL,this.node⟩
     ·exact hb1.2.2 e (List.mem_cons_of_mem _ h)
  ·have hx:x∈l++reKey k m:=hx
   rcases List.mem_append.1 hx with h|h
   ·exact ha.2 x h
   ·cases m with
    |nil=>cases h
    |cons y r=>
     rcases List.mem_cons.1 h with e|h
     ·rw[e]
      exact hb.2 y List.mem_cons_self
     ·exact hb.2 x (List.mem_cons_of_mem _ h)
structure DropOk(pg:Nat->ByteArray){d:Nat}(c:Ch)(t:T d)(r:Ch×T d):Prop where
 fr:Fr pg t.pages c r.1
 page:r.2.pg=t.pg
 lays:r.2.lays r.1 pg
 fits:r.2.ents≠[]->r.2.okT
 sub:∀k∈r.2.pages,k∈t.pages
 nd:r.2.pages.Nodup
theorem sumE_sub{leaf:Bool}{a b:List En}(h:a.Sublist b):sumE leaf a<=sumE leaf b:=by
 induction h with
 |slnil=>exact Nat.le_refl _
 |cons x _ ih=>rw[sumE_cons];omega
 |cons_cons x _ ih=>rw[sumE_cons,sumE_cons];omega
theorem bytes_nil(leaf:Bool):bytesE leaf []<=1024:=by
 unfold bytesE sumE
 simp
def MovedT(v v':Value)(w w':World):Prop:=w.heap.size<=w'.heap.size/\∀k,k<w.heap.size->v.ownBlock≠some k->v'.ownBlock≠some k/\w'.heap[k]?=w.heap[k]?
theorem MovedT.keeps{v v':Value}{w w':World}(h:MovedT v v' w w'){k o:Nat}{u:Value}(hv:v.ownBlock≠some k)(hc:w.cell? ⟨k,o,none⟩=some u):w'.cell? ⟨k,o,none⟩=some u:=
 (World.cell?_of_block (h.2 k (lt_of_cell hc) hv).2).trans hc
theorem append_ent{a0 w:World}{ops:Array Oper}{rest:List Oper}{o:Oper}{a:Act}{Q:Exit->Act->World->Prop}(hgd:o.guard=none)(s x:Operand)
  (ho:o.op=.call {callee:=.builtin .append,args:=#[s,x],argTypes:=#[198,198]}) (v:Value) (us:List En) (e:En) (hs:a.eval s=v) (hown:OwnE a0 w v us) (B:Nat) (hB:w.heap.size=B) (hx:a.eval x=.slice (some ⟨B,0,none⟩) 1 1) (hl:us.length<=100000) (hg:Gr a0 w)
  (h:∀v' w',OwnE a0 w' v' (us++[e])->Gr a0 w'->MovedT v v' w w'->wpList Tryz.prog ops Q rest (a.put o.dst v') w'):wpList Tryz.prog ops Q (o::rest) a (w.alloc (.cells #[.string e.key,.string e.item,.int .i64 (e.page:Int)] 206)):=by
 obtain⟨i0,hinf,hz0,hz1,hz2⟩:=info_entry_parts
 subst hB
 refine wpList_append_own_at _ hgd s x 198 ho a0.heap.size 206 i0 (.agg #[.string ⟨#[]⟩,.string ⟨#[]⟩,.int .i64 0]) 3 40 Tryz.underlying198 hinf hz0 hz1 hz2 rfl (by decide) v us.length (cellsE us) hs (hown.alloc _) ⟨w.heap.size,0,none⟩ 1 1 e.cells hx rfl ?_ e.cells_one (by unfold maxLen;omega) (by omega) (by have:=hg.size;simp;omega)
  (fun v' w' h1 h2 _ h4=>h v' w' (ownE_snoc h1) (gr_grown (hg.alloc _) h2 (ownBlock_ge hown)) ⟨by have:=h2.size;simp at this;omega,fun k hk hne=>⟨fun e1=>by
   rcases h4 with h4|h4
   ·exact hne (h4.symm.trans e1)
   ·rw[h4]at e1
    have:=Option.some.inj e1
    simp at this
    omega,(h2.block k (by simp;omega) (fun e1=>hne e1.symm)).trans (Below.heap_alloc _ _ _ hk)⟩⟩)
 intro j u hj
 rw[add_lit3,World.cell?_alloc_new,Nat.zero_add]
 simpa[En.cells]using hj
theorem ext_part(s:ByteArray)(a b c:List UInt8)(h:s.data.toList=a++(b++c)):s.extract a.length (a.length+b.length)=⟨b.toArray⟩:=by
 apply bytes_ext
 rw[ByteArray.data_extract,Array.toList_extract,h]
 show((a++(b++c)).drop a.length).take (a.length+b.length-a.length)=b
 rw[List.drop_left,Nat.add_sub_cancel_left,List.take_left]
theorem ext_rest(s:ByteArray)(a c:List UInt8)(h:s.data.toList=a++c):s.extract a.length s.size=⟨c.toArray⟩:=by
 apply bytes_ext
 rw[ByteArray.data_extract,Array.toList_extract,h]
 have hs:s.size=a.length+c.length:=by rw[size_data,h,List.length_append]
 show((a++c).drop a.length).take (s.size-a.length)=c
 rw[List.drop_left,hs,Nat.add_sub_cancel_left,List.take_length]
theorem get_at(s:ByteArray)(j:Nat)(hj:j<s.size)(l:List UInt8)(h:s.data.toList=l)(hl:j<l.length):s[j]=l[j]:=by
 rw[get_data s j hj]
 subst h
 rfl
def leftE(leaf:Bool)(l:List En)(i:Nat):ByteArray:=⟨(restE leaf (l.drop i)++List.replicate (1024-bytesE leaf l) 0).toArray⟩
theorem leftE_data(leaf:Bool)(l:List En)(i:Nat):(leftE leaf l i).data.toList=restE leaf (l.drop i)++List.replicate (1024-bytesE leaf l) 0:=by
 unfold leftE
 simp
theorem leftE_next(leaf:Bool)(l:List En)(i:Nat)(h:i<l.length):(leftE leaf l i).data.toList=(l[i]).txt leaf++(leftE leaf l (i+1)).data.toList:=by
 rw[leftE_data,leftE_data,<-List.append_assoc]
 congr 1
 unfold restE
 rw[List.drop_eq_getElem_cons h,List.flatMap_cons]
theorem leftE_size(leaf:Bool)(l:List En)(i:Nat)(hok:∀e∈l,e.ok leaf)(hb:bytesE leaf l<=1024):(leftE leaf l i).size<=1021:=by
 rw[size_data,leftE_data,List.length_append,restE_len (fun e he=>hok e (List.mem_of_mem_drop he)),List.length_replicate]
 have:=sumE_sub (leaf:=leaf) (List.drop_sublist i l)
 unfold bytesE at*
 omega
theorem eta_ba(s:ByteArray):(⟨s.data.toList.toArray⟩:ByteArray)=s:=bytes_ext (by simp)
structure TreeAt(w:World)(TP PB root:Nat):Prop where
 p:w.cell? ⟨TP,0,none⟩=some (.pointer (some ⟨PB,0,none⟩))
 r:w.cell? ⟨TP,1,none⟩=some (.int .i64 (root:Int))
theorem TreeAt.gr{w w':World}{TP PB root:Nat}(h:TreeAt w TP PB root)(g:Gr w w'):TreeAt w' TP PB root:=⟨g.keeps h.p,g.keeps h.r⟩
theorem TreeAt.pg{w w':World}{TP PB DB M M' root:Nat}(h:TreeAt w TP PB root)(g:PgF PB DB M M' w w')(h1:TP≠PB)(h2:TP≠DB)(h3:TP≠M):TreeAt w' TP PB root:=⟨g.keeps h1 h2 h3 h.p,g.keeps h1 h2 h3 h.r⟩
end
section
open Go Go.RowKit Go.Lib
abbrev GPair:Type:=ByteArray×ByteArray
def pcells(x:GPair):List Value:=[.string x.1,.string x.2]
def cellsQ(l:List GPair):List Value:=l.flatMap pcells
def OwnQ(n:Nat)(w:World)(v:Value)(l:List GPair):Prop:=w.ownsRow n 140 2 v l.length (cellsQ l)
theorem OwnQ.row{n:Nat}{w:World}{v:Value}{l:List GPair}(h:OwnQ n w v l):w.ownsRow n 140 2 v l.length (cellsQ l):=h
theorem info_pair:(Tryz.prog.info? 140).map (fun i=>(i.zero,i.size,i.bytes))=some (some (.agg #[.string ⟨#[]⟩,.string ⟨#[]⟩]),2,32):=by kernel_rfl
theorem info_pair_parts:∃i0,Tryz.prog.info? 140=some i0/\i0.zero=some (.agg #[.string ⟨#[]⟩,.string ⟨#[]⟩])/\i0.size=2/\i0.bytes=32:=by
 have h:=info_pair
 cases h0:Tryz.prog.info? 140 with
 |none=>rw[h0]at h;cases h
 |some i0=>
  rw[h0]at h
  have h:=Option.some.inj h
  simp only[Prod.mk.injEq]at h
  exact⟨i0,rfl,h.1,h.2.1,h.2.2⟩
theorem cellsQ_append(a b:List GPair):cellsQ (a++b)=cellsQ a++cellsQ b:=by
 unfold cellsQ
 rw[List.flatMap_append]
theorem cellsQ_get:∀(l:List GPair) (i:Nat) (h:i<l.length),(cellsQ l)[i*2]?=some (.string l[i].1)/\(cellsQ l)[i*2+1]?=some (.string l[i].2)
 |e::l,0,_=>⟨rfl,rfl⟩
 |e::l,i+1,h=>by
  obtain⟨h1,h2⟩:=cellsQ_get l i (by simpa using h)
  have e1:cellsQ (e::l)=.string e.1::.string e.2::cellsQ l:=rfl
  rw[e1,show(i+1)*2=i*2+1+1 by omega]
  simp only[List.getElem?_cons_succ,List.getElem_cons_succ,h1,h2,and_self]
theorem OwnQ.at'{n:Nat}{w:World}{v:Value}{l:List GPair}(h:OwnQ n w v l):(v=.slice none 0 0/\l=[])\/∃B cap,v=.slice (some ⟨B,0,none⟩) l.length cap/\l.length<=cap/\n<=B/\B<w.heap.size/\(∀i (h:i<l.length),w.cell? ⟨B,i*2,none⟩=some (.string l[i].1)/\w.cell? ⟨B,i*2+1,none⟩=some (.string l[i].2))/\∀o,w.frozen? ⟨B,o,none⟩=false:=by
 have hc:=fun g hg=>World.ownsRow.cells (g:=g) h.row hg
 rcases h.row.2 with⟨rfl,h0⟩|⟨g,cap,cur,rfl,hb,hh,hle,_⟩
 ·exact .inl ⟨rfl,List.eq_nil_of_length_eq_zero h0⟩
 ·refine .inr ⟨g,cap,rfl,hle,hb,(Array.getElem?_eq_some_iff.1 hh).1,fun i hi=>?_,fun o=>Lib.frozen_of_heap hh _⟩
  have hg:=cellsQ_get l i hi
  have c1:=hc g rfl _ _ hg.1
  have c2:=hc g rfl _ _ hg.2
  have e:∀j,(⟨g,0,none⟩:Addr).add j=⟨g,j,none⟩:=by
   intro j;unfold Addr.add;split<;>simp_all
  rw[e]at c1 c2
  exact⟨c1,c2⟩
theorem OwnQ.form{n:Nat}{w:World}{v:Value}{l:List GPair}(h:OwnQ n w v l):∃ao c,v=.slice ao l.length c:=by
 rcases h.at' with⟨rfl,rfl⟩|⟨B,cap,rfl,_⟩
 ·exact⟨none,0,rfl⟩
 ·exact⟨_,cap,rfl⟩
theorem OwnQ.gr{n:Nat}{w w':World}{v:Value}{l:List GPair}(h:OwnQ n w v l)(g:Gr w w'):OwnQ n w' v l:=ownsRow_gr h g
theorem OwnQ.nil(n:Nat)(w:World):OwnQ n w (.slice none 0 0) []:=World.ownsRow_nil _ _ _ _
theorem OwnQ.keepX{S:Nat->Prop}{n:Nat}{w w':World}{v:Value}{l:List GPair}(h:OwnQ n w v l)(g:GrX S w w')(hs:∀b,v.ownBlock=some b->¬S b):OwnQ n w' v l:=by
 refine⟨h.row.1,?_⟩
 rcases h.row.2 with h1|⟨g',cap,cur,h1,hb,hh,h2⟩
 ·exact .inl h1
 ·exact .inr ⟨g',cap,cur,h1,hb,(g.block (Array.getElem?_eq_some_iff.1 hh).1 (hs g' (by rw[h1];rfl))).trans hh,h2⟩
theorem ownP_ge{n:Nat}{w:World}{v:Value}{l:List GPair}(h:OwnQ n w v l):∀b,v.ownBlock=some b->n<=b:=ownBlock_ge h
theorem ownP_lt{n:Nat}{w:World}{v:Value}{l:List GPair}(h:OwnQ n w v l):∀b,v.ownBlock=some b->b<w.heap.size:=ownBlock_lt h
theorem pcells_one(x:GPair):∀u∈pcells x,u.oneCell'=true:=by
 intro u hu
 unfold pcells at hu
 simp only[List.mem_cons,List.not_mem_nil,or_false]at hu
 rcases hu with h|h<;>(rw[h];rfl)
theorem append_pair{n:Nat}{w:World}{ops:Array Oper}{rest:List Oper}{o:Oper}{a:Act}{Q:Exit->Act->World->Prop}(hgd:o.guard=none)(s x:Operand)
  (ho:o.op=.call {callee:=.builtin .append,args:=#[s,x],argTypes:=#[134,134]}) (v:Value) (us:List GPair) (e:GPair) (hs:a.eval s=v) (hown:OwnQ n w v us) (B:Nat) (hB:w.heap.size=B) (hx:a.eval x=.slice (some ⟨B,0,none⟩) 1 1) (hl:us.length<=100000000) (hn:n<=w.heap.size)
  (h:∀v' w',OwnQ n w' v' (us++[e])->GrX (fun b=>v.ownBlock=some b) w w'->(v'.ownBlock=v.ownBlock\/∃b,v'.ownBlock=some b/\w.heap.size<=b)->wpList Tryz.prog ops Q rest (a.put o.dst v') w'):wpList Tryz.prog ops Q (o::rest) a (w.alloc (.cells #[.string e.1,.string e.2] 140)):=by
 obtain⟨i0,hinf,hz0,hz1,hz2⟩:=info_pair_parts
 subst hB
 refine wpList_append_own_at _ hgd s x 134 ho n 140 i0 (.agg #[.string ⟨#[]⟩,.string ⟨#[]⟩]) 2 32 Tryz.underlying134 hinf hz0 hz1 hz2 rfl (by decide) v us.length (cellsQ us) hs (hown.gr ((Gr.refl w).alloc _)) ⟨w.heap.size,0,none⟩ 1 1 (pcells e) hx rfl ?_ (pcells_one e) (by unfold maxLen;omega) (by omega) (by simp;omega)
  (fun v' w' h1 h2 _ h4=>h v' w' ?_ ⟨h2.os,h2.tape,h2.output,by have:=h2.size;simp at this;omega,fun k hk hs=>(h2.block k (by simp;omega) (fun e=>hs e.symm)).trans (Below.heap_alloc _ _ _ hk)⟩ ?_)
 ·intro j u hj
  rw[add_lit3,World.cell?_alloc_new,Nat.zero_add]
  simpa[pcells]using hj
 ·unfold OwnQ
  rw[List.length_append,cellsQ_append]
  have:cellsQ [e]=pcells e:=by unfold cellsQ;simp
  rw[this]
  exact h1
 ·rcases h4 with h4|h4
  ·exact .inl h4
  ·refine .inr ⟨_,h4,?_⟩
   simp
