/-
  Part 11 of the proof.
-/
import Derived.Test.YtldmhjbdahjhdaaGreatDoorZc10
set_option maxRecDepth 100000
set_option maxHeartbeats 100000000
set_option linter.all false
namespace Go.Proofs.YtldmhjbdahjhdaaGreatDoor
section
open Go Go.RowKit
structure Keep(pg:Nat->ByteArray)(S:List Nat)(i:Nat)(c c':Ch):Prop where
 fine:c'.fine
 keep:∀k,1<=k->k<2000->c.h.used k=true->k∉S->c'.h.used k=true/\pageNow pg c'.F k=pageNow pg c.F k
 roots:∀j,j≠i->c'.h.roots j=c.h.roots j
section
variable{pg:Nat->ByteArray}{i:Nat}
theorem Fr.keepR{S:List Nat}{c c':Ch}(h:Fr pg S c c')(i:Nat):Keep pg S i c c':=⟨h.fine,h.keep,fun j _=>by rw[h.roots]⟩
theorem Keep.refl{c:Ch}(h:c.fine)(S:List Nat):Keep pg S i c c:=⟨h,fun _ _ _ hu _=>⟨hu,rfl⟩,fun _ _=>rfl⟩
theorem Keep.trans{S S':List Nat}{c c1 c2:Ch}(h:Keep pg S i c c1)(h':Keep pg S' i c1 c2)(hs:∀k∈S',k∈S\/c.h.used k=false):Keep pg S i c c2:=
 ⟨h'.fine,fun k h1 h2 hu hn=>by
  obtain⟨a1,a2⟩:=h.keep k h1 h2 hu hn
  obtain⟨b1,b2⟩:=h'.keep k h1 h2 a1 (fun hm=>by
   rcases hs k hm with e|e
   ·exact hn e
   ·rw[e]at hu;cases hu)
  exact⟨b1,b2.trans a2⟩,fun j hj=>(h'.roots j hj).trans (h.roots j hj)⟩
theorem Keep.set{c:Ch}{p n:Int}(h:(⟨c.h.setRoot i p n,c.F⟩:Ch).fine):Keep pg [] i c ⟨c.h.setRoot i p n,c.F⟩:=
 ⟨h,fun _ _ _ hu _=>⟨hu,rfl⟩,fun j hj=>by
  show(if j=i then p else c.h.roots j)=_
  rw[if_neg hj]⟩
theorem set_root{c:Ch}(p n:Int):(⟨c.h.setRoot i p n,c.F⟩:Ch).h.roots i=p:=by
 show(if i=i then p else c.h.roots i)=p
 rw[if_pos rfl]
theorem Ch.fine.set{c:Ch}(h:c.fine)(i:Nat){p n:Int}(hp:0<=p/\p<2000)(hn:0<=n/\n<65536):(⟨c.h.setRoot i p n,c.F⟩:Ch).fine:=⟨fine_set h.head i hp hn,h.dirty⟩
theorem T.lays_set{c:Ch}{p n:Int}:{d:Nat}->{t:T d}->t.lays c pg->t.lays ⟨c.h.setRoot i p n,c.F⟩ pg
 |0,t,h=>h
 |d+1,t,h=>⟨h.1,fun x hx=>T.lays_set (h.2 x hx)⟩
structure TrOk(pg:Nat->ByteArray)(i:Nat)(c:Ch)(X:Tr)(c':Ch)(X':Tr):Prop where
 k:Keep pg X.pages i c c'
 lays:X'.lays c' pg i
 sub:∀k∈X'.pages,k∈X.pages\/c.h.used k=false
theorem TrOk.refl{c:Ch}{X:Tr}(hc:c.fine)(h:X.lays c pg i):TrOk pg i c X c X:=⟨Keep.refl hc _,h,fun _ h=>.inl h⟩
theorem TrOk.more{c c':Ch}{X X':Tr}(h:TrOk pg i c X c' X')(hi:i<8)(m:Int):TrOk pg i c X (moreT c' i m).1 X':=by
 unfold moreT
 split
 ·rename_i hm
  have hf:=h.k.fine.set i (h.k.fine.head.root i hi) hm
  refine⟨h.k.trans (Keep.set hf) (fun k hk=>by cases hk),?_,h.sub⟩
  cases X' with
  |none=>
   have:=h.lays
   exact(set_root _ _).trans this
  |some t=>exact⟨(set_root _ _).trans h.lays.1,T.lays_set h.lays.2.1,h.lays.2.2⟩
 ·exact h
theorem head_key{d:Nat}{u:T d}(ho:u.okT):((u.ents.head?.map En.key).getD noB).size<=60:=by
 have ho:=(T.okT_iff.1 ho).1.2.2
 cases he:u.ents with
 |nil=>show(0:Nat)<=60;omega
 |cons e r=>
  rw[he]at ho
  exact(ho e List.mem_cons_self).key
def twoE(k1:ByteArray)(p1:Nat)(k2:ByteArray)(p2:Nat):List En:=[⟨k1,noB,p1⟩,⟨k2,noB,p2⟩]
theorem twoE_ok{k1 k2:ByteArray}{p1 p2:Nat}(h1:k1.size<=60)(h2:k2.size<=60)(g1:p1<2000)(g2:p2<2000):OkN false (twoE k1 p1 k2 p2):=by
 refine⟨(fun h=>by cases h),?_,fun e he=>?_⟩
 ·unfold twoE bytesE
  rw[sumE_cons,sumE_cons]
  unfold En.sz sumE
  simp
  omega
 ·unfold twoE at he
  simp at he
  rcases he with rfl|rfl
  ·exact⟨h1,by show(0:Nat)<=100;omega,g1,(fun h=>by cases h),fun _=>rfl⟩
  ·exact⟨h2,by show(0:Nat)<=100;omega,g2,(fun h=>by cases h),fun _=>rfl⟩
theorem oneE_ok{key item:ByteArray}(h1:key.size<=60)(h2:item.size<=100):OkN true [⟨key,item,0⟩]:=by
 refine⟨(fun h=>by cases h),?_,fun e he=>?_⟩
 ·unfold bytesE
  rw[sumE_cons]
  unfold En.sz sumE
  simp
  omega
 ·simp at he
  rw[he]
  exact⟨h1,h2,by show(0:Nat)<2000;omega,fun _=>rfl,(fun h=>by cases h)⟩
theorem putsT_ok{c:Ch}{X:Tr}(hc:c.fine)(h:X.lays c pg i)(hi:i<8){key item:ByteArray}(hk:key.size<=60)(hit:item.size<=100):TrOk pg i c X (putsT c i X key item).1 (putsT c i X key item).2.1:=by
 cases X with
 |none=>
  unfold putsT
  cases ha:allocF c.h with
  |none=>exact TrOk.refl hc h
  |some k=>
   obtain⟨f1,u1,n1,k1,k2⟩:=alloc_fr (pg:=pg) hc ha
   have ho:=oneE_ok hk hit
   obtain⟨f2,u2,e2⟩:=write_fr (pg:=pg) f1.fine u1 (pageE_size ho.2.2 ho.2.1)
   have hf:=f2.fine.set i (p:=(k:Nat)) (n:=((c.alloc.write (k:Nat) (pageE true [⟨key,item,0⟩])).h.notes i)) (by omega) (f2.fine.head.note i hi)
   have kp:Keep pg [] i c (c.alloc.write (k:Nat) (pageE true [⟨key,item,0⟩])):=(f1.keepR i).trans (f2.keepR i) fun j hj=>.inr (by rw[List.mem_singleton.1 hj];exact n1)
   refine⟨kp.trans (Keep.set hf) (fun k hk=>by cases hk),⟨set_root _ _,⟨u2,e2⟩,ho,?_⟩,fun j hj=>.inr ?_⟩
   ·show([k]:List Nat).Nodup
    simp
   ·have:j∈([k]:List Nat):=hj
    rw[List.mem_singleton.1 this]
    exact n1
 |some x=>
  obtain⟨d,t⟩:=x
  obtain⟨hr,hl,ho,hn⟩:=h
  have hp:=putT_ok (pg:=pg) hk hit hc hl ho hn
  rcases he:putT c t key item with⟨c1,u,r⟩
  rw[he]at hp
  have hsame:TrOk pg i c (some ⟨d,t⟩) c1 (some ⟨d,u⟩):=by
   refine⟨hp.fr.keepR i,⟨?_,hp.lays,hp.fits,hp.nd⟩,hp.sub⟩
   show c1.h.roots i=(u.pg:Nat)
   have e1:c1.h.roots=c.h.roots:=hp.fr.roots
   have e2:u.pg=t.pg:=hp.page
   rw[e1,e2]
   exact hr
  rcases r with _|_|m
  ·unfold putsT
   simp only[he]
   exact hsame
  ·unfold putsT
   simp only[he]
   exact hsame
  ·cases ha:allocF c1.h with
   |none=>
    unfold putsT
    simp only[he,ha]
    exact hsame
   |some k=>
    unfold putsT
    simp only[he,ha]
    obtain⟨ml,mo,mk,ms,mn⟩:=hp.more m rfl
    have ml:m.2.lays c1 pg:=ml
    have mo:m.2.okT:=mo
    have ms:∀k∈m.2.pages,k∈t.pages\/c.h.used k=false:=ms
    have mn:(u.pages++m.2.pages).Nodup:=mn
    have ul:u.lays c1 pg:=hp.lays
    have uo:u.okT:=hp.fits
    obtain⟨f1,u1,n1,k1,k2⟩:=alloc_fr (pg:=pg) hp.fr.fine ha
    have uu:=T.lays_used ul
    have mu:=T.lays_used ml
    have ho2:=twoE_ok (p1:=u.pg) (p2:=m.2.pg) (head_key uo) mk (uu _ (T.pg_mem u)).2.1 (mu _ (T.pg_mem m.2)).2.1
    obtain⟨f2,u2,e2⟩:=write_fr (pg:=pg) f1.fine u1 (pageE_size ho2.2.2 ho2.2.1)
    have hf:=f2.fine.set i (p:=(k:Nat)) (n:=((c1.alloc.write (k:Nat) (pageE false (twoE ((u.ents.head?.map En.key).getD noB) u.pg m.1 m.2.pg))).h.notes i)) (by omega) (f2.fine.head.note i hi)
    have fr2:Fr pg [k] c1 (c1.alloc.write (k:Nat) (pageE false (twoE ((u.ents.head?.map En.key).getD noB) u.pg m.1 m.2.pg))):=(f1.wide (S':=[k]) fun j hj=>by cases hj).trans f2 fun j hj=>.inl hj
    have nk:∀j,InU c1 j->j∉([k]:List Nat):=fun j hj hm=>by
     have:=List.mem_singleton.1 hm
     rw[this]at hj
     have:=hj.2.2
     rw[n1]at this
     cases this
    have hkf:k∈t.pages\/c.h.used k=false:=by
     by_cases hu:c.h.used k=true
     ·by_cases hm:k∈t.pages
      ·exact .inl hm
      ·have:=(hp.fr.keep k k1 k2 hu hm).1
       rw[n1]at this
       cases this
     ·exact .inr (by simpa using hu)
    have kp:Keep pg t.pages i c (c1.alloc.write (k:Nat) (pageE false (twoE ((u.ents.head?.map En.key).getD noB) u.pg m.1 m.2.pg))):=(hp.fr.keepR i).trans (fr2.keepR i) fun j hj=>by rw[List.mem_singleton.1 hj];exact hkf
    refine⟨kp.trans (Keep.set hf) (fun k hk=>by cases hk),⟨set_root _ _,⟨⟨u2,e2⟩,fun y hy=>?_⟩,⟨ho2,fun y hy=>?_⟩,?_⟩,fun j hj=>?_⟩
    ·refine T.lays_set ?_
     have hy:y∈[((u.ents.head?.map En.key).getD noB,u),m]:=hy
     rcases List.mem_cons.1 hy with e|hy
     ·rw[e]
      exact T.lays_fr fr2 ul fun j hj=>nk j (uu j hj)
     ·rw[List.mem_singleton.1 hy]
      exact T.lays_fr fr2 ml fun j hj=>nk j (mu j hj)
    ·have hy:y∈[((u.ents.head?.map En.key).getD noB,u),m]:=hy
     rcases List.mem_cons.1 hy with e|hy
     ·rw[e]
      exact uo
     ·rw[List.mem_singleton.1 hy]
      exact mo
    ·show(k::(u.pages++(m.2.pages++[]))).Nodup
     rw[List.append_nil]
     refine List.nodup_cons.2 ⟨fun hm=>?_,mn⟩
     rcases List.mem_append.1 hm with hm|hm
     ·exact nk k (uu k hm) (List.mem_singleton.2 rfl)
     ·exact nk k (mu k hm) (List.mem_singleton.2 rfl)
    ·have hj:j∈k::(u.pages++(m.2.pages++[])):=hj
     rw[List.append_nil]at hj
     rcases List.mem_cons.1 hj with e|hj
     ·rw[e]
      exact hkf
     rcases List.mem_append.1 hj with hj|hj
     ·exact hp.sub j hj
     ·exact ms j hj
theorem putR_ok{c:Ch}{X:Tr}(hc:c.fine)(h:X.lays c pg i)(hi:i<8)(key item:ByteArray):TrOk pg i c X (putR c i X key item).1 (putR c i X key item).2.1:=by
 unfold putR
 split
 ·exact TrOk.refl hc h
 rename_i hs
 split
 ·exact TrOk.refl hc h
 have hp:=putsT_ok hc h hi (key:=key) (item:=item) (by omega) (by omega)
 rcases he:putsT c i X key item with⟨c1,u,n⟩
 rw[he]at hp
 cases n with
 |zero=>exact hp.more hi _
 |succ n=>exact hp
theorem dropsT_ok{c:Ch}{X:Tr}(hc:c.fine)(h:X.lays c pg i)(hi:i<8)(key:ByteArray):TrOk pg i c X (dropsT c i X key).1 (dropsT c i X key).2:=by
 cases X with
 |none=>exact TrOk.refl hc h
 |some x=>
  obtain⟨d,t⟩:=x
  obtain⟨hr,hl,ho,hn⟩:=h
  have hp:=dropT_ok (pg:=pg) (key:=key) hc hl ho hn
  rcases he:dropT c t key with⟨c1,u⟩
  rw[he]at hp
  have hfr:Fr pg t.pages c c1:=hp.fr
  have hpg:u.pg=t.pg:=hp.page
  have hlu:u.lays c1 pg:=hp.lays
  have hsu:∀k∈u.pages,k∈t.pages:=hp.sub
  have hnu:u.pages.Nodup:=hp.nd
  have hru:c1.h.roots i=(u.pg:Nat):=by
   rw[hfr.roots,hpg]
   exact hr
  have hut:InU c1 t.pg:=by
   rw[<-hpg]
   exact T.lays_used hlu _ (T.pg_mem u)
  have f2:=free_fr (pg:=pg) hfr.fine hut
  have kf:Keep pg t.pages i c (c1.free (t.pg:Nat)):=(hfr.keepR i).trans (f2.keepR i) fun k hk=>.inl (by rw[List.mem_singleton.1 hk];exact T.pg_mem t)
  have hsame:u.ents≠[]->TrOk pg i c (some ⟨d,t⟩) c1 (some ⟨d,u⟩):=fun hne=>⟨hfr.keepR i,⟨hru,hlu,hp.fits hne,hnu⟩,fun k hk=>.inl (hsu k hk)⟩
  have hgone:TrOk pg i c (some ⟨d,t⟩) ((c1.free (t.pg:Nat)).root i 0) none:=by
   have hf:=f2.fine.set i (p:=0) (n:=(c1.free (t.pg:Nat)).h.notes i) (by omega) (f2.fine.head.note i hi)
   exact⟨kf.trans (Keep.set hf) (fun k hk=>by cases hk),set_root _ _,fun k hk=>by cases hk⟩
  cases d with
  |zero=>
   unfold dropsT
   simp only[he]
   split
   ·exact hgone
   ·rename_i hem
    exact hsame fun e=>hem (by rw[e];rfl)
  |succ d=>
   obtain⟨p,l⟩:Nat×List (ByteArray×T d):=u
   unfold dropsT
   simp only[he]
   split
   ·exact hgone
   rename_i hem
   have hne:T.ents (d:=d+1) (p,l)≠[]:=fun e=>hem (by rw[e];rfl)
   have hs:=hsame hne
   have hx1:∀x,l=[x]->TrOk pg i c (some ⟨d+1,t⟩) ((c1.free (t.pg:Nat)).root i (T.pg (d:=d) x.2:Nat)) (some ⟨d,x.2⟩):=by
    intro x hx
    subst hx
    have hlx:x.2.lays c1 pg:=hlu.2 x List.mem_cons_self
    have hox:x.2.okT:=(hp.fits hne).2 x List.mem_cons_self
    have hpx:T.pages (d:=d+1) (p,[x])=p::(x.2.pages++[]):=rfl
    rw[List.append_nil]at hpx
    rw[hpx]at hnu hsu
    obtain⟨n1,n2⟩:=List.nodup_cons.1 hnu
    have hpt:p=t.pg:=hpg
    have hlf:x.2.lays (c1.free (t.pg:Nat)) pg:=T.lays_fr f2 hlx fun k hk hm=>by
     rw[List.mem_singleton.1 hm,<-hpt]at hk
     exact n1 hk
    have hux:=T.lays_used hlx _ (T.pg_mem x.2)
    have hf:=f2.fine.set i (p:=(x.2.pg:Nat)) (n:=(c1.free (t.pg:Nat)).h.notes i) (by have:=hux.2.1;omega) (f2.fine.head.note i hi)
    exact⟨kf.trans (Keep.set hf) (fun k hk=>by cases hk),⟨set_root _ _,T.lays_set hlf,hox,n2⟩,fun k hk=>.inl (hsu k (List.mem_cons_of_mem _ hk))⟩
   rcases l with _|⟨x,_|⟨y,r⟩⟩
   ·exact hs
   ·exact hx1 x rfl
   ·exact hs
theorem dropR_ok{c:Ch}{X:Tr}(hc:c.fine)(h:X.lays c pg i)(hi:i<8)(key:ByteArray):TrOk pg i c X (dropR c i X key).1 (dropR c i X key).2.1:=by
 unfold dropR
 cases X.get key with
 |none=>exact TrOk.refl hc h
 |some old=>exact(dropsT_ok hc h hi key).more hi _
end
theorem cmpL_swap(a b:List UInt8):Lib.compareBytes b a=-Lib.compareBytes a b:=by
 induction a generalizing b with
 |nil=>cases b<;>simp[Lib.compareBytes]
 |cons x xs ih=>
  cases b with
  |nil=>simp[Lib.compareBytes]
  |cons y ys=>
   simp only[Lib.compareBytes]
   by_cases h1:x<y
   ·have h2:¬y<x:=fun h=>UInt8.lt_irrefl _ (UInt8.lt_trans h1 h)
    simp[h1,h2]
   ·by_cases h2:y<x
    ·simp[h1,h2]
    ·simp[h1,h2,ih]
theorem cmpL_trans(a b c:List UInt8)(h1:Lib.compareBytes a b=-1)(h2:Lib.compareBytes b c=-1):Lib.compareBytes a c=-1:=by
 induction a generalizing b c with
 |nil=>
  cases c with
  |nil=>cases b<;>simp[Lib.compareBytes]at h1 h2
  |cons z zs=>simp[Lib.compareBytes]
 |cons x xs ih=>
  cases b with
  |nil=>simp[Lib.compareBytes]at h1
  |cons y ys=>
   cases c with
   |nil=>simp[Lib.compareBytes]at h2
   |cons z zs=>
    simp only[Lib.compareBytes]at h1 h2⊢
    by_cases a1:x<y
    ·by_cases b1:y<z
     ·simp[UInt8.lt_trans a1 b1]
     ·by_cases b2:z<y
      ·simp[b1,b2]at h2
      ·have e:y=z:=UInt8.le_antisymm (UInt8.not_lt.1 b2) (UInt8.not_lt.1 b1)
       subst e
       simp[a1]
    ·by_cases a2:y<x
     ·simp[a1,a2]at h1
     ·have e:x=y:=UInt8.le_antisymm (UInt8.not_lt.1 a2) (UInt8.not_lt.1 a1)
      subst e
      simp only[a1,if_false]at h1
      by_cases b1:x<z
      ·simp[b1]
      ·by_cases b2:z<x
       ·simp[b1,b2]at h2
       ·simp only[b1,b2,if_false]at h2⊢
        exact ih _ _ h1 h2
def ltB(a b:ByteArray):Prop:=cmpB a b<0
instance (a b:ByteArray):Decidable (ltB a b):=inferInstanceAs (Decidable (cmpB a b<0))
theorem cmpB_is(a b:ByteArray):cmpB a b=-1\/cmpB a b=0\/cmpB a b=1:=cmpB_range _ _
theorem cmpB_nil{a b:ByteArray}:cmpB a b=0↔a=b:=⟨fun h=>bytes_ext ((cmpB_zero _ _).1 h),fun h=>(cmpB_zero _ _).2 (by rw[h])⟩
theorem cmpB_swap(a b:ByteArray):cmpB b a=-cmpB a b:=cmpL_swap _ _
theorem ltB_iff{a b:ByteArray}:ltB a b↔cmpB a b=-1:=by
 unfold ltB
 rcases cmpB_is a b with h|h|h<;>omega
theorem ltB_irrefl(a:ByteArray):¬ltB a a:=by
 unfold ltB
 rw[cmpB_nil.2 rfl]
 omega
theorem ltB_trans{a b c:ByteArray}(h1:ltB a b)(h2:ltB b c):ltB a c:=ltB_iff.2 (cmpL_trans _ _ _ (ltB_iff.1 h1) (ltB_iff.1 h2))
theorem ltB_asymm{a b:ByteArray}(h1:ltB a b):¬ltB b a:=fun h2=>ltB_irrefl a (ltB_trans h1 h2)
theorem ltB_total(a b:ByteArray):ltB a b\/a=b\/ltB b a:=by
 rcases cmpB_is a b with h|h|h
 ·exact .inl (ltB_iff.2 h)
 ·exact .inr (.inl (cmpB_nil.1 h))
 ·refine .inr (.inr (ltB_iff.2 ?_))
  rw[cmpB_swap,h]
theorem ltB_of_not{a b:ByteArray}(h1:¬ltB a b)(h2:a≠b):ltB b a:=by
 rcases ltB_total a b with h|h|h
 ·exact absurd h h1
 ·exact absurd h h2
 ·exact h
theorem ltB_of_le_lt{a b c:ByteArray}(h1:¬ltB b a)(h2:ltB b c):ltB a c:=by
 rcases ltB_total a b with h|h|h
 ·exact ltB_trans h h2
 ·rw[h];exact h2
 ·exact absurd h h1
theorem ltB_of_lt_le{a b c:ByteArray}(h1:ltB a b)(h2:¬ltB c b):ltB a c:=by
 rcases ltB_total b c with h|h|h
 ·exact ltB_trans h1 h
 ·rw[<-h];exact h1
 ·exact absurd h h2
abbrev Srt (keys:List ByteArray):Prop:=keys.Pairwise ltB
theorem bsI_spec(lt:Nat->Bool)(n:Nat)(hm:∀a b,a<=b->b<n->lt b=true->lt a=true):∀f i j,i<=j->j<=n->j-i<=f->(∀h,h<i->lt h=true)->(∀h,j<=h->h<n->lt h=false)->(∀h,h<bsI lt f i j->lt h=true)/\∀h,bsI lt f i j<=h->h<n->lt h=false
 |0,i,j,h1,h2,h3,h4,h5=>by
  have e:i=j:=by omega
  subst e
  exact⟨h4,h5⟩
 |f+1,i,j,h1,h2,h3,h4,h5=>by
  unfold bsI
  by_cases hl:i<j
  ·rw[if_pos hl]
   by_cases hx:lt ((i+j)/2)=true
   ·rw[if_pos hx]
    exact bsI_spec lt n hm f _ _ (by omega) h2 (by omega) (fun h hh=>hm h ((i+j)/2) (by omega) (by omega) hx) h5
   ·rw[if_neg hx]
    refine bsI_spec lt n hm f _ _ (by omega) (by omega) (by omega) h4 (fun h hh hn=>?_)
    cases hv:lt h with
    |false=>rfl
    |true=>exact absurd (hm ((i+j)/2) h hh hn hv) hx
  ·rw[if_neg hl]
   have e:i=j:=by omega
   subst e
   exact⟨h4,h5⟩
theorem ltK_iff{keys:List ByteArray}{k:ByteArray}{h:Nat}(hh:h<keys.length):ltK keys k h=true↔ltB keys[h] k:=by
 unfold ltK ltB
 rw[decide_eq_true_eq,List.getD_eq_getElem?_getD,List.getElem?_eq_getElem hh]
 rfl
theorem search_spec{keys:List ByteArray}(hs:Srt keys)(k:ByteArray):(∀h (hh:h<keys.length),h<searchE keys k->ltB keys[h] k)/\∀h (hh:h<keys.length),searchE keys k<=h->¬ltB keys[h] k:=by
 have hp:=List.pairwise_iff_getElem.1 hs
 have hmono:∀a b,a<=b->b<keys.length->ltK keys k b=true->ltK keys k a=true:=fun a b hab hb h=>by
  rw[ltK_iff hb]at h
  rw[ltK_iff (by omega)]
  rcases Nat.eq_or_lt_of_le hab with e|e
  ·subst e;exact h
  ·exact ltB_trans (hp a b (by omega) hb e) h
 obtain⟨h1,h2⟩:=bsI_spec (ltK keys k) keys.length hmono keys.length 0 keys.length (Nat.zero_le _) (Nat.le_refl _) (by omega) (fun h hh=>absurd hh (Nat.not_lt_zero _)) (fun h h1 h2=>by omega)
 refine⟨fun h hh hl=>(ltK_iff hh).1 (h1 h hl),fun h hh hl hlt=>?_⟩
 have h3:=h2 h hl hh
 rw[(ltK_iff hh).2 hlt]at h3
 cases h3
theorem hitE_eq{keys:List ByteArray}{k:ByteArray}(h:hitE keys k=true):∃hl:searchE keys k<keys.length,keys[searchE keys k]=k:=by
 have hl:=hitE_lt h
 refine⟨hl,?_⟩
 unfold hitE at h
 rw[Bool.and_eq_true,decide_eq_true_eq,decide_eq_true_eq,List.getD_eq_getElem?_getD,List.getElem?_eq_getElem hl]at h
 exact cmpB_nil.1 h.2
theorem hitE_of_mem{keys:List ByteArray}(hs:Srt keys){k:ByteArray}(h:k∈keys):hitE keys k=true:=by
 obtain⟨i,hi,he⟩:=List.getElem_of_mem h
 obtain⟨h1,h2⟩:=search_spec hs k
 have hp:=List.pairwise_iff_getElem.1 hs
 have hle:searchE keys k<=i:=by
  rcases Nat.lt_or_ge i (searchE keys k)with hx|hx
  ·have:=h1 i hi hx
   rw[he]at this
   exact absurd this (ltB_irrefl k)
  ·exact hx
 have heq:searchE keys k=i:=by
  rcases Nat.eq_or_lt_of_le hle with e|e
  ·exact e
  ·have a1:=hp (searchE keys k) i (by omega) hi e
   rw[he]at a1
   exact absurd a1 (h2 (searchE keys k) (by omega) (Nat.le_refl _))
 unfold hitE
 rw[Bool.and_eq_true,decide_eq_true_eq,decide_eq_true_eq,List.getD_eq_getElem?_getD,List.getElem?_eq_getElem (by omega)]
 refine⟨by omega,cmpB_nil.2 ?_⟩
 show keys[searchE keys k]=k
 simp only[heq]
 exact he
theorem key_parts{X:Type}{l:List (ByteArray×X)}(hs:Srt (l.map Prod.fst))(k:ByteArray):
  (∀x∈l.take (searchE (l.map Prod.fst) k),ltB x.1 k)/\
  (hitE (l.map Prod.fst) k=true->∃x,l.drop (searchE (l.map Prod.fst) k)=x::l.drop (searchE (l.map Prod.fst) k+1)/\x.1=k/\∀y∈l.drop (searchE (l.map Prod.fst) k+1),ltB k y.1)/\
  (hitE (l.map Prod.fst) k=false->∀y∈l.drop (searchE (l.map Prod.fst) k),ltB k y.1):=by
 obtain⟨h1,h2⟩:=search_spec hs k
 have hp:=List.pairwise_iff_getElem.1 hs
 have hg:∀i (hi:i<l.length),(l.map Prod.fst)[i]'(by rw[List.length_map];exact hi)=l[i].1:=fun i hi=>List.getElem_map _
 refine⟨fun x hx=>?_,fun hh=>?_,fun hh y hy=>?_⟩
 ·obtain⟨i,hi,rfl⟩:=List.getElem_of_mem hx
  have hi2:i<l.length:=by rw[List.length_take]at hi;omega
  rw[List.getElem_take,<-hg i hi2]
  exact h1 i (by rw[List.length_map];exact hi2) (by rw[List.length_take]at hi;omega)
 ·obtain⟨hl,he⟩:=hitE_eq hh
  have hl2:searchE (l.map Prod.fst) k<l.length:=by rw[List.length_map]at hl;exact hl
  rw[hg _ hl2]at he
  refine⟨l[searchE (l.map Prod.fst) k],List.drop_eq_getElem_cons hl2,he,fun y hy=>?_⟩
  obtain⟨i,hi,rfl⟩:=List.getElem_of_mem hy
  have hi2:searchE (l.map Prod.fst) k+1+i<l.length:=by rw[List.length_drop]at hi;omega
  have:=hp (searchE (l.map Prod.fst) k) (searchE (l.map Prod.fst) k+1+i) hl (by rw[List.length_map];exact hi2) (by omega)
  rw[hg _ hl2,hg _ hi2,he]at this
  rw[List.getElem_drop]
  exact this
 ·obtain⟨i,hi,rfl⟩:=List.getElem_of_mem hy
  have hi2:searchE (l.map Prod.fst) k+i<l.length:=by rw[List.length_drop]at hi;omega
  have h3:=h2 (searchE (l.map Prod.fst) k+i) (by rw[List.length_map];exact hi2) (by omega)
  rw[hg _ hi2]at h3
  rw[List.getElem_drop]
  refine ltB_of_not h3 (fun e=>?_)
  have hm:k∈l.map Prod.fst:=List.mem_map.2 ⟨_,List.getElem_mem hi2,e⟩
  rw[hitE_of_mem hs hm]at hh
  cases hh
def getA(l:List (ByteArray×ByteArray))(k:ByteArray):Option ByteArray:=(l.find? fun x=>decide (x.1=k)).map Prod.snd
abbrev LP:Type:=List (ByteArray×ByteArray)
def putA(l:LP)(k v:ByteArray):LP:=l.filter (fun x=>decide (ltB x.1 k))++(k,v)::l.filter fun x=>decide (ltB k x.1)
def dropA(l:LP)(k:ByteArray):LP:=l.filter fun x=>decide (x.1≠k)
def fromA(l:LP)(s:ByteArray):LP:=l.filter fun x=>decide (¬ltB x.1 s)
abbrev SrtP (l:LP):Prop:=Srt (l.map Prod.fst)
theorem filter_all{α:Type}{p:α->Bool}{l:List α}(h:∀x∈l,p x=true):l.filter p=l:=List.filter_eq_self.2 h
theorem filter_no{α:Type}{p:α->Bool}{l:List α}(h:∀x∈l,p x=false):l.filter p=[]:=List.filter_eq_nil_iff.2 fun x hx=>by rw[h x hx];simp
theorem putA_mid(a m b:LP)(k v:ByteArray)(ha:∀x∈a,ltB x.1 k)(hb:∀x∈b,ltB k x.1):putA (a++m++b) k v=a++putA m k v++b:=by
 unfold putA
 simp only[List.filter_append]
 rw[filter_all (l:=a) (p:=fun x=>decide (ltB x.1 k)) (fun x hx=>decide_eq_true (ha x hx)),filter_no (l:=b) (p:=fun x=>decide (ltB x.1 k)) (fun x hx=>decide_eq_false (ltB_asymm (hb x hx))),filter_no (l:=a) (p:=fun x=>decide (ltB k x.1)) (fun x hx=>decide_eq_false (ltB_asymm (ha x hx))),filter_all (l:=b) (p:=fun x=>decide (ltB k x.1)) (fun x hx=>decide_eq_true (hb x hx))]
 simp
theorem dropA_mid(a m b:LP)(k:ByteArray)(ha:∀x∈a,ltB x.1 k)(hb:∀x∈b,ltB k x.1):dropA (a++m++b) k=a++dropA m k++b:=by
 unfold dropA
 simp only[List.filter_append]
 rw[filter_all (l:=a) (p:=fun x=>decide (x.1≠k)) (fun x hx=>decide_eq_true (fun e=>ltB_irrefl k (by have:=ha x hx;rw[e]at this;exact this))),filter_all (l:=b) (p:=fun x=>decide (x.1≠k)) (fun x hx=>decide_eq_true (fun e=>ltB_irrefl k (by have:=hb x hx;rw[e]at this;exact this)))]
theorem getA_mid(a m b:LP)(k:ByteArray)(ha:∀x∈a,ltB x.1 k)(hb:∀x∈b,ltB k x.1):getA (a++m++b) k=getA m k:=by
 unfold getA
 have h1:a.find? (fun x=>decide (x.1=k))=none:=List.find?_eq_none.2 fun x hx=>by
  simp only[decide_eq_true_eq]
  exact fun e=>ltB_irrefl k (by have:=ha x hx;rw[e]at this;exact this)
 have h2:b.find? (fun x=>decide (x.1=k))=none:=List.find?_eq_none.2 fun x hx=>by
  simp only[decide_eq_true_eq]
  exact fun e=>ltB_irrefl k (by have:=hb x hx;rw[e]at this;exact this)
 rw[List.find?_append,List.find?_append,h1,h2]
 simp
theorem fromA_mid(a m b:LP)(k:ByteArray)(ha:∀x∈a,ltB x.1 k)(hb:∀x∈b,ltB k x.1):fromA (a++m++b) k=fromA m k++b:=by
 unfold fromA
 simp only[List.filter_append]
 rw[filter_no (l:=a) (p:=fun x=>decide (¬ltB x.1 k)) (fun x hx=>decide_eq_false (fun h=>h (ha x hx))),filter_all (l:=b) (p:=fun x=>decide (¬ltB x.1 k)) (fun x hx=>decide_eq_true (ltB_asymm (hb x hx)))]
 simp
theorem take_drop_set{α:Type}(l:List α){i:Nat}{x:α}{r:List α}(h:l.drop i=x::r)(y:α):l.set i y=l.take i++y::r:=by
 have hl:i<l.length:=by
  rcases Nat.lt_or_ge i l.length with h1|h1
  ·exact h1
  ·rw[List.drop_eq_nil_of_le h1]at h;cases h
 rw[List.set_eq_take_append_cons_drop,if_pos hl]
 rw[List.drop_eq_getElem_cons hl]at h
 injection h with _ h
 rw[h]
theorem take_drop_erase{α:Type}(l:List α){i:Nat}{x:α}{r:List α}(h:l.drop i=x::r):l.eraseIdx i=l.take i++r:=by
 have hl:i<l.length:=by
  rcases Nat.lt_or_ge i l.length with h1|h1
  ·exact h1
  ·rw[List.drop_eq_nil_of_le h1]at h;cases h
 rw[List.eraseIdx_eq_take_drop_succ]
 rw[List.drop_eq_getElem_cons hl]at h
 injection h with _ h
 rw[h]
theorem insert_td2{α:Type}(x:α):∀(l:List α) (i:Nat),i<=l.length->l.insertIdx i x=l.take i++x::l.drop i
 |l,0,_=>by simp
 |[],i+1,h=>by simp at h
 |a::l,i+1,h=>by
  have:=insert_td2 x l i (by simpa using h)
  simp[List.insertIdx_succ_cons,this]
section
variable{l:LP}(hs:SrtP l)(k:ByteArray)
include hs
theorem leaf_parts:∃a b,l=a++b/\a=l.take (searchE (l.map Prod.fst) k)/\b=l.drop (searchE (l.map Prod.fst) k)/\(∀x∈a,ltB x.1 k)/\((hitE (l.map Prod.fst) k=true/\∃v r,b=(k,v)::r/\∀y∈r,ltB k y.1)\/(hitE (l.map Prod.fst) k=false/\∀y∈b,ltB k y.1)):=by
 obtain⟨h1,h2,h3⟩:=key_parts hs k
 refine⟨_,_,(List.take_append_drop _ _).symm,rfl,rfl,h1,?_⟩
 cases hh:hitE (l.map Prod.fst) k with
 |true=>
  obtain⟨x,e,hx,hy⟩:=h2 hh
  refine .inl ⟨rfl,x.2,_,?_,hy⟩
  rw[e,<-hx]
 |false=>exact .inr ⟨rfl,h3 hh⟩
theorem putL_A(v:ByteArray):putL l k v=putA l k v:=by
 obtain⟨a,b,e,ea,eb,h1,h2⟩:=leaf_parts hs k
 unfold putL
 have hno:∀r:LP,(∀y∈r,ltB k y.1)->(r.filter fun x=>decide (ltB x.1 k))=[]/\(r.filter fun x=>decide (ltB k x.1))=r:=fun r hr=>⟨filter_no fun x hx=>decide_eq_false (ltB_asymm (hr x hx)),filter_all fun x hx=>decide_eq_true (hr x hx)⟩
 rcases h2 with⟨hh,u,r,e2,hr⟩|⟨hh,hr⟩
 ·rw[hh,if_pos rfl,take_drop_set l (eb.symm.trans e2) (k,v),<-ea]
  rw[e,e2]
  have h4:=putA_mid a [(k,u)] r k v h1 hr
  rw[show a++(k,u)::r=a++[(k,u)]++r by simp,h4]
  unfold putA
  have h5:¬ltB k k:=ltB_irrefl k
  simp[h5]
 ·rw[hh,if_neg (by simp),insert_td2 _ _ _ (by have:=searchE_le (l.map Prod.fst) k;rw[List.length_map]at this;exact this),<-ea,<-eb]
  rw[e]
  have h4:=putA_mid a [] b k v h1 hr
  rw[List.append_nil]at h4
  rw[h4]
  unfold putA
  simp
theorem erase_A(hh:hitE (l.map Prod.fst) k=true):l.eraseIdx (searchE (l.map Prod.fst) k)=dropA l k:=by
 obtain⟨a,b,e,ea,eb,h1,h2⟩:=leaf_parts hs k
 rcases h2 with⟨_,u,r,e2,hr⟩|⟨h3,_⟩
 ·rw[take_drop_erase l (eb.symm.trans e2),<-ea]
  rw[e,e2,show a++(k,u)::r=a++[(k,u)]++r by simp,dropA_mid a [(k,u)] r k h1 hr]
  unfold dropA
  simp
 ·rw[hh]at h3;cases h3
theorem drop_A:l.drop (searchE (l.map Prod.fst) k)=fromA l k:=by
 obtain⟨a,b,e,ea,eb,h1,h2⟩:=leaf_parts hs k
 rw[<-eb]
 rcases h2 with⟨_,u,r,e2,hr⟩|⟨_,hr⟩
 ·rw[e,e2,show a++(k,u)::r=a++[(k,u)]++r by simp,fromA_mid a [(k,u)] r k h1 hr]
  unfold fromA
  have h5:¬ltB k k:=ltB_irrefl k
  simp[h5]
 ·have h4:=fromA_mid a [] b k h1 hr
  rw[List.append_nil]at h4
  rw[e,h4]
  unfold fromA
  simp
theorem get_A:(if hitE (l.map Prod.fst) k then(l[searchE (l.map Prod.fst) k]?).map Prod.snd else none)=getA l k:=by
 obtain⟨a,b,e,ea,eb,h1,h2⟩:=leaf_parts hs k
 rcases h2 with⟨hh,u,r,e2,hr⟩|⟨hh,hr⟩
 ·have h6:l[searchE (l.map Prod.fst) k]?=some (k,u):=by
   have:(l.drop (searchE (l.map Prod.fst) k))[0]?=some (k,u):=by rw[<-eb,e2];rfl
   rw[List.getElem?_drop,Nat.add_zero]at this
   exact this
  rw[hh,if_pos rfl,h6]
  rw[e,e2,show a++(k,u)::r=a++[(k,u)]++r by simp,getA_mid a [(k,u)] r k h1 hr]
  unfold getA
  simp
 ·rw[hh,if_neg (by simp)]
  have h4:=getA_mid a [] b k h1 hr
  rw[List.append_nil]at h4
  rw[e,h4]
  rfl
end
theorem srt_append{a b:List ByteArray}:Srt (a++b)↔Srt a/\Srt b/\∀x∈a,∀y∈b,ltB x y:=List.pairwise_append
theorem srt_filter{l:LP}(hs:SrtP l)(p:ByteArray×ByteArray->Bool):SrtP (l.filter p):=List.Pairwise.sublist ((List.filter_sublist (p:=p) (l:=l)).map _) hs
theorem putA_srt{l:LP}(hs:SrtP l)(k v:ByteArray):SrtP (putA l k v):=by
 unfold SrtP putA
 rw[List.map_append,List.map_cons]
 refine srt_append.2 ⟨srt_filter hs _,List.pairwise_cons.2 ⟨fun y hy=>?_,srt_filter hs _⟩,fun x hx y hy=>?_⟩
 ·obtain⟨z,hz,rfl⟩:=List.mem_map.1 hy
  simpa using(List.mem_filter.1 hz).2
 ·obtain⟨z,hz,rfl⟩:=List.mem_map.1 hx
  have h1:ltB z.1 k:=by simpa using(List.mem_filter.1 hz).2
  rcases List.mem_cons.1 hy with e|hy
  ·rw[e];exact h1
  ·obtain⟨u,hu,rfl⟩:=List.mem_map.1 hy
   have h2:ltB k u.1:=by simpa using(List.mem_filter.1 hu).2
   exact ltB_trans h1 h2
theorem dropA_srt{l:LP}(hs:SrtP l)(k:ByteArray):SrtP (dropA l k):=srt_filter hs _
theorem mem_putA{l:LP}{k v:ByteArray}{x:ByteArray×ByteArray}(h:x∈putA l k v):x∈l\/x=(k,v):=by
 unfold putA at h
 rcases List.mem_append.1 h with h|h
 ·exact .inl (List.mem_filter.1 h).1
 ·rcases List.mem_cons.1 h with h|h
  ·exact .inr h
  ·exact .inl (List.mem_filter.1 h).1
abbrev KL:Type:=ByteArray×T 0
def KL.kv(x:KL):LP:=T.kv x.2
def kv1(ls:List KL):LP:=ls.flatMap KL.kv
theorem kv1_append(a b:List KL):kv1 (a++b)=kv1 a++kv1 b:=List.flatMap_append
theorem kv1_cons(x:KL)(b:List KL):kv1 (x::b)=x.kv++kv1 b:=List.flatMap_cons
theorem kv1_nil:kv1 []=[]:=rfl
structure Ord1(ls:List KL):Prop where
 keys:Srt (ls.map Prod.fst)
 leaf:∀x∈ls,SrtP x.kv/\∀e∈x.kv,¬ltB e.1 x.1
 next:ls.Pairwise fun x y=>∀e∈x.kv,ltB e.1 y.1
theorem ord1_append{a b:List KL}:Ord1 (a++b)↔Ord1 a/\Ord1 b/\∀x∈a,∀y∈b,ltB x.1 y.1/\∀e∈x.kv,ltB e.1 y.1:=by
 constructor
 ·intro h
  have hk:=h.keys
  rw[List.map_append]at hk
  obtain⟨k1,k2,k3⟩:=srt_append.1 hk
  obtain⟨n1,n2,n3⟩:=List.pairwise_append.1 h.next
  exact⟨⟨k1,fun x hx=>h.leaf x (List.mem_append_left _ hx),n1⟩,⟨k2,fun x hx=>h.leaf x (List.mem_append_right _ hx),n2⟩,fun x hx y hy=>⟨k3 x.1 (List.mem_map_of_mem hx) y.1 (List.mem_map_of_mem hy),n3 x hx y hy⟩⟩
 ·rintro⟨h1,h2,h3⟩
  refine⟨?_,fun x hx=>(List.mem_append.1 hx).elim (h1.leaf x) (h2.leaf x),List.pairwise_append.2 ⟨h1.next,h2.next,fun x hx y hy=>(h3 x hx y hy).2⟩⟩
  rw[List.map_append]
  refine srt_append.2 ⟨h1.keys,h2.keys,fun x hx y hy=>?_⟩
  obtain⟨u,hu,rfl⟩:=List.mem_map.1 hx
  obtain⟨v,hv,rfl⟩:=List.mem_map.1 hy
  exact(h3 u hu v hv).1
theorem ord1_cons{x:KL}{b:List KL}:Ord1 (x::b)↔(SrtP x.kv/\∀e∈x.kv,¬ltB e.1 x.1)/\Ord1 b/\∀y∈b,ltB x.1 y.1/\∀e∈x.kv,ltB e.1 y.1:=by
 have:=ord1_append (a:=[x]) (b:=b)
 rw[List.singleton_append]at this
 rw[this]
 constructor
 ·rintro⟨h1,h2,h3⟩
  exact⟨h1.leaf x (by simp),h2,fun y hy=>h3 x (by simp) y hy⟩
 ·rintro⟨h1,h2,h3⟩
  refine⟨⟨by simp,fun y hy=>?_,by simp⟩,h2,fun u hu y hy=>?_⟩
  ·rw[List.mem_singleton.1 hy];exact h1
  ·rw[List.mem_singleton.1 hu];exact h3 y hy
theorem mem_kv1{ls:List KL}{e:ByteArray×ByteArray}:e∈kv1 ls↔∃x∈ls,e∈x.kv:=List.mem_flatMap
theorem kv1_srt:∀{ls:List KL},Ord1 ls->SrtP (kv1 ls)
 |[],_=>by simp[SrtP,kv1]
 |x::b,h=>by
  obtain⟨h1,h2,h3⟩:=ord1_cons.1 h
  unfold SrtP
  rw[kv1_cons,List.map_append]
  refine srt_append.2 ⟨h1.1,kv1_srt h2,fun u hu v hv=>?_⟩
  obtain⟨e,he,rfl⟩:=List.mem_map.1 hu
  obtain⟨f,hf,rfl⟩:=List.mem_map.1 hv
  obtain⟨y,hy,hfy⟩:=mem_kv1.1 hf
  exact ltB_of_lt_le ((h3 y hy).2 e he) ((h2.leaf y hy).2 f hfy)
theorem node_parts{ls:List KL}(h:Ord1 ls){k:ByteArray}{x0:KL}{r0:List KL}(h0:ls=x0::r0)(hk:¬ltB k x0.1):
  ∃a x b,ls=a++x::b/\a.length=downE (ls.map Prod.fst) k/\¬ltB k x.1/\(∀y∈b,ltB k y.1)/\(∀e∈kv1 a,ltB e.1 k)/\(∀e∈kv1 b,ltB k e.1)/\Ord1 a/\(SrtP x.kv/\∀e∈x.kv,¬ltB e.1 x.1)/\Ord1 b/\(∀y∈b,ltB x.1 y.1/\∀e∈x.kv,ltB e.1 y.1)/\∀y∈a,ltB y.1 x.1/\∀e∈y.kv,ltB e.1 x.1:=by
 obtain⟨p1,p2,p3⟩:=key_parts h.keys k
 have main:∀(a:List KL) (x:KL) (b:List KL),ls=a++x::b->a.length=downE (ls.map Prod.fst) k->¬ltB k x.1->(∀y∈b,ltB k y.1)->∃a x b,ls=a++x::b/\a.length=downE (ls.map Prod.fst) k/\¬ltB k x.1/\(∀y∈b,ltB k y.1)/\(∀e∈kv1 a,ltB e.1 k)/\(∀e∈kv1 b,ltB k e.1)/\Ord1 a/\(SrtP x.kv/\∀e∈x.kv,¬ltB e.1 x.1)/\Ord1 b/\(∀y∈b,ltB x.1 y.1/\∀e∈x.kv,ltB e.1 y.1)/\∀y∈a,ltB y.1 x.1/\∀e∈y.kv,ltB e.1 x.1:=by
  intro a x b e1 e2 e3 e4
  rw[e1]at h
  obtain⟨o1,o2,o3⟩:=ord1_append.1 h
  obtain⟨c1,c2,c3⟩:=ord1_cons.1 o2
  refine⟨a,x,b,e1,e2,e3,e4,fun e he=>?_,fun e he=>?_,o1,c1,c2,c3,fun y hy=>o3 y hy x List.mem_cons_self⟩
  ·obtain⟨y,hy,hey⟩:=mem_kv1.1 he
   exact ltB_of_lt_le ((o3 y hy x List.mem_cons_self).2 e hey) e3
  ·obtain⟨y,hy,hey⟩:=mem_kv1.1 he
   exact ltB_of_lt_le (e4 y hy) ((c2.leaf y hy).2 e hey)
 cases hh:hitE (ls.map Prod.fst) k with
 |true=>
  obtain⟨x,e,hx,hy⟩:=p2 hh
  refine main (ls.take (searchE (ls.map Prod.fst) k)) x (ls.drop (searchE (ls.map Prod.fst) k+1)) ?_ ?_ ?_ hy
  ·rw[<-e,List.take_append_drop]
  ·have:=hitE_lt hh
   rw[List.length_map]at this
   unfold downE
   rw[hh,if_pos rfl,List.length_take]
   omega
  ·rw[hx];exact ltB_irrefl k
 |false=>
  have hp:=p3 hh
  have hpos:1<=searchE (ls.map Prod.fst) k:=by
   rcases Nat.eq_zero_or_pos (searchE (ls.map Prod.fst) k)with e|e
   ·rw[e,List.drop_zero,h0]at hp
    exact absurd (hp x0 List.mem_cons_self) hk
   ·exact e
  have hle:=searchE_le (ls.map Prod.fst) k
  rw[List.length_map]at hle
  have hlt:searchE (ls.map Prod.fst) k-1<ls.length:=by omega
  have hsp:ls.take (searchE (ls.map Prod.fst) k)=ls.take (searchE (ls.map Prod.fst) k-1)++[ls[searchE (ls.map Prod.fst) k-1]]:=by
   have:=List.take_succ_eq_append_getElem hlt
   rw[show searchE (ls.map Prod.fst) k-1+1=searchE (ls.map Prod.fst) k by omega]at this
   exact this
  refine main (ls.take (searchE (ls.map Prod.fst) k-1)) ls[searchE (ls.map Prod.fst) k-1] (ls.drop (searchE (ls.map Prod.fst) k)) ?_ ?_ ?_ hp
  ·have h1:=(List.take_append_drop (searchE (ls.map Prod.fst) k) ls).symm
   rw[hsp,List.append_assoc,List.singleton_append]at h1
   exact h1
  ·unfold downE
   rw[hh,if_neg (by simp),List.length_take]
   omega
  ·refine ltB_asymm (p1 _ ?_)
   rw[hsp]
   exact List.mem_append_right _ (List.mem_singleton.2 rfl)
section
variable{a b:List KL}{x:KL}{k:ByteArray}(ha:∀e∈kv1 a,ltB e.1 k)(hb:∀e∈kv1 b,ltB k e.1)
include ha hb
theorem kv1_put(v:ByteArray):putA (kv1 (a++x::b)) k v=kv1 a++putA x.kv k v++kv1 b:=by
 rw[kv1_append,kv1_cons,<-List.append_assoc]
 exact putA_mid _ _ _ k v ha hb
theorem kv1_drop:dropA (kv1 (a++x::b)) k=kv1 a++dropA x.kv k++kv1 b:=by
 rw[kv1_append,kv1_cons,<-List.append_assoc]
 exact dropA_mid _ _ _ k ha hb
theorem kv1_get:getA (kv1 (a++x::b)) k=getA x.kv k:=by
 rw[kv1_append,kv1_cons,<-List.append_assoc]
 exact getA_mid _ _ _ k ha hb
theorem kv1_from:fromA (kv1 (a++x::b)) k=fromA x.kv k++kv1 b:=by
 rw[kv1_append,kv1_cons,<-List.append_assoc]
 exact fromA_mid _ _ _ k ha hb
end
def HdK(b0:ByteArray)(l:LP):Prop:=∃v r,l=(b0,v)::r
def goodT(b0:ByteArray):Tr->Prop
 |none=>True
 |some ⟨0,t⟩=>SrtP (T.kv t)/\HdK b0 (T.kv t)
 |some ⟨1,t⟩=>Ord1 (Prod.snd t:List KL)/\∃x0 r,(Prod.snd t:List KL)=x0::r/\x0.1=b0/\HdK b0 (KL.kv x0)
 |some ⟨_+2,_⟩=>False
def kvR:Tr->LP
 |none=>[]
 |some t=>t.2.kv
theorem goodT_srt{b0:ByteArray}:∀{t:Tr},goodT b0 t->SrtP (kvR t)
 |none,_=>by simp[SrtP,kvR]
 |some ⟨0,t⟩,h=>h.1
 |some ⟨1,t⟩,h=>by
  obtain⟨p,ls⟩:Nat×List KL:=t
  exact kv1_srt h.1
 |some ⟨_+2,_⟩,h=>h.elim
theorem hd_least{b0:ByteArray}{l:LP}(hs:SrtP l)(h:HdK b0 l):∀e∈l,¬ltB e.1 b0:=fun e he=>by
 obtain⟨v,r,rfl⟩:=h
 rcases List.mem_cons.1 he with e1|he
 ·rw[e1];exact ltB_irrefl b0
 ·have:=(List.pairwise_cons.1 hs).1 e.1 (List.mem_map_of_mem he)
  exact ltB_asymm this
theorem get_good{b0 k:ByteArray}(hk:¬ltB k b0):∀{t:Tr},goodT b0 t->t.get k=getA (kvR t) k
 |none,_=>rfl
 |some ⟨0,t⟩,h=>by
  obtain⟨p,l⟩:Nat×LP:=t
  exact get_A (l:=l) h.1 k
 |some ⟨1,t⟩,h=>by
  obtain⟨p,ls⟩:Nat×List KL:=t
  obtain⟨ho,x0,r,e,e0,_⟩:=h
  have ho:Ord1 ls:=ho
  have e:ls=x0::r:=e
  obtain⟨a,x,b,h1,h2,_,_,h5,h6,_,h8,_⟩:=node_parts ho e (k:=k) (by rw[e0];exact hk)
  have hx:ls[downE (ls.map Prod.fst) k]?=some x:=by
   rw[<-h2,h1,List.getElem?_append_right (Nat.le_refl _),Nat.sub_self]
   rfl
  show((ls[downE (ls.map Prod.fst) k]?).bind fun y=>getT k y.2)=getA (kv1 ls) k
  rw[hx,h1,kv1_get h5 h6]
  obtain⟨kx,q⟩:=x
  obtain⟨q,l⟩:Nat×LP:=q
  exact get_A (l:=l) h8.1 k
 |some ⟨_+2,_⟩,h=>h.elim
theorem walk_good{b0 s:ByteArray}(hk:¬ltB s b0):∀{t:Tr},goodT b0 t->walkR t s=fromA (kvR t) s
 |none,_=>rfl
 |some ⟨0,t⟩,h=>by
  obtain⟨p,l⟩:Nat×LP:=t
  exact drop_A (l:=l) h.1 s
 |some ⟨1,t⟩,h=>by
  obtain⟨p,ls⟩:Nat×List KL:=t
  obtain⟨ho,x0,r,e,e0,_⟩:=h
  have ho:Ord1 ls:=ho
  have e:ls=x0::r:=e
  obtain⟨a,x,b,h1,h2,_,_,h5,h6,_,h8,hb,_⟩:=node_parts ho e (k:=s) (by rw[e0];exact hk)
  have hd:ls.drop (downE (ls.map Prod.fst) s)=x::b:=by
   rw[<-h2,h1,List.drop_left]
  have hl:∀y:KL,SrtP y.kv->walkT s y.2=fromA y.kv s:=fun y hy=>by
   obtain⟨ky,q⟩:=y
   obtain⟨q,l⟩:Nat×LP:=q
   exact drop_A (l:=l) hy s
  show((ls.drop (downE (ls.map Prod.fst) s)).flatMap fun y=>walkT s y.2)=fromA (kv1 ls) s
  rw[hd,h1,kv1_from h5 h6,List.flatMap_cons,hl x h8.1]
  congr 1
  unfold kv1
  rw[List.flatMap_def,List.flatMap_def]
  congr 1
  refine List.map_congr_left fun y hy=>?_
  rw[hl y (hb.leaf y hy).1]
  exact filter_all fun z hz=>decide_eq_true (ltB_asymm (h6 z (mem_kv1.2 ⟨y,hy,hz⟩)))
 |some ⟨_+2,_⟩,h=>h.elim
theorem ord1_mid{a b m:List KL}{k0:ByteArray}(ha:Ord1 a)(hb:Ord1 b)(hm:Ord1 m)(h1:∀y∈a,ltB y.1 k0/\∀e∈y.kv,ltB e.1 k0)(h2:∀z∈m,¬ltB z.1 k0/\∀y∈b,ltB z.1 y.1/\∀e∈z.kv,ltB e.1 y.1)(hab:∀x∈a,∀y∈b,ltB x.1 y.1/\∀e∈x.kv,ltB e.1 y.1):Ord1 (a++(m++b)):=by
 refine ord1_append.2 ⟨ha,ord1_append.2 ⟨hm,hb,fun z hz y hy=>(h2 z hz).2 y hy⟩,fun x hx y hy=>?_⟩
 rcases List.mem_append.1 hy with hy|hy
 ·exact⟨ltB_of_lt_le (h1 x hx).1 (h2 y hy).1,fun e he=>ltB_of_lt_le ((h1 x hx).2 e he) (h2 y hy).1⟩
 ·exact hab x hx y hy
def FreeN(n:Nat)(h:Head):Prop:=∃ks:List Nat,ks.Nodup/\n<=ks.length/\∀k∈ks,1<=k/\k<2000/\h.used k=false
theorem FreeN.mono{n m:Nat}{h:Head}(f:FreeN n h)(hm:m<=n):FreeN m h:=by
 obtain⟨ks,h1,h2,h3⟩:=f
 exact⟨ks,h1,by omega,h3⟩
theorem FreeN.used{n:Nat}{h h':Head}(f:FreeN n h)(e:h'.used=h.used):FreeN n h':=by
 obtain⟨ks,h1,h2,h3⟩:=f
 exact⟨ks,h1,h2,fun k hk=>by rw[e];exact h3 k hk⟩
theorem FreeN.alloc{n:Nat}{h:Head}(hf:h.fine)(f:FreeN (n+1) h):∃k,allocF h=some k/\FreeN n (h.put k true):=by
 obtain⟨ks,h1,h2,h3⟩:=f
 cases ha:allocF h with
 |none=>
  cases ks with
  |nil=>simp at h2
  |cons k r=>
   obtain⟨k1,k2,k3⟩:=h3 k List.mem_cons_self
   unfold allocF at ha
   have:=List.find?_eq_none.1 ha k (List.mem_range.2 k2)
   rw[k3]at this
   exact absurd rfl this
 |some k=>
  refine⟨k,rfl,ks.erase k,h1.erase k,?_,fun j hj=>?_⟩
  ·by_cases hm:k∈ks
   ·rw[List.length_erase_of_mem hm];omega
   ·rw[List.erase_of_not_mem hm];omega
  ·obtain⟨hne,hj⟩:=(h1.mem_erase_iff).1 hj
   refine⟨(h3 j hj).1,(h3 j hj).2.1,?_⟩
   show(if j=k then true else h.used j)=false
   rw[if_neg hne]
   exact(h3 j hj).2.2
theorem write_usedQ(c:Ch)(k:Int)(s:ByteArray):(c.write k s).h=c.h:=by
 unfold Ch.write
 split<;>rfl
theorem FreeN.write{n:Nat}{c:Ch}(f:FreeN n c.h)(k:Int)(s:ByteArray):FreeN n (c.write k s).h:=by rw[write_usedQ];exact f
theorem FreeN.ch_alloc{n:Nat}{c:Ch}(hc:c.fine)(f:FreeN (n+1) c.h):∃k,allocF c.h=some k/\FreeN n c.alloc.h:=by
 obtain⟨k,h1,h2⟩:=f.alloc hc.head
 refine⟨k,h1,?_⟩
 rw[alloc_eq h1]
 exact h2
def lb(l:LP):Nat:=bytesE true (l.map enL)
def lsum(l:LP):Nat:=sumE true (l.map enL)
theorem lb_eq(l:LP):lb l=3+lsum l:=rfl
theorem lsum_append(a b:LP):lsum (a++b)=lsum a+lsum b:=by
 unfold lsum
 rw[List.map_append,sumE_append]
theorem cut_two{R:LP}(hok:∀e∈R.map enL,e.ok true)(h1:1024<lb R)(h2:lb R<=1400):R.take (cutE true (R.map enL))≠[]/\R.drop (cutE true (R.map enL))≠[]/\lb (R.take (cutE true (R.map enL)))<=1024/\lb (R.drop (cutE true (R.map enL)))<=1024/\350<=lb (R.take (cutE true (R.map enL)))/\350<=lb (R.drop (cutE true (R.map enL)))/\lb (R.take (cutE true (R.map enL)))+lb (R.drop (cutE true (R.map enL)))=lb R+3:=by
 obtain⟨c1,c2,c3,c4⟩:=cutE_bounds hok h1 h2
 rw[List.length_map]at c2
 rw[<-List.map_take]at c3
 rw[<-List.map_drop]at c4
 have hsum:lsum R=lsum (R.take (cutE true (R.map enL)))+lsum (R.drop (cutE true (R.map enL))):=by rw[<-lsum_append,List.take_append_drop]
 obtain⟨b1,b2,b3⟩:=cutK_bounds true (bytesE true (R.map enL)/2) (R.map enL) 0 (fun e he=>En.sz_le (hok e he)) (by
  have h3:lb R=3+lsum R:=rfl
  show lb R/2<=0+lsum R
  omega)
 have b4:=b2 (by show 0<lb R/2;omega)
 rw[<-List.map_take]at b1 b4
 have b1:lb R/2<=0+lsum (R.take (cutE true (R.map enL))):=b1
 have b4:0+lsum (R.take (cutE true (R.map enL)))<lb R/2+162:=b4
 have e1:=lb_eq R
 have e2:=lb_eq (R.take (cutE true (R.map enL)))
 have e3:=lb_eq (R.drop (cutE true (R.map enL)))
 refine⟨fun e=>?_,fun e=>?_,c3,c4,by omega,by omega,by omega⟩
 ·rcases List.take_eq_nil_iff.1 e with e|e
  ·omega
  ·rw[e]at c2
   simp at c2
 ·have:=List.drop_eq_nil_iff.1 e
  omega
theorem splitL_fits{X:Type}{en:ByteArray×X->En}{leaf:Bool}{c:Ch}{p:Nat}{l old:List (ByteArray×X)}(h:bytesE leaf (l.map en)<=1024):splitL en leaf c p l old=(c.write (p:Nat) (pageE leaf (l.map en)),(p,l),some none):=by
 unfold splitL
 rw[if_pos h]
theorem splitL_cut{X:Type}{en:ByteArray×X->En}{leaf:Bool}{c:Ch}{p q:Nat}{l old:List (ByteArray×X)}(h:1024<bytesE leaf (l.map en))(ha:allocF c.h=some q):splitL en leaf c p l old=((c.alloc.write (p:Nat) (pageE leaf ((l.map en).take (cutE leaf (l.map en))))).write (q:Nat) (pageE leaf ((l.map en).drop (cutE leaf (l.map en)))),(p,l.take (cutE leaf (l.map en))),some (some (keyOf (l.drop (cutE leaf (l.map en))),(q,l.drop (cutE leaf (l.map en)))))):=by
 unfold splitL
 rw[if_neg (by omega),ha]
theorem putT_leaf_fits{c:Ch}{p:Nat}{l:LP}{k v:ByteArray}(h:lb (putL l k v)<=1024):putT (d:=0) c ((p,l):Nat×LP) k v=(c.write (p:Nat) (pageE true ((putL l k v).map enL)),((p,putL l k v):Nat×LP),some none):=by
 have e:putT (d:=0) c ((p,l):Nat×LP) k v=splitL enL true c p (putL l k v) l:=by
  refine(putT.eq_1 c k v ((p,l):Nat×LP)).trans ?_
  rfl
 exact e.trans (splitL_fits h)
theorem putT_leaf_split{c:Ch}{p q:Nat}{l:LP}{k v:ByteArray}(h:1024<lb (putL l k v))(ha:allocF c.h=some q):∃c',putT (d:=0) c ((p,l):Nat×LP) k v=(c',((p,(putL l k v).take (cutE true ((putL l k v).map enL))):Nat×LP),some (some (keyOf ((putL l k v).drop (cutE true ((putL l k v).map enL))),((q,(putL l k v).drop (cutE true ((putL l k v).map enL))):Nat×LP))))/\c'.h=c.alloc.h:=by
 have e:putT (d:=0) c ((p,l):Nat×LP) k v=splitL enL true c p (putL l k v) l:=by
  refine(putT.eq_1 c k v ((p,l):Nat×LP)).trans ?_
  rfl
 refine⟨(c.alloc.write (p:Nat) (pageE true (((putL l k v).map enL).take (cutE true ((putL l k v).map enL))))).write (q:Nat) (pageE true (((putL l k v).map enL).drop (cutE true ((putL l k v).map enL)))),?_,by rw[write_usedQ,write_usedQ]⟩
 exact e.trans (splitL_cut h ha)
theorem putT_node{c:Ch}{p:Nat}{a b:List KL}{x:KL}{k v:ByteArray}(hk:a.length=downE ((a++x::b).map Prod.fst) k){c1:Ch}{u:T 0}{r:Option (Option (ByteArray×T 0))}(hp:putT c x.2 k v=(c1,u,r)):
  putT (d:=1) c ((p,a++x::b):Nat×List KL) k v=match r with
   |none=>(c1,((p,a++(x.1,u)::b):Nat×List KL),none)
   |some none=>splitL (X:=T 0) (enN (d:=0)) false c1 p (a++(x.1,u)::b) (a++(x.1,u)::b)
   |some (some m)=>splitL (X:=T 0) (enN (d:=0)) false c1 p (a++(x.1,u)::m::b) (a++(x.1,u)::b):=by
 have hx:(a++x::b)[downE ((a++x::b).map Prod.fst) k]?=some x:=by
  rw[<-hk,List.getElem?_append_right (Nat.le_refl _),Nat.sub_self]
  rfl
 have hs:(a++x::b).set (downE ((a++x::b).map Prod.fst) k) (x.1,u)=a++(x.1,u)::b:=by
  rw[<-hk];exact set_mid x (x.1,u) b a
 rcases r with _|_|m
 ·refine(putT.eq_2 c k v 0 ((p,a++x::b):Nat×List KL)).trans ?_
  simp only[hx,hp]
  rw[hs]
 ·refine(putT.eq_2 c k v 0 ((p,a++x::b):Nat×List KL)).trans ?_
  simp only[hx,hp]
  rw[hs]
 ·have hi:(a++(x.1,u)::b).insertIdx (downE ((a++x::b).map Prod.fst) k+1) m=a++(x.1,u)::m::b:=by
   rw[<-hk];exact insert_mid m (x.1,u) b a
  refine(putT.eq_2 c k v 0 ((p,a++x::b):Nat×List KL)).trans ?_
  simp only[hx,hp]
  rw[hs,hi]
theorem putT_node1{c:Ch}{p:Nat}{a b:List KL}{x:KL}{k v:ByteArray}(hk:a.length=downE ((a++x::b).map Prod.fst) k){c1:Ch}{u:T 0}(hp:putT c x.2 k v=(c1,u,some none)):
 putT (d:=1) c ((p,a++x::b):Nat×List KL) k v=splitL (X:=T 0) (enN (d:=0)) false c1 p (a++(x.1,u)::b) (a++(x.1,u)::b):=putT_node hk hp
theorem putT_node2{c:Ch}{p:Nat}{a b:List KL}{x:KL}{k v:ByteArray}(hk:a.length=downE ((a++x::b).map Prod.fst) k){c1:Ch}{u:T 0}{m:KL}(hp:putT c x.2 k v=(c1,u,some (some m))):
 putT (d:=1) c ((p,a++x::b):Nat×List KL) k v=splitL (X:=T 0) (enN (d:=0)) false c1 p (a++(x.1,u)::m::b) (a++(x.1,u)::b):=putT_node hk hp
abbrev Wt:Type:=ByteArray->ByteArray->Nat
def pz(k v:ByteArray):Nat:=2+k.size+v.size
def wsum(ω:Wt)(l:LP):Nat:=(l.map fun x=>ω x.1 x.2).sum
theorem wsum_append(ω:Wt)(a b:LP):wsum ω (a++b)=wsum ω a+wsum ω b:=by
 unfold wsum
 rw[List.map_append,List.sum_append]
theorem wsum_cons(ω:Wt)(x:ByteArray×ByteArray)(l:LP):wsum ω (x::l)=ω x.1 x.2+wsum ω l:=by
 unfold wsum
 rw[List.map_cons,List.sum_cons]
theorem lsum_cons(x:ByteArray×ByteArray)(l:LP):lsum (x::l)=pz x.1 x.2+lsum l:=by
 unfold lsum
 rw[List.map_cons,sumE_cons]
 rfl
theorem lsum_is:∀l:LP,lsum l=wsum pz l
 |[]=>rfl
 |x::l=>by rw[lsum_cons,wsum_cons,lsum_is l]
theorem lsum_le{ω:Wt}(hω:∀k v,pz k v<=ω k v):∀l:LP,lsum l<=wsum ω l
 |[]=>Nat.le_refl _
 |x::l=>by
  have:=lsum_le hω l
  have:=hω x.1 x.2
  rw[lsum_cons,wsum_cons]
  omega
def oz(ω:Wt)(l:LP)(k:ByteArray):Nat:=match getA l k with
 |none=>0
 |some v=>ω k v
theorem putA_is{l:LP}(hs:SrtP l)(k:ByteArray):∃a r,(∀x∈a,ltB x.1 k)/\(∀y∈r,ltB k y.1)/\(∀v,putA l k v=a++(k,v)::r)/\dropA l k=a++r/\((∃u,l=a++(k,u)::r/\getA l k=some u)\/(l=a++r/\getA l k=none)):=by
 obtain⟨a,b,e,ea,eb,h1,h2⟩:=leaf_parts hs k
 have h5:¬ltB k k:=ltB_irrefl k
 rcases h2 with⟨hh,u,r,e2,hr⟩|⟨hh,hr⟩
 ·have e3:l=a++[(k,u)]++r:=by rw[e,e2];simp
  refine⟨a,r,h1,hr,fun v=>?_,?_,.inl ⟨u,by rw[e3];simp,?_⟩⟩
  ·rw[e3,putA_mid a [(k,u)] r k v h1 hr]
   unfold putA
   simp[h5]
  ·rw[e3,dropA_mid a [(k,u)] r k h1 hr]
   unfold dropA
   simp
  ·rw[e3,getA_mid a [(k,u)] r k h1 hr]
   unfold getA
   simp
 ·have e3:l=a++[]++b:=by rw[e];simp
  refine⟨a,b,h1,hr,fun v=>?_,?_,.inr ⟨e,?_⟩⟩
  ·rw[e3,putA_mid a [] b k v h1 hr]
   unfold putA
   simp
  ·rw[e3,dropA_mid a [] b k h1 hr]
   unfold dropA
   simp
  ·rw[e3,getA_mid a [] b k h1 hr]
   rfl
theorem wsum_put(ω:Wt){l:LP}(hs:SrtP l)(k v:ByteArray):wsum ω (putA l k v)+oz ω l k=wsum ω l+ω k v:=by
 obtain⟨a,r,_,_,h3,_,h4⟩:=putA_is hs k
 rw[h3 v,wsum_append,wsum_cons]
 rcases h4 with⟨u,e,hg⟩|⟨e,hg⟩
 ·unfold oz
  rw[hg,e,wsum_append,wsum_cons]
  simp only
  omega
 ·unfold oz
  rw[hg,e,wsum_append]
  simp only
  omega
theorem wsum_drop(ω:Wt){l:LP}(hs:SrtP l){k v0:ByteArray}(h:getA l k=some v0):wsum ω (dropA l k)+ω k v0=wsum ω l:=by
 obtain⟨a,r,_,_,_,h3,h4⟩:=putA_is hs k
 rw[h3,wsum_append]
 rcases h4 with⟨u,e,hg⟩|⟨e,hg⟩
 ·rw[h]at hg
  obtain rfl:=Option.some.inj hg
  rw[e,wsum_append,wsum_cons]
  show _=wsum ω a+(ω k v0+wsum ω r)
  omega
 ·rw[h]at hg
  cases hg
section
variable{ω:Wt}
def wl(ω:Wt)(l:LP):Nat:=max (wsum ω l) 347
def VS(ω:Wt)(ls:List KL):Nat:=(ls.map fun x=>wl ω x.kv).sum
def VT(ω:Wt):Tr->Nat
 |none=>347
 |some ⟨0,t⟩=>wl ω (T.kv t)
 |some ⟨1,t⟩=>VS ω (Prod.snd t:List KL)
 |some ⟨_+2,_⟩=>0
def sepsT:Tr->List ByteArray
 |some ⟨1,t⟩=>(Prod.snd t:List KL).map Prod.fst
 |_=>[]
def npT:Tr->Nat
 |none=>0
 |some ⟨0,_⟩=>1
 |some ⟨1,t⟩=>(Prod.snd t:List KL).length+1
 |some ⟨_+2,_⟩=>0
def shortT(t:Tr):Prop:=(∀e∈kvR t,e.1.size<=26)/\match t with
 |some ⟨1,t⟩=>∀x∈(Prod.snd t:List KL),x.1.size<=26
 |_=>True
end
theorem node_fits{ls:List KL}(h:∀x∈ls,x.1.size<=26)(hl:ls.length<=35):bytesE false (ls.map (enN (d:=0)))<=1024:=by
 have h1:∀m:List KL,(∀x∈m,x.1.size<=26)->sumE false (m.map (enN (d:=0)))<=29*m.length:=by
  intro m
  induction m with
  |nil=>intro _;simp[sumE]
  |cons x m ih=>
   intro hm
   have h2:=ih fun y hy=>hm y (List.mem_cons_of_mem _ hy)
   have h3:=hm x List.mem_cons_self
   rw[List.map_cons,sumE_cons,List.length_cons]
   have h4:(enN (d:=0) x).sz false=3+x.1.size:=rfl
   omega
 have:=h1 ls h
 unfold bytesE
 omega
theorem putA_hd{b0:ByteArray}{l:LP}(hs:SrtP l)(h:HdK b0 l){k:ByteArray}(hk:¬ltB k b0)(v:ByteArray):HdK b0 (putA l k v):=by
 obtain⟨u,r,rfl⟩:=h
 rcases ltB_total b0 k with h1|h1|h1
 ·refine⟨u,(r.filter fun x=>decide (ltB x.1 k))++(k,v)::((b0,u)::r).filter fun x=>decide (ltB k x.1),?_⟩
  unfold putA
  rw[List.filter_cons_of_pos (by simpa using h1)]
  rfl
 ·subst h1
  have h2:∀x∈r,ltB b0 x.1:=fun x hx=>(List.pairwise_cons.1 hs).1 x.1 (List.mem_map_of_mem hx)
  refine⟨v,r,?_⟩
  have h3:=putA_mid [] [(b0,u)] r b0 v (fun x hx=>by cases hx) h2
  simp only[List.nil_append,List.singleton_append]at h3
  rw[h3]
  unfold putA
  have h5:¬ltB b0 b0:=ltB_irrefl b0
  simp[h5]
 ·exact absurd h1 hk
theorem ord_cut{kx:ByteArray}{R:LP}{n p q:Nat}(hs:SrtP R)(hg:∀e∈R,¬ltB e.1 kx)(h1:R.take n≠[])(h2:R.drop n≠[]):
  Ord1 [(kx,((p,R.take n):Nat×LP)),(keyOf (R.drop n),((q,R.drop n):Nat×LP))]/\(∃v,(keyOf (R.drop n),v)∈R)/\ltB kx (keyOf (R.drop n)):=by
 have hsp:SrtP (R.take n++R.drop n):=by rw[List.take_append_drop];exact hs
 unfold SrtP at hsp
 rw[List.map_append]at hsp
 obtain⟨s1,s2,s3⟩:=srt_append.1 hsp
 obtain⟨e0,r0,he⟩:∃e r,R.drop n=e::r:=by
  cases h:R.drop n with
  |nil=>exact absurd h h2
  |cons a r=>exact⟨a,r,rfl⟩
 have hko:keyOf (R.drop n)=e0.1:=by rw[he];rfl
 have hm:e0∈R:=List.mem_of_mem_drop (by rw[he];exact List.mem_cons_self)
 have hlt:∀e∈R.take n,ltB e.1 (keyOf (R.drop n)):=fun e hx=>by
  rw[hko]
  exact s3 e.1 (List.mem_map_of_mem hx) e0.1 (List.mem_map_of_mem (by rw[he];exact List.mem_cons_self))
 have hkk:ltB kx (keyOf (R.drop n)):=by
  cases h:R.take n with
  |nil=>exact absurd h h1
  |cons a r=>
   have h3:=hlt a (by rw[h];exact List.mem_cons_self)
   exact ltB_of_le_lt (hg a (List.mem_of_mem_take (by rw[h];exact List.mem_cons_self))) h3
 refine⟨ord1_cons.2 ⟨⟨s1,fun e hx=>hg e (List.mem_of_mem_take hx)⟩,ord1_cons.2 ⟨⟨s2,fun e hx=>?_⟩,⟨by simp,fun x hx=>by simp at hx,by simp⟩,fun y hy=>by simp at hy⟩,fun y hy=>?_⟩,⟨e0.2,by rw[hko];exact hm⟩,hkk⟩
 ·have hx:e∈R.drop n:=hx
  show¬ltB e.1 (keyOf (R.drop n))
  rw[hko]
  rw[he]at hx
  rcases List.mem_cons.1 hx with e1|hx
  ·rw[e1];exact ltB_irrefl _
  ·rw[he,List.map_cons]at s2
   exact ltB_asymm ((List.pairwise_cons.1 s2).1 e.1 (List.mem_map_of_mem hx))
 ·rw[List.mem_singleton.1 hy]
  exact⟨hkk,hlt⟩
theorem ok_put{l:LP}{k v:ByteArray}(hok:∀e∈l.map enL,e.ok true)(hk:k.size<=60)(hv:v.size<=100):∀e∈(putL l k v).map enL,e.ok true:=fun e he=>by
 obtain⟨x,hx,rfl⟩:=List.mem_map.1 he
 rcases mem_putL hx with h|h
 ·exact hok _ (List.mem_map_of_mem h)
 ·rw[h]
  exact⟨hk,hv,by show(0:Nat)<2000;omega,fun _=>rfl,(fun h=>by cases h)⟩
theorem lb_put{l:LP}{k v:ByteArray}(h:lb l<=1024)(hk:k.size<=60)(hv:v.size<=100):lb (putL l k v)<=1400:=by
 have h1:=putL_bytes (l:=l) (key:=k) (item:=v)
 have h3:(enL (k,v)).sz true<=162:=En.sz_le ⟨hk,hv,by show(0:Nat)<2000;omega,fun _=>rfl,(fun h=>by cases h)⟩
 have h4:lb l=bytesE true (l.map enL):=rfl
 have h5:lb (putL l k v)=bytesE true ((putL l k v).map enL):=rfl
 omega
theorem short_put{t:Tr}{k v:ByteArray}(h:∀e∈kvR t,e.1.size<=26)(hk:k.size<=26):∀e∈putA (kvR t) k v,e.1.size<=26:=fun e he=>by
 rcases mem_putA he with h1|h1
 ·exact h e h1
 ·rw[h1];exact hk
theorem hd_take{b0:ByteArray}{R:LP}{n:Nat}(h:HdK b0 R)(h1:R.take n≠[]):HdK b0 (R.take n):=by
 obtain⟨v,r,rfl⟩:=h
 cases n with
 |zero=>exact absurd rfl h1
 |succ n=>exact⟨v,r.take n,rfl⟩
section
variable{ω:Wt}(hω:∀k v,pz k v<=ω k v){pg:Nat->ByteArray}{i:Nat}{c:Ch}{b0 k v:ByteArray}
end
abbrev mkL (k:ByteArray) (p:Nat) (l:LP):KL:=(k,((p,l):Nat×LP))
section
variable{ω:Wt}(hω:∀k v,pz k v<=ω k v){pg:Nat->ByteArray}{i:Nat}{c:Ch}{b0 k v:ByteArray}
theorem hd_mid{a b m:List KL}{x x0 z:KL}{r m':List KL}(e:a++x::b=x0::r)(h0:x0.1=b0)(h1:HdK b0 x0.kv)(hm:m=z::m')(hz:z.1=x.1)(hz2:HdK b0 x.kv->HdK b0 z.kv):∃y0 r',a++(m++b)=y0::r'/\y0.1=b0/\HdK b0 y0.kv:=by
 cases a with
 |nil=>
  rw[List.nil_append]at e
  injection e with e1 e2
  subst e1
  exact⟨z,m'++b,by rw[hm];rfl,hz.trans h0,hz2 h1⟩
 |cons u a=>
  injection e with e1 e2
  subst e1
  exact⟨u,a++(m++b),rfl,h0,h1⟩
end
theorem FreeN.free1{n:Nat}{c:Ch}{p:Nat}(f:FreeN n c.h)(hp:InU c p):FreeN (n+1) (c.free (p:Nat)).h:=by
 obtain⟨ks,h1,h2,h3⟩:=f
 have hnm:p∉ks:=fun hm=>by
  have:=(h3 p hm).2.2
  rw[hp.2.2]at this
  cases this
 rw[free_eq hp]
 refine⟨p::ks,List.nodup_cons.2 ⟨hnm,h1⟩,by rw[List.length_cons];omega,fun j hj=>?_⟩
 rcases List.mem_cons.1 hj with e|hj
 ·rw[e]
  refine⟨hp.1,hp.2.1,?_⟩
  show(if p=p then false else c.h.used p)=false
  rw[if_pos rfl]
 ·refine⟨(h3 j hj).1,(h3 j hj).2.1,?_⟩
  show(if j=p then false else c.h.used j)=false
  split
  ·rfl
  ·exact(h3 j hj).2.2
theorem dropT_leaf(c:Ch)(p:Nat)(l:LP)(k:ByteArray):dropT (d:=0) c ((p,l):Nat×LP) k=(c.write (p:Nat) (pageE true ((l.eraseIdx (searchE (l.map Prod.fst) k)).map enL)),((p,l.eraseIdx (searchE (l.map Prod.fst) k)):Nat×LP)):=rfl
theorem dropT_node{c:Ch}{p:Nat}{a b:List KL}{x:KL}{k:ByteArray}(hk:a.length=downE ((a++x::b).map Prod.fst) k){c1:Ch}{u:T 0}(hd:dropT c x.2 k=(c1,u)){s:Ch×List KL}(hs:(if u.ents.isEmpty then(c1.free (u.pg:Nat),a++b)else joinT (d:=0) c1 (a++(x.1,u)::b) a.length u)=s):
  dropT (d:=1) c ((p,a++x::b):Nat×List KL) k=(s.1.write (p:Nat) (pageE false (s.2.map (enN (d:=0)))),((p,s.2):Nat×List KL)):=by
 have hx:(a++x::b)[downE ((a++x::b).map Prod.fst) k]?=some x:=by
  rw[<-hk,List.getElem?_append_right (Nat.le_refl _),Nat.sub_self]
  rfl
 have h1:(a++x::b).set (downE ((a++x::b).map Prod.fst) k) (x.1,u)=a++(x.1,u)::b:=by
  rw[<-hk];exact set_mid x (x.1,u) b a
 have h2:(a++(x.1,u)::b).eraseIdx (downE ((a++x::b).map Prod.fst) k)=a++b:=by
  rw[<-hk];exact erase_mid (x.1,u) b a
 refine(dropT.eq_2 c k 0 ((p,a++x::b):Nat×List KL)).trans ?_
 simp only[hx,hd]
 rw[h1,h2,<-hk]
 rw[hs]
 rfl
theorem join_ways(c:Ch)(l:List KL)(K:Nat)(u:T 0):joinT (d:=0) c l K u=(c,l)\/∃a1 y z b2,l=a1++y::z::b2/\a1.length=K-1/\bytesE true (T.ents (d:=0) (T.meet (d:=0) y.2 z.1 z.2))<=1024/\joinT (d:=0) c l K u=((c.write (y.2.pg:Nat) (pageE true (T.ents (d:=0) (T.meet (d:=0) y.2 z.1 z.2)))).free (z.2.pg:Nat),a1++(y.1,T.meet (d:=0) y.2 z.1 z.2)::b2):=by
 by_cases h1:341<bytesE (isLeaf 0) u.ents\/l.length<2
 ·left
  unfold joinT
  rw[if_pos h1]
 cases ha:l[K-1]? with
 |none=>
  left
  unfold joinT
  rw[if_neg h1,ha]
 |some y=>
  cases hb:l[K-1+1]? with
  |none=>
   left
   unfold joinT
   rw[if_neg h1,ha,hb]
  |some z=>
   by_cases h2:1024<bytesE (isLeaf 0) (T.ents (d:=0) (T.meet (d:=0) y.2 z.1 z.2))
   ·left
    unfold joinT
    rw[if_neg h1,ha,hb]
    exact if_pos h2
   ·right
    obtain⟨l1,l2,hle,hk1⟩:=two_at ha hb
    refine⟨l1,y,z,l2,hle,hk1,by have h3:¬1024<bytesE true (T.ents (d:=0) (T.meet (d:=0) y.2 z.1 z.2)):=h2;omega,?_⟩
    unfold joinT
    rw[if_neg h1,ha,hb]
    refine(if_neg h2).trans ?_
    rw[<-hk1,hle,set_mid]
    have:=erase_mid z l2 (l1++[(y.1,T.meet (d:=0) y.2 z.1 z.2)])
    rw[List.length_append,List.length_singleton]at this
    simp only[List.append_assoc,List.singleton_append]at this
    rw[this]
    rfl
theorem hit_of_get{l:LP}(hs:SrtP l){k v0:ByteArray}(h:getA l k=some v0):hitE (l.map Prod.fst) k=true:=by
 cases hh:hitE (l.map Prod.fst) k with
 |true=>rfl
 |false=>
  have:=get_A hs k
  rw[hh,if_neg (by simp),h]at this
  cases this
theorem dropA_hd{b0:ByteArray}{l:LP}(h:HdK b0 l){k:ByteArray}(hk:k≠b0):HdK b0 (dropA l k):=by
 obtain⟨v,r,rfl⟩:=h
 refine⟨v,dropA r k,?_⟩
 unfold dropA
 rw[List.filter_cons_of_pos (by simpa using fun e=>hk e.symm)]
theorem mem_dropA{l:LP}{k:ByteArray}{x:ByteArray×ByteArray}(h:x∈dropA l k):x∈l:=(List.mem_filter.1 h).1
def meetL(y z:KL):KL:=(y.1,T.meet (d:=0) y.2 z.1 z.2)
theorem meetL_kv(y z:KL):(meetL y z).kv=y.kv++z.kv:=rfl
theorem ord_meet{a b:List KL}{y z:KL}(h:Ord1 (a++y::z::b)):Ord1 (a++meetL y z::b):=by
 obtain⟨h1,h2,h3⟩:=ord1_append.1 h
 obtain⟨h4,h5,h6⟩:=ord1_cons.1 h2
 obtain⟨h7,h8,h9⟩:=ord1_cons.1 h5
 refine ord1_append.2 ⟨h1,ord1_cons.2 ⟨⟨?_,?_⟩,h8,fun u hu=>⟨(h6 u (List.mem_cons_of_mem _ hu)).1,fun e he=>?_⟩⟩,fun u hu w hw=>?_⟩
 ·rw[meetL_kv]
  unfold SrtP
  rw[List.map_append]
  refine srt_append.2 ⟨h4.1,h7.1,fun p hp q hq=>?_⟩
  obtain⟨e,he,rfl⟩:=List.mem_map.1 hp
  obtain⟨f,hf,rfl⟩:=List.mem_map.1 hq
  exact ltB_of_lt_le ((h6 z List.mem_cons_self).2 e he) (h7.2 f hf)
 ·intro e he
  rw[meetL_kv]at he
  rcases List.mem_append.1 he with he|he
  ·exact h4.2 e he
  ·intro hlt
   exact h7.2 e he (ltB_trans hlt (h6 z List.mem_cons_self).1)
 ·rw[meetL_kv]at he
  rcases List.mem_append.1 he with he|he
  ·exact(h6 u (List.mem_cons_of_mem _ hu)).2 e he
  ·exact(h9 u hu).2 e he
 ·rcases List.mem_cons.1 hw with e|hw
  ·rw[e]
   exact h3 u hu y List.mem_cons_self
  ·exact h3 u hu w (List.mem_cons_of_mem _ (List.mem_cons_of_mem _ hw))
theorem kv1_meet(a b:List KL)(y z:KL):kv1 (a++meetL y z::b)=kv1 (a++y::z::b):=by
 rw[kv1_append,kv1_append,kv1_cons,kv1_cons,kv1_cons,meetL_kv,List.append_assoc]
section
variable{ω:Wt}{pg:Nat->ByteArray}{i:Nat}{c:Ch}{b0 k v0:ByteArray}
end
