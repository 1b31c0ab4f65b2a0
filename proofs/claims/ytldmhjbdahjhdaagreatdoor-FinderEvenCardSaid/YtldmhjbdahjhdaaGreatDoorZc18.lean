/-
  Part 18 of the proof.
-/
import Derived.Test.YtldmhjbdahjhdaaGreatDoorZc12
set_option maxRecDepth 100000
set_option maxHeartbeats 100000000
set_option linter.all false
namespace Go.Proofs.YtldmhjbdahjhdaaGreatDoor.Ev
open Go Go.RowKit
abbrev PM:Type:=List (ByteArray×Nat)
def inB(lo:ByteArray)(hi:Option ByteArray)(k:ByteArray):Bool:=!decide (ltB k lo)&&(match hi with|none=>true|some h=>decide (ltB k h))
def mass:PM->ByteArray->Option ByteArray->Nat
 |[],_,_=>0
 |x::M,lo,hi=>(if inB lo hi x.1=true then x.2 else 0)+mass M lo hi
def massA:PM->Nat
 |[]=>0
 |x::M=>x.2+massA M
def GM(b0:ByteArray)(M:PM):Prop:=∀x∈M,¬ltB x.1 b0
theorem GM.cons{b0 k:ByteArray}{s:Nat}{M:PM}(hk:¬ltB k b0)(h:GM b0 M):GM b0 ((k,s)::M):=fun x hx=>by
 rcases List.mem_cons.1 hx with e|hx
 ·rw[e];exact hk
 ·exact h x hx
theorem inB_iff{lo:ByteArray}{hi:Option ByteArray}{k:ByteArray}:inB lo hi k=true↔¬ltB k lo/\∀h,hi=some h->ltB k h:=by
 unfold inB
 cases hi with
 |none=>simp
 |some h=>simp
theorem inB_false{lo:ByteArray}{hi:Option ByteArray}{k:ByteArray}(h:¬(¬ltB k lo/\∀h,hi=some h->ltB k h)):inB lo hi k=false:=by
 cases e:inB lo hi k with
 |false=>rfl
 |true=>exact absurd (inB_iff.1 e) h
theorem mass_in{lo:ByteArray}{hi:Option ByteArray}{k:ByteArray}(s:Nat)(M:PM)(h1:¬ltB k lo)(h2:∀h,hi=some h->ltB k h):mass ((k,s)::M) lo hi=s+mass M lo hi:=by
 show(if inB lo hi k=true then s else 0)+mass M lo hi=_
 rw[if_pos (inB_iff.2 ⟨h1,h2⟩)]
theorem mass_out{lo:ByteArray}{hi:Option ByteArray}{k:ByteArray}(s:Nat)(M:PM)(h:¬(¬ltB k lo/\∀h,hi=some h->ltB k h)):mass ((k,s)::M) lo hi=mass M lo hi:=by
 show(if inB lo hi k=true then s else 0)+mass M lo hi=_
 rw[inB_false h,if_neg (by simp),Nat.zero_add]
theorem mass_cons_le(x:ByteArray×Nat)(M:PM)(lo:ByteArray)(hi:Option ByteArray):mass M lo hi<=mass (x::M) lo hi:=Nat.le_add_left _ _
theorem mass_split{lo mid:ByteArray}{hi:Option ByteArray}(h1:¬ltB mid lo)(h2:∀h,hi=some h->ltB mid h):∀M:PM,mass M lo (some mid)+mass M mid hi=mass M lo hi
 |[]=>rfl
 |( k,s)::M=>by
   have ih:=mass_split h1 h2 M
   by_cases hk:ltB k mid
   · have e2:mass ((k,s)::M) mid hi=mass M mid hi:=mass_out s M fun h=>h.1 hk
     by_cases hl:ltB k lo
     ·rw[e2,mass_out s M (fun h=>h.1 hl),mass_out s M (fun h=>h.1 hl)]
      exact ih
     ·rw[e2,mass_in s M hl (fun h e=>by cases e;exact hk),mass_in s M hl (fun h e=>ltB_trans hk (h2 h e))]
      omega
   · have e1:mass ((k,s)::M) lo (some mid)=mass M lo (some mid):=mass_out s M fun h=>hk (h.2 mid rfl)
     have hl:¬ltB k lo:=fun h=>by
      rcases ltB_total k mid with h3|h3|h3
      ·exact hk h3
      ·rw[h3]at h;exact h1 h
      ·exact h1 (ltB_trans h3 h)
     by_cases hh:∀h,hi=some h->ltB k h
     ·rw[e1,mass_in s M hk hh,mass_in s M hl hh]
      omega
     ·rw[e1,mass_out s M (fun h=>hh h.2),mass_out s M (fun h=>hh h.2)]
      exact ih
theorem mass_all{b0:ByteArray}:∀{M:PM},GM b0 M->mass M b0 none=massA M
 |[],_=>rfl
 |( k,s)::M,h=>by
   rw[mass_in s M (h (k,s) List.mem_cons_self) (fun h e=>by cases e),mass_all fun x hx=>h x (List.mem_cons_of_mem _ hx)]
   rfl
def hdK(b:List KL)(nx:Option ByteArray):Option ByteArray:=match b with
 |[]=>nx
 |y::_=>some y.1
theorem hdK_append(a b:List KL)(nx:Option ByteArray):hdK (a++b) nx=hdK a (hdK b nx):=by cases a<;>rfl
section
variable{ω:Wt}
def VN(ω:Wt)(M:PM):List KL->Option ByteArray->Nat
 |[],_=>0
 |x::r,nx=>max (wsum ω x.kv+mass M x.1 (hdK r nx)) 347+VN ω M r nx
theorem VN_nil(M:PM)(nx:Option ByteArray):VN ω M [] nx=0:=rfl
theorem VN_cons(M:PM)(x:KL)(r:List KL)(nx:Option ByteArray):VN ω M (x::r) nx=max (wsum ω x.kv+mass M x.1 (hdK r nx)) 347+VN ω M r nx:=rfl
theorem VN_append(M:PM):∀(a b:List KL) (nx:Option ByteArray),VN ω M (a++b) nx=VN ω M a (hdK b nx)+VN ω M b nx
 |[],b,nx=>by rw[List.nil_append,VN_nil,Nat.zero_add]
 |x::a,b,nx=>by
  rw[List.cons_append,VN_cons,VN_cons,VN_append M a b nx,hdK_append]
  omega
theorem VN_node(M:PM)(a:List KL)(x:KL)(b:List KL)(nx:Option ByteArray):VN ω M (a++x::b) nx=VN ω M a (some x.1)+(max (wsum ω x.kv+mass M x.1 (hdK b nx)) 347+VN ω M b nx):=VN_append M a (x::b) nx
theorem VN_le{M M':PM}(h:∀lo hi,mass M lo hi<=mass M' lo hi):∀(ls:List KL) (nx:Option ByteArray),VN ω M ls nx<=VN ω M' ls nx
 |[],_=>Nat.le_refl _
 |x::r,nx=>by
  have ih:=VN_le h r nx
  have:=h x.1 (hdK r nx)
  rw[VN_cons,VN_cons]
  omega
theorem VN_above{k:ByteArray}(s:Nat)(M:PM){h0:ByteArray}(h:¬ltB k h0):∀{ls:List KL},(∀y∈ls,¬ltB k y.1)->VN ω ((k,s)::M) ls (some h0)=VN ω M ls (some h0)
 |[],_=>rfl
 |x::r,hy=>by
  rw[VN_cons,VN_cons,VN_above s M h fun y hm=>hy y (List.mem_cons_of_mem _ hm),mass_out s M fun h2=>?_]
  cases r with
  |nil=>exact h (h2.2 h0 rfl)
  |cons y r=>exact hy y (List.mem_cons_of_mem _ List.mem_cons_self) (h2.2 y.1 rfl)
theorem VN_below{k:ByteArray}(s:Nat)(M:PM)(nx:Option ByteArray):∀{ls:List KL},(∀y∈ls,ltB k y.1)->VN ω ((k,s)::M) ls nx=VN ω M ls nx
 |[],_=>rfl
 |x::r,hy=>by
  rw[VN_cons,VN_cons,VN_below s M nx fun y hm=>hy y (List.mem_cons_of_mem _ hm),mass_out s M fun h2=>h2.1 (hy x List.mem_cons_self)]
theorem VN_len(M:PM)(nx:Option ByteArray):∀ls:List KL,347*ls.length<=VN ω M ls nx
 |[]=>by simp
 |x::b=>by
  have:=VN_len M nx b
  rw[VN_cons,List.length_cons]
  omega
theorem VN_wsum(M:PM)(nx:Option ByteArray):∀ls:List KL,wsum ω (kv1 ls)<=VN ω M ls nx
 |[]=>Nat.le_refl _
 |x::b=>by
  have:=VN_wsum M nx b
  rw[kv1_cons,wsum_append,VN_cons]
  omega
theorem VN_at{k:ByteArray}(s:Nat)(M:PM){a b:List KL}{x:KL}(ha:∀y∈a,¬ltB k y.1)(hx:¬ltB k x.1)(hb:∀y∈b,ltB k y.1):VN ω ((k,s)::M) (a++x::b) none=VN ω M a (some x.1)+(max (wsum ω x.kv+(s+mass M x.1 (hdK b none))) 347+VN ω M b none):=by
 rw[VN_node,VN_above s M hx ha,VN_below s M none hb,mass_in s M hx fun h e=>?_]
 cases b with
 |nil=>cases e
 |cons y b=>
  cases e
  exact hb y List.mem_cons_self
def VTM(ω:Wt)(M:PM):Tr->Nat
 |none=>max (massA M) 347
 |some ⟨0,t⟩=>max (wsum ω (T.kv t)+massA M) 347
 |some ⟨1,t⟩=>VN ω M (Prod.snd t:List KL) none
 |some ⟨_+2,_⟩=>0
theorem VTM_le{M M':PM}(h:∀lo hi,mass M lo hi<=mass M' lo hi)(h2:massA M<=massA M'):∀t:Tr,VTM ω M t<=VTM ω M' t
 |none=>by
  show max (massA M) 347<=max (massA M') 347
  omega
 |some ⟨0,t⟩=>by
  show max (wsum ω (T.kv t)+massA M) 347<=max (wsum ω (T.kv t)+massA M') 347
  omega
 |some ⟨1,t⟩=>VN_le h _ _
 |some ⟨_+2,_⟩=>Nat.le_refl _
theorem VTM_eq{M M':PM}(h:∀lo hi,mass M lo hi=mass M' lo hi)(h2:massA M=massA M')(t:Tr):VTM ω M t=VTM ω M' t:=
 Nat.le_antisymm (VTM_le (fun lo hi=>Nat.le_of_eq (h lo hi)) (Nat.le_of_eq h2) t) (VTM_le (fun lo hi=>Nat.le_of_eq (h lo hi).symm) (Nat.le_of_eq h2.symm) t)
theorem mass_perm{M M':PM}(h:M.Perm M'):(∀lo hi,mass M lo hi=mass M' lo hi)/\massA M=massA M':=by
 induction h with
 |nil=>exact⟨fun _ _=>rfl,rfl⟩
 |cons x _ ih=>
  refine⟨fun lo hi=>?_,?_⟩
  ·show _+_=_+_
   rw[ih.1 lo hi]
  ·show _+_=_+_
   rw[ih.2]
 |swap x y M=>
  refine⟨fun lo hi=>?_,?_⟩
  ·show _+(_+_)=_+(_+_)
   omega
  ·show _+(_+_)=_+(_+_)
   omega
 |trans _ _ h1 h2=>exact⟨fun lo hi=>(h1.1 lo hi).trans (h2.1 lo hi),h1.2.trans h2.2⟩
theorem VTM_perm{M M':PM}(h:M.Perm M')(t:Tr):VTM ω M t=VTM ω M' t:=VTM_eq (mass_perm h).1 (mass_perm h).2 t
theorem VTM_join(k:ByteArray)(a b:Nat)(M:PM)(t:Tr):VTM ω ((k,a)::(k,b)::M) t=VTM ω ((k,a+b)::M) t:=by
 refine VTM_eq (fun lo hi=>?_) ?_ t
 ·show(if inB lo hi k=true then a else 0)+((if inB lo hi k=true then b else 0)+mass M lo hi)=(if inB lo hi k=true then a+b else 0)+mass M lo hi
  split<;>omega
 ·show a+(b+massA M)=a+b+massA M
  omega
theorem VTM_zero(k:ByteArray)(M:PM)(t:Tr):VTM ω ((k,0)::M) t=VTM ω M t:=by
 refine VTM_eq (fun lo hi=>?_) ?_ t
 ·show(if inB lo hi k=true then 0 else 0)+mass M lo hi=_
  split<;>omega
 ·show 0+massA M=massA M
  omega
theorem VTM_more{k:ByteArray}{a b:Nat}(h:a<=b)(M:PM)(t:Tr):VTM ω ((k,a)::M) t<=VTM ω ((k,b)::M) t:=by
 refine VTM_le (fun lo hi=>?_) ?_ t
 ·show(if inB lo hi k=true then a else 0)+mass M lo hi<=(if inB lo hi k=true then b else 0)+mass M lo hi
  split<;>omega
 ·show a+massA M<=b+massA M
  omega
theorem VTM_cons_le(x:ByteArray×Nat)(M:PM)(t:Tr):VTM ω M t<=VTM ω (x::M) t:=VTM_le (fun lo hi=>mass_cons_le x M lo hi) (Nat.le_add_left _ _) t
theorem VTM_add{b0 k:ByteArray}(hk:¬ltB k b0)(s e:Nat)(M:PM):∀{t:Tr},goodT b0 t->VTM ω ((k,s+e)::M) t<=VTM ω ((k,s)::M) t+e
 |none,_=>by
  show max (s+e+massA M) 347<=max (s+massA M) 347+e
  omega
 |some ⟨0,t⟩,_=>by
  show max (wsum ω (T.kv t)+(s+e+massA M)) 347<=max (wsum ω (T.kv t)+(s+massA M)) 347+e
  omega
 |some ⟨1,t⟩,h=>by
  obtain⟨p,ls⟩:Nat×List KL:=t
  obtain⟨ho,x0,r0,e0,hx0,_⟩:=h
  have ho:Ord1 ls:=ho
  have e0:ls=x0::r0:=e0
  obtain⟨a,x,b,h1,h2,h3,h4,h5,h6,oa,ox,ob,hxb,hax⟩:=node_parts ho e0 (k:=k) (by rw[hx0];exact hk)
  subst h1
  have ha:∀y∈a,¬ltB k y.1:=fun y hy=>ltB_asymm (ltB_of_lt_le (hax y hy).1 h3)
  show VN ω ((k,s+e)::M) (a++x::b) none<=VN ω ((k,s)::M) (a++x::b) none+e
  rw[VN_at _ M ha h3 h4,VN_at _ M ha h3 h4]
  omega
 |some ⟨_+2,_⟩,h=>h.elim
theorem mass_move{k k2:ByteArray}(s:Nat)(M:PM){lo:ByteArray}{hi:Option ByteArray}(h1:ltB k lo↔ltB k2 lo)(h2:∀h,hi=some h->(ltB k h↔ltB k2 h)):mass ((k,s)::M) lo hi=mass ((k2,s)::M) lo hi:=by
 by_cases hi1:¬ltB k lo/\∀h,hi=some h->ltB k h
 ·rw[mass_in s M hi1.1 hi1.2,mass_in s M (fun h=>hi1.1 (h1.2 h)) (fun h e=>(h2 h e).1 (hi1.2 h e))]
 ·rw[mass_out s M hi1,mass_out s M fun h=>hi1 ⟨fun h3=>h.1 (h1.1 h3),fun h3 e=>(h2 h3 e).2 (h.2 h3 e)⟩]
theorem VN_move{k k2:ByteArray}(s:Nat)(M:PM):∀{ls:List KL} {nx:Option ByteArray},(∀y∈ls,(ltB k y.1↔ltB k2 y.1))->(∀h,nx=some h->(ltB k h↔ltB k2 h))->VN ω ((k,s)::M) ls nx=VN ω ((k2,s)::M) ls nx
 |[],_,_,_=>rfl
 |x::r,nx,hy,hn=>by
  rw[VN_cons,VN_cons,VN_move s M (fun y hm=>hy y (List.mem_cons_of_mem _ hm)) hn,mass_move s M (hy x List.mem_cons_self) fun h e=>?_]
  cases r with
  |nil=>exact hn h e
  |cons y r=>
   cases e
   exact hy y (List.mem_cons_of_mem _ List.mem_cons_self)
theorem VTM_move{k k2:ByteArray}(hkk:¬ltB k2 k)(s:Nat)(M:PM):∀{t:Tr},(∀y∈sepsT t,ltB k y->ltB k2 y)->VTM ω ((k2,s)::M) t=VTM ω ((k,s)::M) t
 |none,_=>rfl
 |some ⟨0,t⟩,_=>rfl
 |some ⟨1,t⟩,hs=>by
  obtain⟨p,ls⟩:Nat×List KL:=t
  refine(VN_move s M (fun y hy=>⟨hs y.1 (List.mem_map_of_mem hy),fun h=>?_⟩) fun h e=>by cases e).symm
  exact ltB_of_le_lt hkk h
 |some ⟨_+2,_⟩,_=>rfl
end
end Go.Proofs.YtldmhjbdahjhdaaGreatDoor.Ev
namespace Go.Proofs.YtldmhjbdahjhdaaGreatDoor.Ev
open Go Go.RowKit
structure PutG(ω:Wt)(b0:ByteArray)(t:Tr)(k v:ByteArray)(c:Ch)(c':Ch)(t':Tr):Prop where
 good:goodT b0 t'
 kv:kvR t'=putA (kvR t) k v
 short:shortT t'
 vol:∀M:PM,GM b0 M->VTM ω M t'<=VTM ω ((k,ω k v-oz ω (kvR t) k)::M) t
 sep:∀y∈sepsT t',y∈sepsT t\/y∈(putA (kvR t) k v).map Prod.fst
 free:∀n,npT t+2<=n->FreeN (n-npT t) c.h->FreeN (n-npT t') c'.h
section
variable{ω:Wt}(hω:∀k v,pz k v<=ω k v){pg:Nat->ByteArray}{i:Nat}{c:Ch}{b0 k v:ByteArray}
theorem puts_good_none(hc:c.fine)(hk:k=b0)(hk26:k.size<=26)(hv:v.size<=100)(hf:FreeN 2 c.h):∃c' t',putsT c i none k v=(c',t',0)/\PutG ω b0 none k v c c' t':=by
 obtain⟨q,hq,_⟩:=FreeN.ch_alloc (n:=1) hc hf
 refine⟨(c.alloc.write (q:Nat) (pageE true [⟨k,v,0⟩])).root i (q:Nat),some ⟨0,(q,[(k,v)])⟩,?_,?_,rfl,⟨fun e he=>?_,trivial⟩,fun M hM=>?_,(fun y hy=>by cases hy),fun n hn f=>?_⟩
 ·unfold putsT
  rw[hq]
 ·exact⟨by simp[SrtP,T.kv],⟨v,[],by rw[<-hk];rfl⟩⟩
 ·have he:e∈[(k,v)]:=he
  rw[List.mem_singleton.1 he]
  exact hk26
 ·show max (wsum ω [(k,v)]+massA M) 347<=max ((ω k v-oz ω [] k)+massA M) 347
  have h2:wsum ω [(k,v)]=ω k v+wsum ω []:=wsum_cons _ _ _
  have h3:wsum ω []=0:=rfl
  have h4:oz ω [] k=0:=rfl
  omega
 ·have hn0:npT none=0:=rfl
  have hn1:npT (some ⟨0,((q,[(k,v)]):Nat×LP)⟩)=1:=rfl
  rw[hn0]at f hn
  obtain⟨_,_,f2⟩:=FreeN.ch_alloc (n:=n-1) hc (f.mono (by omega))
  refine FreeN.used (h:=(c.alloc.write (q:Nat) (pageE true [⟨k,v,0⟩])).h) ?_ rfl
  rw[hn1]
  exact f2.write _ _
include hω in
theorem puts_good_leaf{p:Nat}{l:LP}(hc:c.fine)(hok:OkN true (l.map enL))(hg:goodT b0 (some ⟨0,((p,l):Nat×LP)⟩))(hk:¬ltB k b0)(hsh:shortT (some ⟨0,((p,l):Nat×LP)⟩))(hk26:k.size<=26)(hv:v.size<=100)(hf:FreeN 2 c.h):
  ∃c' t',putsT c i (some ⟨0,((p,l):Nat×LP)⟩) k v=(c',t',0)/\PutG ω b0 (some ⟨0,((p,l):Nat×LP)⟩) k v c c' t':=by
 have hs:SrtP l:=hg.1
 have hh:HdK b0 l:=hg.2
 have hR:=putL_A hs k v
 have hput:=wsum_put ω hs k v
 have hRs:=putA_srt hs k v
 have hRh:=putA_hd hs hh hk v
 have hok2:=ok_put (k:=k) (v:=v) hok.2.2 (by omega) hv
 have hlb:=lb_put (l:=l) (k:=k) (v:=v) hok.2.1 (by omega) hv
 have hshR:∀e∈putA l k v,e.1.size<=26:=short_put (t:=some ⟨0,((p,l):Nat×LP)⟩) hsh.1 hk26
 have hoz:oz ω (kvR (some ⟨0,((p,l):Nat×LP)⟩)) k=oz ω l k:=rfl
 rcases Nat.lt_or_ge 1024 (lb (putL l k v))with hbig|hfit
 ·obtain⟨n1,n2,f1,f2,f3,f4,f5⟩:=cut_two hok2 hbig hlb
  obtain⟨q,hq,hfa⟩:=FreeN.ch_alloc (n:=1) hc hf
  obtain⟨c1,e1,e2⟩:=putT_leaf_split (p:=p) hbig hq
  rw[<-e2]at hfa
  have hc1:c1.h.fine:=by rw[e2];exact hc.alloc_fine.head
  obtain⟨r,hr,_⟩:=hfa.alloc (n:=0) hc1
  rw[hR]at n1 n2 f1 f2 f3 f4 f5 e1 hbig
  obtain⟨cut,hcut⟩:∃cut,cutE true ((putA l k v).map enL)=cut:=⟨_,rfl⟩
  rw[hcut]at n1 n2 f1 f2 f3 f4 f5 e1
  obtain⟨o1,⟨v2,o2⟩,o3⟩:=ord_cut (kx:=b0) (R:=putA l k v) (n:=cut) (p:=p) (q:=q) hRs (hd_least hRs hRh) n1 n2
  obtain⟨v3,r3,hht⟩:=hd_take hRh n1
  have hhead:((T.ents (d:=0) ((p,(putA l k v).take cut):Nat×LP)).head?.map En.key).getD noB=b0:=by
   show((((putA l k v).take cut).map enL).head?.map En.key).getD noB=b0
   rw[hht]
   rfl
  obtain⟨k2,hk2⟩:∃k2,keyOf ((putA l k v).drop cut)=k2:=⟨_,rfl⟩
  rw[hk2]at e1 o1 o2 o3
  refine⟨(c1.alloc.write (r:Nat) (pageE false [⟨b0,noB,p⟩,⟨k2,noB,q⟩])).root i (r:Nat),some ⟨1,((r,[(b0,((p,(putA l k v).take cut):Nat×LP)),(k2,((q,(putA l k v).drop cut):Nat×LP))]):Nat×List KL)⟩,?_,?_,?_,⟨?_,?_⟩,fun M hM=>?_,fun y hy=>?_,fun n hn f=>?_⟩
  ·unfold putsT
   simp only[e1,hr,hhead]
   rfl
  ·exact⟨o1,_,_,rfl,rfl,v3,r3,hht⟩
  ·show kv1 [(b0,((p,(putA l k v).take cut):Nat×LP)),(k2,((q,(putA l k v).drop cut):Nat×LP))]=putA l k v
   rw[kv1_cons,kv1_cons,kv1_nil,List.append_nil]
   exact List.take_append_drop cut _
  ·intro e he
   have he:e∈kv1 [(b0,((p,(putA l k v).take cut):Nat×LP)),(k2,((q,(putA l k v).drop cut):Nat×LP))]:=he
   rw[kv1_cons,kv1_cons,kv1_nil,List.append_nil]at he
   have he:e∈(putA l k v).take cut++(putA l k v).drop cut:=he
   rw[List.take_append_drop]at he
   exact hshR e he
  ·intro x hx
   have hx:x∈[(b0,((p,(putA l k v).take cut):Nat×LP)),(k2,((q,(putA l k v).drop cut):Nat×LP))]:=hx
   rcases List.mem_cons.1 hx with e|hx
   ·rw[e]
    exact hshR (b0,v3) (List.mem_of_mem_take (by rw[hht];exact List.mem_cons_self))
   ·rw[List.mem_singleton.1 hx]
    exact hshR _ o2
  ·rw[lb_eq]at f3 f4 f5
   rw[lb_eq,lb_eq]at f5
   have z1:=lsum_le hω ((putA l k v).take cut)
   have z2:=lsum_le hω ((putA l k v).drop cut)
   have z3:wsum ω (putA l k v)=wsum ω ((putA l k v).take cut)+wsum ω ((putA l k v).drop cut):=by rw[<-wsum_append,List.take_append_drop]
   have m1:=mass_split (lo:=b0) (mid:=k2) (hi:=none) (ltB_asymm o3) (fun h e=>by cases e) M
   rw[mass_all hM]at m1
   show VN ω M [(b0,((p,(putA l k v).take cut):Nat×LP)),(k2,((q,(putA l k v).drop cut):Nat×LP))] none<=max (wsum ω l+((ω k v-oz ω l k)+massA M)) 347
   rw[VN_cons,VN_cons,VN_nil]
   show max (wsum ω ((putA l k v).take cut)+mass M b0 (some k2)) 347+(max (wsum ω ((putA l k v).drop cut)+mass M k2 none) 347+0)<=_
   omega
  ·have hy:y∈[b0,k2]:=hy
   refine .inr ?_
   show y∈(putA l k v).map Prod.fst
   rcases List.mem_cons.1 hy with e|hy
   ·rw[e]
    exact List.mem_map.2 ⟨(b0,v3),List.mem_of_mem_take (by rw[hht];exact List.mem_cons_self),rfl⟩
   ·rw[List.mem_singleton.1 hy]
    exact List.mem_map.2 ⟨_,o2,rfl⟩
  ·have g1:npT (some ⟨0,((p,l):Nat×LP)⟩)=1:=rfl
   have g2:npT (some ⟨1,((r,[(b0,((p,(putA l k v).take cut):Nat×LP)),(k2,((q,(putA l k v).drop cut):Nat×LP))]):Nat×List KL)⟩)=3:=rfl
   rw[g1]at f hn
   rw[g2]
   obtain⟨_,_,h2⟩:=FreeN.ch_alloc (n:=n-2) hc (f.mono (by omega))
   rw[<-e2]at h2
   have h3:FreeN (n-3) c1.alloc.h:=by
    have h2':FreeN (n-3+1) c1.h:=h2.mono (by omega)
    obtain⟨r',hr',h4⟩:=h2'.alloc hc1
    unfold Ch.alloc
    rw[hr']
    exact h4
   refine FreeN.used (h:=(c1.alloc.write (r:Nat) (pageE false [⟨b0,noB,p⟩,⟨k2,noB,q⟩])).h) ?_ rfl
   exact h3.write _ _
 ·rw[hR]at hfit
  refine⟨c.write (p:Nat) (pageE true ((putL l k v).map enL)),some ⟨0,((p,putA l k v):Nat×LP)⟩,?_,⟨hRs,hRh⟩,rfl,⟨hshR,trivial⟩,fun M hM=>?_,(fun y hy=>by cases hy),fun n hn f=>f.write _ _⟩
  ·have e1:=putT_leaf_fits (c:=c) (p:=p) (l:=l) (k:=k) (v:=v) (by rw[hR];exact hfit)
   unfold putsT
   simp only[e1]
   rw[hR]
  ·show max (wsum ω (putA l k v)+massA M) 347<=max (wsum ω l+((ω k v-oz ω l k)+massA M)) 347
   omega
end
end Go.Proofs.YtldmhjbdahjhdaaGreatDoor.Ev
namespace Go.Proofs.YtldmhjbdahjhdaaGreatDoor.Ev
open Go Go.RowKit
section
variable{ω:Wt}(hω:∀k v,pz k v<=ω k v){pg:Nat->ByteArray}{i:Nat}{c:Ch}{b0 k v:ByteArray}
include hω in
theorem puts_good_node{p:Nat}{ls:List KL}(hc:c.fine)(hok:T.okT (d:=1) ((p,ls):Nat×List KL))(hg:goodT b0 (some ⟨1,((p,ls):Nat×List KL)⟩))(hk:¬ltB k b0)(hsh:shortT (some ⟨1,((p,ls):Nat×List KL)⟩))(hk26:k.size<=26)(hv:v.size<=100)(hf:FreeN 1 c.h)(hcap:ls.length<=34):
  ∃c' t',putsT c i (some ⟨1,((p,ls):Nat×List KL)⟩) k v=(c',t',0)/\PutG ω b0 (some ⟨1,((p,ls):Nat×List KL)⟩) k v c c' t':=by
 obtain⟨ho,x0,r0,e0,hx0,hh0⟩:=hg
 have ho:Ord1 ls:=ho
 have e0:ls=x0::r0:=e0
 obtain⟨a,x,b,h1,h2,h3,h4,h5,h6,oa,ox,ob,hxb,hax⟩:=node_parts ho e0 (k:=k) (by rw[hx0];exact hk)
 subst h1
 have hokx:OkN true (x.kv.map enL):=hok.2 x (by simp)
 have hshx:∀y∈a++x::b,y.1.size<=26:=hsh.2
 obtain⟨kx,q⟩:=x
 obtain⟨q,l⟩:Nat×LP:=q
 have hokx:OkN true (l.map enL):=hokx
 have hsl:SrtP l:=ox.1
 have hgl:∀e∈l,¬ltB e.1 kx:=ox.2
 have hR:=putL_A hsl k v
 have hput:=wsum_put ω hsl k v
 have hRs:=putA_srt hsl k v
 have hkx:¬ltB k kx:=h3
 have hRg:∀e∈putA l k v,¬ltB e.1 kx:=fun e he=>by
  rcases mem_putA he with h|h
  ·exact hgl e h
  ·rw[h];exact hkx
 have hRb:∀e∈putA l k v,∀y∈b,ltB e.1 y.1:=fun e he y hy=>by
  rcases mem_putA he with h|h
  ·exact(hxb y hy).2 e h
  ·rw[h];exact h4 y hy
 have hok2:∀e∈(putL l k v).map enL,e.ok true:=ok_put (k:=k) (v:=v) hokx.2.2 (by omega) hv
 have hlb:=lb_put (l:=l) (k:=k) (v:=v) hokx.2.1 (by omega) hv
 have hkvA:kvR (some ⟨1,((p,a++(mkL kx q l)::b):Nat×List KL)⟩)=kv1 (a++(mkL kx q l)::b):=rfl
 have hput2:putA (kv1 (a++(mkL kx q l)::b)) k v=kv1 a++putA l k v++kv1 b:=kv1_put h5 h6 v
 have hshR:∀e∈putA (kv1 (a++(mkL kx q l)::b)) k v,e.1.size<=26:=short_put (t:=some ⟨1,((p,a++(mkL kx q l)::b):Nat×List KL)⟩) hsh.1 hk26
 have hka:∀y∈a,¬ltB k y.1:=fun y hy=>ltB_asymm (ltB_of_lt_le (hax y hy).1 hkx)
 have hvt:∀(s:Nat) (M:PM),VTM ω ((k,s)::M) (some ⟨1,((p,a++(mkL kx q l)::b):Nat×List KL)⟩)=VN ω M a (some kx)+(max (wsum ω l+(s+mass M kx (hdK b none))) 347+VN ω M b none):=fun s M=>VN_at s M hka hkx h4
 have hoz:oz ω (kvR (some ⟨1,((p,a++(mkL kx q l)::b):Nat×List KL)⟩)) k=oz ω l k:=by
  rw[hkvA]
  unfold oz
  rw[kv1_get h5 h6]
  rfl
 have hhd:HdK b0 l->HdK b0 (putA l k v):=fun h=>putA_hd hsl h hk v
 have hab:∀u∈a,∀y∈b,ltB u.1 y.1/\∀e∈u.kv,ltB e.1 y.1:=fun u hu y hy=>⟨ltB_trans (hax u hu).1 (hxb y hy).1,fun e he=>ltB_trans ((hax u hu).2 e he) (hxb y hy).1⟩
 have hlen:(a++(mkL kx q l)::b).length=a.length+(b.length+1):=by rw[List.length_append,List.length_cons]
 rcases Nat.lt_or_ge 1024 (lb (putL l k v))with hbig|hfit
 ·obtain⟨n1,n2,f1,f2,f3,f4,f5⟩:=cut_two hok2 hbig hlb
  obtain⟨q2,hq,hfa⟩:=FreeN.ch_alloc (n:=0) hc hf
  obtain⟨c1,e1,e2⟩:=putT_leaf_split (p:=q) hbig hq
  rw[hR]at n1 n2 f1 f2 f3 f4 f5 e1 hbig
  obtain⟨cut,hcut⟩:∃cut,cutE true ((putA l k v).map enL)=cut:=⟨_,rfl⟩
  rw[hcut]at n1 n2 f1 f2 f3 f4 f5 e1
  obtain⟨o1,⟨v2,o2⟩,o3⟩:=ord_cut (kx:=kx) (R:=putA l k v) (n:=cut) (p:=q) (q:=q2) hRs hRg n1 n2
  obtain⟨k2,hk2⟩:∃k2,keyOf ((putA l k v).drop cut)=k2:=⟨_,rfl⟩
  rw[hk2]at e1 o1 o2 o3
  have hnode:=putT_node2 (p:=p) h2 e1
  have hm:∀z∈[(mkL kx q ((putA l k v).take cut)),(mkL k2 q2 ((putA l k v).drop cut))],¬ltB z.1 kx/\∀y∈b,ltB z.1 y.1/\∀e∈KL.kv z,ltB e.1 y.1:=fun z hz=>by
   rcases List.mem_cons.1 hz with e|hz
   ·rw[e]
    exact⟨ltB_irrefl kx,fun y hy=>⟨(hxb y hy).1,fun e he=>hRb e (List.mem_of_mem_take he) y hy⟩⟩
   ·rw[List.mem_singleton.1 hz]
    exact⟨ltB_asymm o3,fun y hy=>⟨hRb _ o2 y hy,fun e he=>hRb e (List.mem_of_mem_drop he) y hy⟩⟩
  have hord:=ord1_mid oa ob o1 hax hm hab
  have hk2s:k2.size<=26:=hshR (k2,v2) (by rw[hput2];exact List.mem_append_left _ (List.mem_append_right _ o2))
  have hkk:∀y∈a++([(mkL kx q ((putA l k v).take cut)),(mkL k2 q2 ((putA l k v).drop cut))]++b),y.1.size<=26:=fun y hy=>by
   rcases List.mem_append.1 hy with hy|hy
   ·exact hshx y (List.mem_append_left _ hy)
   ·rcases List.mem_append.1 hy with hy|hy
    ·rcases List.mem_cons.1 hy with e|hy
     ·rw[e]
      exact hshx (mkL kx q l) (by simp)
     ·rw[List.mem_singleton.1 hy]
      exact hk2s
    ·exact hshx y (List.mem_append_right _ (List.mem_cons_of_mem _ hy))
  have hfitN:=node_fits hkk (by
   rw[List.length_append,List.length_append]
   rw[hlen]at hcap
   simp only[List.length_cons,List.length_nil]
   omega)
  refine⟨c1.write (p:Nat) (pageE false ((a++([(mkL kx q ((putA l k v).take cut)),(mkL k2 q2 ((putA l k v).drop cut))]++b)).map (enN (d:=0)))),some ⟨1,((p,a++([(mkL kx q ((putA l k v).take cut)),(mkL k2 q2 ((putA l k v).drop cut))]++b)):Nat×List KL)⟩,?_,⟨hord,?_⟩,?_,⟨?_,hkk⟩,fun M hM=>?_,fun y hy=>?_,fun n hn f=>?_⟩
  ·have e3:putT (d:=1) c ((p,a++(mkL kx q l)::b):Nat×List KL) k v=(c1.write (p:Nat) (pageE false ((a++([(mkL kx q ((putA l k v).take cut)),(mkL k2 q2 ((putA l k v).drop cut))]++b)).map (enN (d:=0)))),((p,a++([(mkL kx q ((putA l k v).take cut)),(mkL k2 q2 ((putA l k v).drop cut))]++b)):Nat×List KL),some none):=hnode.trans (splitL_fits hfitN)
   unfold putsT
   simp only[e3]
  ·exact hd_mid e0 hx0 hh0 rfl rfl (fun h=>hd_take (hhd h) n1)
  ·show kv1 (a++([(mkL kx q ((putA l k v).take cut)),(mkL k2 q2 ((putA l k v).drop cut))]++b))=putA (kv1 (a++(mkL kx q l)::b)) k v
   have e5:KL.kv (mkL kx q ((putA l k v).take cut))++KL.kv (mkL k2 q2 ((putA l k v).drop cut))=putA l k v:=List.take_append_drop cut _
   rw[hput2,kv1_append,kv1_append,kv1_cons,kv1_cons,kv1_nil,List.append_nil,e5,List.append_assoc (kv1 a)]
  ·intro e he
   have he:e∈kv1 (a++([(mkL kx q ((putA l k v).take cut)),(mkL k2 q2 ((putA l k v).drop cut))]++b)):=he
   refine hshR e ?_
   rw[hput2]
   rw[kv1_append,kv1_append,kv1_cons,kv1_cons,kv1_nil,List.append_nil]at he
   rw[List.append_assoc (kv1 a)]
   have e5:KL.kv (mkL kx q ((putA l k v).take cut))++KL.kv (mkL k2 q2 ((putA l k v).drop cut))=putA l k v:=List.take_append_drop cut _
   rw[e5]at he
   exact he
  ·rw[lb_eq]at f3 f4 f5
   rw[lb_eq,lb_eq]at f5
   have z1:=lsum_le hω ((putA l k v).take cut)
   have z2:=lsum_le hω ((putA l k v).drop cut)
   have z3:wsum ω (putA l k v)=wsum ω ((putA l k v).take cut)+wsum ω ((putA l k v).drop cut):=by rw[<-wsum_append,List.take_append_drop]
   have m1:=mass_split (lo:=kx) (mid:=k2) (hi:=hdK b none) (ltB_asymm o3) (fun h e=>by
    cases b with
    |nil=>cases e
    |cons y b=>
     cases e
     exact hRb _ o2 y List.mem_cons_self) M
   rw[hvt,hoz]
   show VN ω M (a++([(mkL kx q ((putA l k v).take cut)),(mkL k2 q2 ((putA l k v).drop cut))]++b)) none<=_
   rw[VN_append,VN_append,VN_cons,VN_cons,VN_nil]
   show VN ω M a (some kx)+(max (wsum ω ((putA l k v).take cut)+mass M kx (some k2)) 347+(max (wsum ω ((putA l k v).drop cut)+mass M k2 (hdK b none)) 347+0)+VN ω M b none)<=_
   omega
  ·have hy:y∈(a++([(mkL kx q ((putA l k v).take cut)),(mkL k2 q2 ((putA l k v).drop cut))]++b)).map Prod.fst:=hy
   rw[List.map_append,List.map_append]at hy
   rcases List.mem_append.1 hy with hy|hy
   ·refine .inl ?_
    show y∈(a++(mkL kx q l)::b).map Prod.fst
    rw[List.map_append]
    exact List.mem_append_left _ hy
   ·rcases List.mem_append.1 hy with hy|hy
    ·have hy:y∈[kx,k2]:=hy
     rcases List.mem_cons.1 hy with e|hy
     ·refine .inl ?_
      show y∈(a++(mkL kx q l)::b).map Prod.fst
      rw[e]
      exact List.mem_map.2 ⟨mkL kx q l,by simp,rfl⟩
     ·refine .inr ?_
      rw[List.mem_singleton.1 hy]
      refine List.mem_map.2 ⟨(k2,v2),?_,rfl⟩
      show(k2,v2)∈putA (kv1 (a++(mkL kx q l)::b)) k v
      rw[hput2]
      exact List.mem_append_left _ (List.mem_append_right _ o2)
    ·refine .inl ?_
     show y∈(a++(mkL kx q l)::b).map Prod.fst
     rw[List.map_append,List.map_cons]
     exact List.mem_append_right _ (List.mem_cons_of_mem _ hy)
  ·have g1:npT (some ⟨1,((p,a++(mkL kx q l)::b):Nat×List KL)⟩)=(a.length+(b.length+1))+1:=by
    show(a++(mkL kx q l)::b).length+1=_
    rw[hlen]
   have g2:npT (some ⟨1,((p,a++([(mkL kx q ((putA l k v).take cut)),(mkL k2 q2 ((putA l k v).drop cut))]++b)):Nat×List KL)⟩)=(a.length+(b.length+1))+2:=by
    show(a++([(mkL kx q ((putA l k v).take cut)),(mkL k2 q2 ((putA l k v).drop cut))]++b)).length+1=_
    rw[List.length_append,List.length_append]
    simp only[List.length_cons,List.length_nil]
    omega
   rw[g1]at f hn
   rw[g2]
   obtain⟨_,_,f3⟩:=FreeN.ch_alloc (n:=n-(a.length+(b.length+1)+2)) hc (f.mono (by omega))
   rw[<-e2]at f3
   exact f3.write _ _
 ·rw[hR]at hfit
  have e1:=putT_leaf_fits (c:=c) (p:=q) (l:=l) (k:=k) (v:=v) (by rw[hR];exact hfit)
  rw[hR]at e1
  have o1:Ord1 [(mkL kx q (putA l k v))]:=ord1_cons.2 ⟨⟨hRs,hRg⟩,⟨by simp,(fun y hy=>by cases hy),by simp⟩,fun y hy=>by cases hy⟩
  have hm:∀z∈[(mkL kx q (putA l k v))],¬ltB z.1 kx/\∀y∈b,ltB z.1 y.1/\∀e∈KL.kv z,ltB e.1 y.1:=fun z hz=>by
   rw[List.mem_singleton.1 hz]
   exact⟨ltB_irrefl kx,fun y hy=>⟨(hxb y hy).1,fun e he=>hRb e he y hy⟩⟩
  have hord:=ord1_mid oa ob o1 hax hm hab
  have hkk:∀y∈a++([(mkL kx q (putA l k v))]++b),y.1.size<=26:=fun y hy=>by
   rcases List.mem_append.1 hy with hy|hy
   ·exact hshx y (List.mem_append_left _ hy)
   ·rcases List.mem_append.1 hy with hy|hy
    ·rw[List.mem_singleton.1 hy]
     exact hshx (mkL kx q l) (by simp)
    ·exact hshx y (List.mem_append_right _ (List.mem_cons_of_mem _ hy))
  have hfitN:=node_fits hkk (by
   rw[List.length_append,List.length_append]
   rw[hlen]at hcap
   simp only[List.length_cons,List.length_nil]
   omega)
  obtain⟨c1,hc1⟩:∃c1,c.write (q:Nat) (pageE true ((putA l k v).map enL))=c1:=⟨_,rfl⟩
  rw[hc1]at e1
  have hnode:=putT_node1 (p:=p) h2 e1
  refine⟨c1.write (p:Nat) (pageE false ((a++([(mkL kx q (putA l k v))]++b)).map (enN (d:=0)))),some ⟨1,((p,a++([(mkL kx q (putA l k v))]++b)):Nat×List KL)⟩,?_,⟨hord,?_⟩,?_,⟨?_,hkk⟩,fun M hM=>?_,fun y hy=>?_,fun n hn f=>?_⟩
  ·have e3:putT (d:=1) c ((p,a++(mkL kx q l)::b):Nat×List KL) k v=(c1.write (p:Nat) (pageE false ((a++([(mkL kx q (putA l k v))]++b)).map (enN (d:=0)))),((p,a++([(mkL kx q (putA l k v))]++b)):Nat×List KL),some none):=hnode.trans (splitL_fits hfitN)
   unfold putsT
   simp only[e3]
  ·exact hd_mid e0 hx0 hh0 rfl rfl (fun h=>hhd h)
  ·show kv1 (a++([(mkL kx q (putA l k v))]++b))=putA (kv1 (a++(mkL kx q l)::b)) k v
   rw[hput2,kv1_append,kv1_append,kv1_cons,kv1_nil,List.append_nil,List.append_assoc (kv1 a)]
   rfl
  ·intro e he
   have he:e∈kv1 (a++([(mkL kx q (putA l k v))]++b)):=he
   refine hshR e ?_
   rw[hput2]
   rw[kv1_append,kv1_append,kv1_cons,kv1_nil,List.append_nil]at he
   rw[List.append_assoc (kv1 a)]
   exact he
  ·rw[hvt,hoz]
   show VN ω M (a++mkL kx q (putA l k v)::b) none<=_
   rw[VN_node]
   show VN ω M a (some kx)+(max (wsum ω (putA l k v)+mass M kx (hdK b none)) 347+VN ω M b none)<=_
   omega
  ·refine .inl ?_
   have hy:y∈(a++(mkL kx q (putA l k v))::b).map Prod.fst:=hy
   show y∈(a++(mkL kx q l)::b).map Prod.fst
   rw[List.map_append,List.map_cons]at hy⊢
   exact hy
  ·have g1:npT (some ⟨1,((p,a++(mkL kx q l)::b):Nat×List KL)⟩)=npT (some ⟨1,((p,a++([(mkL kx q (putA l k v))]++b)):Nat×List KL)⟩):=by
    show(a++(mkL kx q l)::b).length+1=(a++([(mkL kx q (putA l k v))]++b)).length+1
    rw[List.length_append,List.length_append]
    rfl
   rw[<-g1]
   rw[<-hc1]
   exact(f.write _ _).write _ _
end
end Go.Proofs.YtldmhjbdahjhdaaGreatDoor.Ev
namespace Go.Proofs.YtldmhjbdahjhdaaGreatDoor.Ev
open Go Go.RowKit
structure DropG(ω:Wt)(b0:ByteArray)(t:Tr)(k:ByteArray)(s:Nat)(c:Ch)(c':Ch)(t':Tr):Prop where
 good:goodT b0 t'
 kv:kvR t'=dropA (kvR t) k
 short:shortT t'
 vol:∀M:PM,GM b0 M->VTM ω ((k,s)::M) t'<=VTM ω M t
 sep:∀y∈sepsT t',y∈sepsT t
 free:∀n,npT t<=n->FreeN (n-npT t) c.h->FreeN (n-npT t') c'.h
section
variable{ω:Wt}{pg:Nat->ByteArray}{i:Nat}{c:Ch}{b0 k v0:ByteArray}
theorem drops_good_leaf{p:Nat}{l:LP}(hg:goodT b0 (some ⟨0,((p,l):Nat×LP)⟩))(hk:k≠b0)(hv:getA l k=some v0)(hsh:shortT (some ⟨0,((p,l):Nat×LP)⟩)):
  ∃c' t',dropsT c i (some ⟨0,((p,l):Nat×LP)⟩) k=(c',t')/\DropG ω b0 (some ⟨0,((p,l):Nat×LP)⟩) k (ω k v0) c c' t':=by
 have hs:SrtP l:=hg.1
 have hh:HdK b0 l:=hg.2
 have he:=erase_A hs k (hit_of_get hs hv)
 have hdh:=dropA_hd hh hk
 refine⟨c.write (p:Nat) (pageE true ((dropA l k).map enL)),some ⟨0,((p,dropA l k):Nat×LP)⟩,?_,⟨dropA_srt hs k,hdh⟩,rfl,⟨fun e h=>hsh.1 e (mem_dropA h),trivial⟩,fun M hM=>?_,(fun y hy=>by cases hy),fun n hn f=>f.write _ _⟩
 ·have e1:=dropT_leaf c p l k
  rw[he]at e1
  unfold dropsT
  simp only[e1]
  rw[if_neg]
  intro h
  obtain⟨v,r,e2⟩:=hdh
  have h:((dropA l k).map enL).isEmpty=true:=h
  rw[e2]at h
  cases h
 ·have hd:=wsum_drop ω hs hv
  show max (wsum ω (dropA l k)+(ω k v0+massA M)) 347<=max (wsum ω l+massA M) 347
  omega
structure NodeD(ω:Wt)(b0:ByteArray)(p:Nat)(ls:List KL)(k:ByteArray)(s:Nat)(c c1:Ch)(ls':List KL):Prop where
 ord:Ord1 ls'
 hd:∃y0 r,ls'=y0::r/\y0.1=b0/\HdK b0 y0.kv
 kv:kv1 ls'=dropA (kv1 ls) k
 keys:∀x∈ls',x.1.size<=26
 vol:∀M:PM,GM b0 M->VN ω ((k,s)::M) ls' none<=VN ω M ls none
 sep:∀y∈ls'.map Prod.fst,y∈ls.map Prod.fst
 used:InU c1 p
 free:∀n,ls.length+1<=n->FreeN (n-(ls.length+1)) c.h->FreeN (n-(ls'.length+1)) c1.h
theorem drops_root{p:Nat}{ls ls':List KL}{c1:Ch}{s:Nat}(hsh:shortT (some ⟨1,((p,ls):Nat×List KL)⟩))(hd:dropT (d:=1) c ((p,ls):Nat×List KL) k=(c1.write (p:Nat) (pageE false (ls'.map (enN (d:=0)))),((p,ls'):Nat×List KL)))(hN:NodeD ω b0 p ls k s c c1 ls')(hk:¬ltB k b0):
  ∃c' t',dropsT c i (some ⟨1,((p,ls):Nat×List KL)⟩) k=(c',t')/\DropG ω b0 (some ⟨1,((p,ls):Nat×List KL)⟩) k s c c' t':=by
 obtain⟨y0,r,e0,e1,e2⟩:=hN.hd
 have hne:¬(T.ents (d:=1) ((p,ls'):Nat×List KL)).isEmpty=true:=by
  intro h
  have h:(ls'.map (enN (d:=0))).isEmpty=true:=h
  rw[e0]at h
  cases h
 have hkv:∀e∈kv1 ls',e.1.size<=26:=fun e h=>hsh.1 e (mem_dropA (by rw[hN.kv]at h;exact h))
 have hwu:InU (c1.write (p:Nat) (pageE false (ls'.map (enN (d:=0))))) p:=⟨hN.used.1,hN.used.2.1,by rw[write_usedQ];exact hN.used.2.2⟩
 cases r with
 |nil=>
  have e3:ls'=[y0]:=e0
  refine⟨((c1.write (p:Nat) (pageE false (ls'.map (enN (d:=0))))).free (p:Nat)).root i (T.pg (d:=0) y0.2:Nat),some ⟨0,y0.2⟩,?_,?_,?_,⟨?_,trivial⟩,fun M hM=>?_,(fun y hy=>by cases hy),fun n hn f=>?_⟩
  ·unfold dropsT
   simp only[hd]
   rw[if_neg hne]
   subst e3
   rfl
  ·rw[e3]at hN
   exact⟨(hN.ord.leaf y0 (by simp)).1,e2⟩
  ·show KL.kv y0=dropA (kv1 ls) k
   rw[<-hN.kv,e3,kv1_cons,kv1_nil,List.append_nil]
  ·intro e h
   have h:e∈KL.kv y0:=h
   refine hkv e ?_
   rw[e3,kv1_cons,kv1_nil,List.append_nil]
   exact h
  ·have hv:=hN.vol M hM
   rw[e3,VN_cons,VN_nil]at hv
   have hm:mass ((k,s)::M) y0.1 (hdK [] none)=massA ((k,s)::M):=by
    rw[e1]
    exact mass_all (hM.cons hk)
   rw[hm]at hv
   show max (wsum ω y0.kv+massA ((k,s)::M)) 347<=VN ω M ls none
   omega
  ·have g1:npT (some ⟨1,((p,ls):Nat×List KL)⟩)=ls.length+1:=rfl
   have g2:npT (some ⟨0,y0.2⟩)=1:=rfl
   rw[g1]at f hn
   rw[g2]
   have f1:=hN.free n hn f
   rw[e3]at f1
   have f2:=(f1.write (p:Int) (pageE false ([y0].map (enN (d:=0))))).free1 (by rw[e3]at hwu;exact hwu)
   refine FreeN.used (h:=((c1.write (p:Nat) (pageE false (ls'.map (enN (d:=0))))).free (p:Nat)).h) ?_ rfl
   rw[e3]
   refine f2.mono ?_
   simp only[List.length_cons,List.length_nil]
   omega
 |cons y1 r=>
  refine⟨c1.write (p:Nat) (pageE false (ls'.map (enN (d:=0)))),some ⟨1,((p,ls'):Nat×List KL)⟩,?_,⟨hN.ord,y0,y1::r,e0,e1,e2⟩,hN.kv,⟨hkv,hN.keys⟩,hN.vol,hN.sep,fun n hn f=>(hN.free n hn f).write _ _⟩
  unfold dropsT
  simp only[hd]
  rw[if_neg hne]
  subst e0
  rfl
end
end Go.Proofs.YtldmhjbdahjhdaaGreatDoor.Ev
namespace Go.Proofs.YtldmhjbdahjhdaaGreatDoor.Ev
open Go Go.RowKit
section
variable{ω:Wt}{pg:Nat->ByteArray}{i:Nat}{c:Ch}{b0 k v0:ByteArray}
theorem drops_good_node{p:Nat}{ls:List KL}(hl:T.lays (d:=1) c pg ((p,ls):Nat×List KL))(hnd:(T.pages (d:=1) ((p,ls):Nat×List KL)).Nodup)(hg:goodT b0 (some ⟨1,((p,ls):Nat×List KL)⟩))(hkb:¬ltB k b0)(hkn:k≠b0)(hv:getA (kv1 ls) k=some v0)(hsh:shortT (some ⟨1,((p,ls):Nat×List KL)⟩)):
  ∃c' t',dropsT c i (some ⟨1,((p,ls):Nat×List KL)⟩) k=(c',t')/\DropG ω b0 (some ⟨1,((p,ls):Nat×List KL)⟩) k (ω k v0) c c' t':=by
 obtain⟨ho,x0,r0,e0,hx0,hh0⟩:=hg
 have ho:Ord1 ls:=ho
 have e0:ls=x0::r0:=e0
 have hnd:(p::ls.flatMap fun y=>T.pages y.2).Nodup:=hnd
 obtain⟨np,_⟩:=List.nodup_cons.1 hnd
 have hpu:InU c p:=hl.1.1
 have hyu:∀y∈ls,InU c (T.pg y.2)/\T.pg y.2≠p:=fun y hy=>by
  have h1:T.lays c pg y.2:=hl.2 y hy
  refine⟨T.lays_used h1 _ (T.pg_mem y.2),fun e=>np ?_⟩
  rw[<-e]
  exact List.mem_flatMap.2 ⟨y,hy,T.pg_mem y.2⟩
 obtain⟨a,x,b,h1,h2,h3,h4,h5,h6,oa,ox,ob,hxb,hax⟩:=node_parts ho e0 (k:=k) (by rw[hx0];exact hkb)
 subst h1
 have hshx:∀y∈a++x::b,y.1.size<=26:=hsh.2
 have hvx:getA x.kv k=some v0:=by rw[kv1_get h5 h6]at hv;exact hv
 have hkvd:dropA (kv1 (a++x::b)) k=kv1 a++dropA x.kv k++kv1 b:=kv1_drop h5 h6
 obtain⟨kx,q⟩:=x
 obtain⟨q,l⟩:Nat×LP:=q
 have hsl:SrtP l:=ox.1
 have hgl:∀e∈l,¬ltB e.1 kx:=ox.2
 have hvl:getA l k=some v0:=hvx
 have hkx:¬ltB k kx:=h3
 have hqu:InU c q/\q≠p:=hyu (mkL kx q l) (by simp)
 have hld:=wsum_drop ω hsl hvl
 have hle:=erase_A hsl k (hit_of_get hsl hvl)
 have hab:∀u∈a,∀y∈b,ltB u.1 y.1/\∀e∈u.kv,ltB e.1 y.1:=fun u hu y hy=>⟨ltB_trans (hax u hu).1 (hxb y hy).1,fun e he=>ltB_trans ((hax u hu).2 e he) (hxb y hy).1⟩
 have hka:∀y∈a,¬ltB k y.1:=fun y hy=>ltB_asymm (ltB_of_lt_le (hax y hy).1 hkx)
 have hVS:∀M:PM,VN ω M (a++mkL kx q l::b) none=VN ω M a (some kx)+(max (wsum ω l+mass M kx (hdK b none)) 347+VN ω M b none):=fun M=>VN_node M a _ b none
 obtain⟨l',hl'⟩:∃l',dropA l k=l':=⟨_,rfl⟩
 have hkvd2:dropA (kv1 (a++mkL kx q l::b)) k=kv1 a++l'++kv1 b:=by rw[<-hl'];exact hkvd
 rw[hl']at hld hle
 have hd0:=dropT_leaf c q l k
 rw[hle]at hd0
 obtain⟨c1,hc1⟩:∃c1,c.write (q:Nat) (pageE true (l'.map enL))=c1:=⟨_,rfl⟩
 rw[hc1]at hd0
 have hc1h:c1.h=c.h:=by rw[<-hc1];exact write_usedQ _ _ _
 have hu1:∀j,InU c j->InU c1 j:=fun j hj=>⟨hj.1,hj.2.1,by rw[hc1h];exact hj.2.2⟩
 have hlen:(a++mkL kx q l::b).length=a.length+(b.length+1):=by rw[List.length_append,List.length_cons]
 have hfreeU:∀(c2:Ch) (z:Nat),InU c2 p->InU c2 z->z≠p->InU (c2.free (z:Nat)) p:=fun c2 z h7 h8 h9=>by
  rw[free_eq h8]
  refine⟨h7.1,h7.2.1,?_⟩
  show(if p=z then false else c2.h.used p)=true
  rw[if_neg (fun e=>h9 e.symm)]
  exact h7.2.2
 by_cases hem:l'=[]
 ·
  have hane:a≠[]:=fun e=>by
   subst e
   rw[List.nil_append]at e0
   injection e0 with e1 e2
   have h7:HdK b0 l:=by rw[<-e1]at hh0;exact hh0
   obtain⟨u,r,h8⟩:=dropA_hd h7 hkn
   rw[hl',hem]at h8
   cases h8
  obtain⟨a1,y,ha⟩:∃a1 y,a=a1++[y]:=⟨a.dropLast,a.getLast hane,(List.dropLast_concat_getLast hane).symm⟩
  have hd:=dropT_node (p:=p) (c:=c) (s:=(c1.free (q:Nat),a++b)) h2 hd0 (by
   rw[hem]
   rfl)
  have hord:Ord1 (a++b):=ord1_append.2 ⟨oa,ob,hab⟩
  have hhead:∃(y0:KL) (r:List KL),a++b=y0::r/\y0.1=b0/\HdK b0 y0.kv:=by
   cases ha2:a with
   |nil=>exact absurd ha2 hane
   |cons u a2=>
    rw[ha2]at e0
    injection e0 with e1 e2
    exact⟨u,a2++b,rfl,by rw[e1];exact hx0,by rw[e1];exact hh0⟩
  refine drops_root hsh hd ⟨hord,hhead,?_,fun y hy=>?_,fun M hM=>?_,fun y hy=>?_,hfreeU c1 q (hu1 p hpu) (hu1 q hqu.1) hqu.2,fun n hn f=>?_⟩ hkb
  ·show kv1 (a++b)=_
   rw[kv1_append,hkvd2,hem,List.append_nil]
  ·rcases List.mem_append.1 hy with hy|hy
   ·exact hshx y (List.mem_append_left _ hy)
   ·exact hshx y (List.mem_append_right _ (List.mem_cons_of_mem _ hy))
  ·have hlm:a++b=a1++y::b:=by rw[ha];simp
   have hyx:=(hax y (by rw[ha];simp)).1
   have hky:¬ltB k y.1:=hka y (by rw[ha];simp)
   rw[hlm,VN_at (ω k v0) M (fun u hu=>hka u (by rw[ha];exact List.mem_append_left _ hu)) hky h4,hVS,ha,VN_append,VN_cons,VN_nil]
   have g3:wsum ω l'=0:=by rw[hem];rfl
   have m1:=mass_split (lo:=y.1) (mid:=kx) (hi:=hdK b none) (ltB_asymm hyx) (fun h e=>by
    cases b with
    |nil=>cases e
    |cons z b=>
     cases e
     exact(hxb z List.mem_cons_self).1) M
   show _<=VN ω M a1 (some y.1)+(max (wsum ω y.kv+mass M y.1 (some kx)) 347+0)+(max (wsum ω l+mass M kx (hdK b none)) 347+VN ω M b none)
   omega
  ·rw[List.map_append]at hy
   rw[List.map_append,List.map_cons]
   rcases List.mem_append.1 hy with hy|hy
   ·exact List.mem_append_left _ hy
   ·exact List.mem_append_right _ (List.mem_cons_of_mem _ hy)
  ·have f1:FreeN (n-((a++mkL kx q l::b).length+1)) c1.h:=by rw[hc1h];exact f
   have hn:(a++mkL kx q l::b).length+1<=n:=hn
   refine(f1.free1 (hu1 q hqu.1)).mono ?_
   show n-((a++b).length+1)<=_
   rw[List.length_append]
   rw[hlen]at hn⊢
   omega
 ·
  have hmd:∀e∈l',e∈l:=fun e he=>by
   rw[<-hl']at he
   exact mem_dropA he
  have hls':Ord1 (a++mkL kx q l'::b):=by
   have o1:Ord1 [mkL kx q l']:=ord1_cons.2 ⟨⟨by rw[<-hl'];exact dropA_srt hsl k,fun e he=>hgl e (hmd e he)⟩,⟨by simp,(fun y hy=>by cases hy),by simp⟩,fun y hy=>by cases hy⟩
   have hm:∀z∈[mkL kx q l'],¬ltB z.1 kx/\∀y∈b,ltB z.1 y.1/\∀e∈KL.kv z,ltB e.1 y.1:=fun z hz=>by
    rw[List.mem_singleton.1 hz]
    exact⟨ltB_irrefl kx,fun y hy=>⟨(hxb y hy).1,fun e he=>(hxb y hy).2 e (hmd e he)⟩⟩
   exact ord1_mid oa ob o1 hax hm hab
  have hhead:∃(y0:KL) (r:List KL),a++mkL kx q l'::b=y0::r/\y0.1=b0/\HdK b0 y0.kv:=hd_mid (m:=[mkL kx q l']) (m':=[]) (z:=mkL kx q l') e0 hx0 hh0 rfl rfl (fun h=>by
   have h7:HdK b0 l:=h
   have h8:=dropA_hd h7 hkn
   rw[hl']at h8
   exact h8)
  have hkv':kv1 (a++mkL kx q l'::b)=dropA (kv1 (a++mkL kx q l::b)) k:=by
   rw[hkvd2,kv1_append,kv1_cons,List.append_assoc (kv1 a)]
   rfl
  have hkk:∀y∈a++mkL kx q l'::b,y.1.size<=26:=fun y hy=>by
   rcases List.mem_append.1 hy with hy|hy
   ·exact hshx y (List.mem_append_left _ hy)
   ·rcases List.mem_cons.1 hy with e|hy
    ·rw[e]
     exact hshx (mkL kx q l) (by simp)
    ·exact hshx y (List.mem_append_right _ (List.mem_cons_of_mem _ hy))
  have hif:(if(T.ents (d:=0) ((q,l'):Nat×LP)).isEmpty then(c1.free (T.pg (d:=0) ((q,l'):Nat×LP):Nat),a++b)else joinT (d:=0) c1 (a++mkL kx q l'::b) a.length ((q,l'):Nat×LP))=joinT (d:=0) c1 (a++mkL kx q l'::b) a.length ((q,l'):Nat×LP):=by
   rw[if_neg]
   intro h
   have h:(l'.map enL).isEmpty=true:=h
   cases hl2:l' with
   |nil=>exact hem hl2
   |cons e r=>rw[hl2]at h;cases h
  have hyu1:∀y∈a++mkL kx q l'::b,InU c1 (T.pg y.2)/\T.pg y.2≠p:=fun y hy=>by
   rcases List.mem_append.1 hy with hy|hy
   ·exact⟨hu1 _ (hyu y (List.mem_append_left _ hy)).1,(hyu y (List.mem_append_left _ hy)).2⟩
   ·rcases List.mem_cons.1 hy with e|hy
    ·rw[e]
     exact⟨hu1 _ hqu.1,hqu.2⟩
    ·exact⟨hu1 _ (hyu y (List.mem_append_right _ (List.mem_cons_of_mem _ hy))).1,(hyu y (List.mem_append_right _ (List.mem_cons_of_mem _ hy))).2⟩
  rcases join_ways c1 (a++mkL kx q l'::b) a.length ((q,l'):Nat×LP)with hj|⟨a1,(y:KL),(z:KL),b2,hj1,hj2,hj3,hj⟩
  ·have hd:=dropT_node (p:=p) (c:=c) (s:=(c1,a++mkL kx q l'::b)) h2 hd0 (hif.trans hj)
   refine drops_root hsh hd ⟨hls',hhead,hkv',hkk,fun M hM=>?_,fun y hy=>?_,hu1 p hpu,fun n hn f=>?_⟩ hkb
   ·rw[VN_at (ω k v0) M hka (x:=mkL kx q l') hkx h4,hVS]
    show VN ω M a (some kx)+(max (wsum ω l'+(ω k v0+mass M kx (hdK b none))) 347+VN ω M b none)<=_
    omega
   ·rw[List.map_append,List.map_cons]at hy⊢
    exact hy
   ·rw[hc1h]
    have e9:(a++mkL kx q l::b).length=(a++mkL kx q l'::b).length:=by rw[List.length_append,List.length_append];rfl
    have f:FreeN (n-((a++mkL kx q l::b).length+1)) c.h:=f
    rw[e9]at f
    exact f
  ·obtain⟨c2,hc2⟩:∃c2,c1.write (T.pg y.2:Nat) (pageE true (T.ents (d:=0) (T.meet (d:=0) y.2 z.1 z.2)))=c2:=⟨_,rfl⟩
   rw[hc2]at hj
   have hc2h:c2.h=c1.h:=by rw[<-hc2];exact write_usedQ _ _ _
   have hu2:∀j,InU c1 j->InU c2 j:=fun j hj=>⟨hj.1,hj.2.1,by rw[hc2h];exact hj.2.2⟩
   have hd:=dropT_node (p:=p) (c:=c) (s:=(c2.free (T.pg z.2:Nat),a1++meetL y z::b2)) h2 hd0 (hif.trans hj)
   have hzm:=hyu1 z (by rw[hj1];simp)
   have hle2:=congrArg List.length hj1
   rw[List.length_append,List.length_append,List.length_cons,List.length_cons,List.length_cons]at hle2
   have hls2:=hls'
   rw[hj1]at hls2
   have hkk2:=hkk
   rw[hj1]at hkk2
   have hkv2:=hkv'
   rw[hj1]at hkv2
   have hhead2:∃(y0:KL) (r:List KL),a1++meetL y z::b2=y0::r/\y0.1=b0/\HdK b0 y0.kv:=by
    obtain⟨y0,r,h7,h8,h9⟩:=hhead
    rw[hj1]at h7
    cases a1 with
    |nil=>
     injection h7 with e1 e2
     subst e1
     refine⟨meetL y z,b2,rfl,h8,?_⟩
     obtain⟨u,r,e3⟩:=h9
     exact⟨u,r++z.kv,by rw[meetL_kv,e3];rfl⟩
    |cons u a2=>
     injection h7 with e1 e2
     subst e1
     exact⟨u,a2++meetL y z::b2,rfl,h8,h9⟩
   refine drops_root hsh hd ⟨ord_meet hls2,hhead2,by rw[kv1_meet];exact hkv2,fun w hw=>?_,fun M hM=>?_,fun w hw=>?_,hfreeU c2 _ (hu2 p (hu1 p hpu)) (hu2 _ hzm.1) hzm.2,fun n hn f=>?_⟩ hkb
   ·rcases List.mem_append.1 hw with hw|hw
    ·exact hkk2 w (List.mem_append_left _ hw)
    ·rcases List.mem_cons.1 hw with e|hw
     ·rw[e]
      exact hkk2 y (by simp)
     ·exact hkk2 w (List.mem_append_right _ (List.mem_cons_of_mem _ (List.mem_cons_of_mem _ hw)))
   ·have hlm:wsum ω (meetL y z).kv=wsum ω y.kv+wsum ω z.kv:=by rw[meetL_kv,wsum_append]
    rcases List.eq_nil_or_concat a with hnil|⟨a3,y3,ha3⟩
    ·subst hnil
     have ha1:a1=[]:=List.eq_nil_of_length_eq_zero (by rw[hj2];rfl)
     subst ha1
     rw[List.nil_append,List.nil_append]at hj1
     injection hj1 with e1 e2
     subst e1
     have hb2:∀w∈b2,ltB k w.1:=fun w hw=>h4 w (by rw[e2];exact List.mem_cons_of_mem _ hw)
     have hzb:=hxb z (by rw[e2];exact List.mem_cons_self)
     have hob:Ord1 (z::b2):=by rw[<-e2];exact ob
     have m1:=mass_split (lo:=kx) (mid:=z.1) (hi:=hdK b2 none) (ltB_asymm hzb.1) (fun h e=>by
      cases b2 with
      |nil=>cases e
      |cons u b2=>
       cases e
       exact((ord1_cons.1 hob).2.2 u List.mem_cons_self).1) M
     rw[VN_at (ω k v0) M (a:=[]) (x:=meetL (mkL kx q l') z) (fun u hu=>by cases hu) hkx hb2,hVS,e2,VN_cons,hlm,VN_nil,VN_nil]
     show 0+(max (wsum ω l'+wsum ω z.kv+(ω k v0+mass M kx (hdK b2 none))) 347+VN ω M b2 none)<=0+(max (wsum ω l+mass M kx (some z.1)) 347+(max (wsum ω z.kv+mass M z.1 (hdK b2 none)) 347+VN ω M b2 none))
     omega
    ·have ha3:a=a3++[y3]:=by rw[ha3];simp
     subst ha3
     have hj4:a1=a3/\y::z::b2=y3::mkL kx q l'::b:=by
      have e5:a3++(y3::mkL kx q l'::b)=a1++(y::z::b2):=by rw[<-hj1];simp
      have e6:a3.length=a1.length:=by rw[hj2,List.length_append];rfl
      obtain⟨e7,e8⟩:=List.append_inj e5 e6
      exact⟨e7.symm,e8.symm⟩
     obtain⟨rfl,e8⟩:=hj4
     injection e8 with e9 e10
     injection e10 with e11 e12
     subst e9 e11 e12
     have hyx:=(hax y (by simp)).1
     have hky:¬ltB k y.1:=hka y (by simp)
     have m1:=mass_split (lo:=y.1) (mid:=kx) (hi:=hdK b2 none) (ltB_asymm hyx) (fun h e=>by
      cases b2 with
      |nil=>cases e
      |cons u b2=>
       cases e
       exact(hxb u List.mem_cons_self).1) M
     rw[VN_at (ω k v0) M (x:=meetL y (mkL kx q l')) (fun u hu=>hka u (by simp[hu])) hky h4,hVS,VN_append,VN_cons,VN_nil,hlm]
     show VN ω M a1 (some y.1)+(max (wsum ω y.kv+wsum ω l'+(ω k v0+mass M y.1 (hdK b2 none))) 347+VN ω M b2 none)<=VN ω M a1 (some y.1)+(max (wsum ω y.kv+mass M y.1 (some kx)) 347+0)+(max (wsum ω l+mass M kx (hdK b2 none)) 347+VN ω M b2 none)
     omega
   ·have h9:w∈(a++mkL kx q l'::b).map Prod.fst:=by
     rw[hj1,List.map_append,List.map_cons,List.map_cons]
     rw[List.map_append,List.map_cons]at hw
     rcases List.mem_append.1 hw with hw|hw
     ·exact List.mem_append_left _ hw
     ·rcases List.mem_cons.1 hw with e|hw
      ·rw[e]
       exact List.mem_append_right _ List.mem_cons_self
      ·exact List.mem_append_right _ (List.mem_cons_of_mem _ (List.mem_cons_of_mem _ hw))
    rw[List.map_append,List.map_cons]at h9⊢
    exact h9
   ·have f1:FreeN (n-((a++mkL kx q l::b).length+1)) c2.h:=by rw[hc2h,hc1h];exact f
    have hn:(a++mkL kx q l::b).length+1<=n:=hn
    refine(f1.free1 (hu2 _ hzm.1)).mono ?_
    show n-((a1++meetL y z::b2).length+1)<=_
    rw[List.length_append,List.length_cons]
    rw[hlen]at hn⊢
    omega
end
end Go.Proofs.YtldmhjbdahjhdaaGreatDoor.Ev
namespace Go.Proofs.YtldmhjbdahjhdaaGreatDoor.Ev
open Go Go.RowKit
structure TG(ω:Wt)(pg:Nat->ByteArray)(b0:ByteArray)(i:Nat)(c:Ch)(X:Tr)(K:LP)(M:PM)(k:ByteArray)(r V:Nat)(A:ByteArray->Prop):Prop where
 fine:c.fine
 lays:X.lays c pg i
 good:goodT b0 X
 kv:kvR X=K
 short:shortT X
 free:FreeN (1999-npT X) c.h
 sum:c.h.notes i=(lsum K:Nat)
 key:¬ltB k b0
 gm:GM b0 M
 vol:VTM ω ((k,r)::M) X<=V
 sep:∀y∈sepsT X,A y
section
variable{ω:Wt}{pg:Nat->ByteArray}{b0 k:ByteArray}{i:Nat}{c:Ch}{X:Tr}{K:LP}{M:PM}{r V:Nat}{A:ByteArray->Prop}
theorem TG.srt(h:TG ω pg b0 i c X K M k r V A):SrtP K:=by
 have:=goodT_srt h.good
 rw[h.kv]at this
 exact this
theorem TG.get(h:TG ω pg b0 i c X K M k r V A){k2:ByteArray}(hk:¬ltB k2 b0):X.get k2=getA K k2:=by
 have:=get_good hk h.good
 rw[h.kv]at this
 exact this
theorem TG.walk(h:TG ω pg b0 i c X K M k r V A){s:ByteArray}(hs:¬ltB s b0):walkR X s=fromA K s:=by
 have:=walk_good hs h.good
 rw[h.kv]at this
 exact this
theorem TG.le_b0(h:TG ω pg b0 i c X K M k r V A){k2:ByteArray}(hkk:¬ltB k2 k):¬ltB k2 b0:=fun hl=>by
 rcases ltB_total k k2 with h1|h1|h1
 ·exact h.key (ltB_trans h1 hl)
 ·rw[<-h1]at hl;exact h.key hl
 ·exact hkk h1
theorem TG.move(h:TG ω pg b0 i c X K M k r V A){k2:ByteArray}(hkk:¬ltB k2 k)(hs:∀y,A y->ltB k y->ltB k2 y):TG ω pg b0 i c X K M k2 r V A:=by
 refine⟨h.fine,h.lays,h.good,h.kv,h.short,h.free,h.sum,h.le_b0 hkk,h.gm,?_,h.sep⟩
 rw[VTM_move hkk r M (fun y hy=>hs y (h.sep y hy))]
 exact h.vol
theorem TG.moveB(h:TG ω pg b0 i c X K M k r V A){k2:ByteArray}(hk2:¬ltB k2 b0)(hkk:¬ltB k k2)(hs:∀y,A y->ltB k2 y->ltB k y):TG ω pg b0 i c X K M k2 r V A:=by
 refine⟨h.fine,h.lays,h.good,h.kv,h.short,h.free,h.sum,hk2,h.gm,?_,h.sep⟩
 rw[<-VTM_move hkk r M (fun y hy=>hs y (h.sep y hy))]
 exact h.vol
theorem TG.add(h:TG ω pg b0 i c X K M k r V A)(e:Nat):TG ω pg b0 i c X K M k (r+e) (V+e) A:=
 ⟨h.fine,h.lays,h.good,h.kv,h.short,h.free,h.sum,h.key,h.gm,Nat.le_trans (VTM_add h.key r e M h.good) (Nat.add_le_add_right h.vol e),h.sep⟩
theorem TG.less(h:TG ω pg b0 i c X K M k r V A){r' V':Nat}{A':ByteArray->Prop}(hr:r'<=r)(hV:V<=V')(hA:∀y,A y->A' y):TG ω pg b0 i c X K M k r' V' A':=
 ⟨h.fine,h.lays,h.good,h.kv,h.short,h.free,h.sum,h.key,h.gm,Nat.le_trans (Nat.le_trans (VTM_more hr M X) h.vol) hV,fun y hy=>hA y (h.sep y hy)⟩
theorem TG.rest(h:TG ω pg b0 i c X K M k r V A){k2:ByteArray}(hk:¬ltB k2 b0):TG ω pg b0 i c X K M k2 0 V A:=
 ⟨h.fine,h.lays,h.good,h.kv,h.short,h.free,h.sum,hk,h.gm,by
  rw[VTM_zero]
  exact Nat.le_trans (VTM_cons_le _ M X) h.vol,h.sep⟩
theorem TG.pack(h:TG ω pg b0 i c X K M k r V A){k2:ByteArray}(hk:¬ltB k2 b0):TG ω pg b0 i c X K ((k,r)::M) k2 0 V A:=
 ⟨h.fine,h.lays,h.good,h.kv,h.short,h.free,h.sum,hk,h.gm.cons h.key,by
  rw[VTM_zero]
  exact h.vol,h.sep⟩
theorem TG.unpack{k2:ByteArray}{r2:Nat}(h:TG ω pg b0 i c X K ((k2,r2)::M) k r V A):TG ω pg b0 i c X K M k2 r2 V A:=
 ⟨h.fine,h.lays,h.good,h.kv,h.short,h.free,h.sum,h.gm (k2,r2) List.mem_cons_self,fun x hx=>h.gm x (List.mem_cons_of_mem _ hx),Nat.le_trans (VTM_cons_le _ _ X) h.vol,h.sep⟩
theorem TG.perm(h:TG ω pg b0 i c X K M k r V A){M':PM}(hp:M.Perm M'):TG ω pg b0 i c X K M' k r V A:=
 ⟨h.fine,h.lays,h.good,h.kv,h.short,h.free,h.sum,h.key,fun x hx=>h.gm x (hp.mem_iff.2 hx),by
  rw[<-VTM_perm (hp.cons _)]
  exact h.vol,h.sep⟩
theorem TG.take{s:Nat}(h:TG ω pg b0 i c X K ((k,s)::M) k r V A):TG ω pg b0 i c X K M k (r+s) V A:=
 ⟨h.fine,h.lays,h.good,h.kv,h.short,h.free,h.sum,h.key,fun x hx=>h.gm x (List.mem_cons_of_mem _ hx),by
  rw[<-VTM_join]
  exact h.vol,h.sep⟩
theorem TG.lay(h:TG ω pg b0 i c X K M k r V A){a s:Nat}(hr:a+s<=r):TG ω pg b0 i c X K ((k,s)::M) k a V A:=
 ⟨h.fine,h.lays,h.good,h.kv,h.short,h.free,h.sum,h.key,h.gm.cons h.key,by
  rw[VTM_join]
  exact Nat.le_trans (VTM_more hr M X) h.vol,h.sep⟩
theorem TG.shift{k1 k2:ByteArray}{s:Nat}(h:TG ω pg b0 i c X K ((k1,s)::M) k r V A)(hkk:¬ltB k2 k1)(hs:∀y,A y->ltB k1 y->ltB k2 y):TG ω pg b0 i c X K ((k2,s)::M) k r V A:=by
 have h1:=(h.pack (k2:=k) h.key).perm (List.Perm.swap (k1,s) (k,r) M)
 have h2:=(h1.unpack.move hkk hs).pack (k2:=k) h.key
 exact(h2.perm (List.Perm.swap (k,r) (k2,s) M)).unpack
theorem TG.shiftB{k1 k2:ByteArray}{s:Nat}(h:TG ω pg b0 i c X K ((k1,s)::M) k r V A)(hk2:¬ltB k2 b0)(hkk:¬ltB k1 k2)(hs:∀y,A y->ltB k2 y->ltB k1 y):TG ω pg b0 i c X K ((k2,s)::M) k r V A:=by
 have h1:=(h.pack (k2:=k) h.key).perm (List.Perm.swap (k1,s) (k,r) M)
 have h2:=(h1.unpack.moveB hk2 hkk hs).pack (k2:=k) h.key
 exact(h2.perm (List.Perm.swap (k,r) (k2,s) M)).unpack
theorem TG.np(h:TG ω pg b0 i c X K M k r V A)(hV:V<12145):npT X<=35/\∀p ls,X=some ⟨1,((p,ls):Nat×List KL)⟩->ls.length<=34:=by
 have hv:=h.vol
 rcases X with _|⟨_|_|d,t⟩
 ·exact⟨by show 0<=35;omega,fun p ls e=>by cases e⟩
 ·exact⟨by show 1<=35;omega,fun p ls e=>by cases e⟩
 ·obtain⟨p,ls⟩:Nat×List KL:=t
  have h1:=VN_len (ω:=ω) ((k,r)::M) none ls
  have h2:VN ω ((k,r)::M) ls none<=V:=hv
  have h3:ls.length<=34:=by omega
  refine⟨by show ls.length+1<=35;omega,fun p' ls' e=>?_⟩
  have e:(⟨1,((p,ls):Nat×List KL)⟩:(d:Nat)×T d)=⟨1,((p',ls'):Nat×List KL)⟩:=Option.some.inj e
  have e2:((p,ls):Nat×List KL)=((p',ls'):Nat×List KL):=by
   injection e with _ e
  injection e2 with _ e3
  rw[<-e3]
  exact h3
 ·exact h.good.elim
theorem puts_good(hω:∀k v,pz k v<=ω k v){v:ByteArray}{X:Tr}(h:TG ω pg b0 i c X K M k r V A)(hb:K=[]->k=b0)(hk:k.size<=26)(hv:v.size<=100)(hV:V<12145):∃c' t',putsT c i X k v=(c',t',0)/\PutG ω b0 X k v c c' t':=by
 obtain⟨hn,hcap⟩:=h.np hV
 have hf:=h.free.mono (m:=2) (by omega)
 rcases X with _|⟨_|_|d,t⟩
 ·exact puts_good_none h.fine (hb h.kv.symm) hk hv hf
 ·obtain⟨p,l⟩:Nat×LP:=t
  exact puts_good_leaf hω h.fine h.lays.2.2.1 h.good h.key h.short hk hv hf
 ·obtain⟨p,ls⟩:Nat×List KL:=t
  exact puts_good_node hω h.fine h.lays.2.2.1 h.good h.key h.short hk hv (hf.mono (by omega)) (hcap p ls rfl)
 ·exact h.good.elim
theorem drops_good{k2 v0:ByteArray}{X:Tr}(h:TG ω pg b0 i c X K M k r V A)(hk:¬ltB k2 b0)(hkn:k2≠b0)(hv:getA K k2=some v0):∃c' t',dropsT c i X k2=(c',t')/\DropG ω b0 X k2 (ω k2 v0) c c' t':=by
 have hkv:=h.kv
 rcases X with _|⟨_|_|d,t⟩
 ·have h1:([]:LP)=K:=hkv
  rw[<-h1]at hv
  cases hv
 ·obtain⟨p,l⟩:Nat×LP:=t
  have h1:l=K:=hkv
  exact drops_good_leaf h.good hkn (by rw[h1];exact hv) h.short
 ·obtain⟨p,ls⟩:Nat×List KL:=t
  have h1:kv1 ls=K:=hkv
  exact drops_good_node h.lays.2.1 h.lays.2.2.2 h.good hk hkn (by rw[h1];exact hv) h.short
 ·exact h.good.elim
theorem VTM_wsum(M:PM){X:Tr}(h:goodT b0 X):wsum ω (kvR X)<=VTM ω M X:=by
 rcases X with _|⟨_|_|d,t⟩
 ·show 0<=max (massA M) 347
  omega
 ·show wsum ω (T.kv t)<=max (wsum ω (T.kv t)+massA M) 347
  omega
 ·obtain⟨p,ls⟩:Nat×List KL:=t
  exact VN_wsum M none ls
 ·exact h.elim
theorem TG.wsum(h:TG ω pg b0 i c X K M k r V A):wsum ω K<=V:=by
 have h1:=VTM_wsum (ω:=ω) ((k,r)::M) h.good
 rw[h.kv]at h1
 exact Nat.le_trans h1 h.vol
theorem TG.put(hω:∀k v,pz k v<=ω k v){v:ByteArray}(h:TG ω pg b0 i c X K M k (r+(ω k v-oz ω K k)) V A)(hi:i<8)(hb:K=[]->k=b0)(hk:1<=k.size/\k.size<=26)(hv:v.size<=100)(hV:V<12145)(hA:∀y∈(putA K k v).map Prod.fst,A y):
  ∃c' X',putR c i X k v=(c',X',0)/\TG ω pg b0 i c' X' (putA K k v) M k r V A:=by
 obtain⟨c1,X1,h1,g⟩:=puts_good hω h hb hk.2 hv hV
 have hput0:=wsum_put pz h.srt k v
 rw[<-lsum_is,<-lsum_is]at hput0
 have hS:lsum (putA K k v)<=30000:=by
  have h2:=h.wsum
  have h3:=lsum_le hω K
  have h4:pz k v=2+k.size+v.size:=rfl
  omega
 obtain⟨hn,_⟩:=h.np hV
 have hok:=putR_ok h.fine h.lays hi k v
 have hget:=h.get h.key
 have hput:=hput0
 have hmore:c.h.notes i+moreP X k v=(lsum (putA K k v):Nat):=by
  rw[h.sum]
  unfold moreP
  rw[hget]
  cases hg:getA K k with
  |none=>
   rw[oz_none (ω:=pz) hg]at hput
   have h4:pz k v=2+k.size+v.size:=rfl
   show(lsum K:Int)+(2+(k.size:Int)+v.size)=_
   omega
  |some old=>
   rw[oz_some (ω:=pz) hg]at hput
   have h4:pz k v=2+k.size+v.size:=rfl
   have h5:pz k old=2+k.size+old.size:=rfl
   show(lsum K:Int)+((v.size:Int)-old.size)=_
   omega
 have hnt:c1.h.notes=c.h.notes:=by
  have:=putsT_notes c i X k v
  rw[h1]at this
  exact this
 have hm:moreT c1 i (moreP X k v)=(⟨c1.h.setRoot i (c1.h.roots i) (lsum (putA K k v):Nat),c1.F⟩,0):=moreT_eq (by rw[hnt];exact hmore) ⟨by omega,by omega⟩
 have hR:putR c i X k v=(⟨c1.h.setRoot i (c1.h.roots i) (lsum (putA K k v):Nat),c1.F⟩,X1,0):=by
  unfold putR
  rw[if_neg (by omega),if_neg (by rw[hmore];omega),h1]
  show((moreT c1 i (moreP X k v)).1,X1,(moreT c1 i (moreP X k v)).2)=_
  rw[hm]
 rw[hR]at hok
 refine⟨_,_,hR,hok.k.fine,hok.lays,g.good,by rw[g.kv,h.kv],g.short,?_,set_notesQ _ _ _ _ _,h.key,h.gm,?_,fun y hy=>?_⟩
 ·exact FreeN.used (h:=c1.h) (g.free 1999 (by omega) h.free) rfl
 ·have:=g.vol ((k,r)::M) (h.gm.cons h.key)
  rw[h.kv,VTM_join,Nat.add_comm]at this
  exact Nat.le_trans this h.vol
 ·rcases g.sep y hy with h2|h2
  ·exact h.sep y h2
  ·rw[h.kv]at h2
   exact hA y h2
theorem TG.drop{k2 v0:ByteArray}(h:TG ω pg b0 i c X K M k r V A)(hi:i<8)(hk:¬ltB k2 b0)(hkn:k2≠b0)(hω:∀k v,pz k v<=ω k v)(hv:getA K k2=some v0)(hV:V<12145):
  ∃c' X',dropR c i X k2=(c',X',0)/\TG ω pg b0 i c' X' (dropA K k2) M k2 (ω k2 v0) V A:=by
 obtain⟨c1,X1,h1,g⟩:=drops_good h hk hkn hv
 obtain⟨hn,_⟩:=h.np hV
 have hok:=dropR_ok h.fine h.lays hi k2
 have hget:=h.get hk
 have hd:=wsum_drop pz h.srt hv
 rw[<-lsum_is,<-lsum_is]at hd
 have hS:lsum K<=30000:=by
  have h2:=h.wsum
  have h3:=lsum_le hω K
  omega
 have hnt:c1.h.notes=c.h.notes:=by
  have:=dropsT_notes c i X k2
  rw[h1]at this
  exact this
 have hm:moreT c1 i (-2-(k2.size:Int)-v0.size)=(⟨c1.h.setRoot i (c1.h.roots i) (lsum (dropA K k2):Nat),c1.F⟩,0):=moreT_eq (by
  rw[hnt,h.sum]
  have h4:pz k2 v0=2+k2.size+v0.size:=rfl
  omega) ⟨by omega,by omega⟩
 have hR:dropR c i X k2=(⟨c1.h.setRoot i (c1.h.roots i) (lsum (dropA K k2):Nat),c1.F⟩,X1,0):=by
  unfold dropR
  rw[hget,hv]
  show((moreT (dropsT c i X k2).1 i (-2-(k2.size:Int)-v0.size)).1,(dropsT c i X k2).2,(moreT (dropsT c i X k2).1 i (-2-(k2.size:Int)-v0.size)).2)=_
  rw[h1,hm]
 rw[hR]at hok
 refine⟨_,_,hR,hok.k.fine,hok.lays,g.good,by rw[g.kv,h.kv],g.short,?_,set_notesQ _ _ _ _ _,hk,h.gm,Nat.le_trans (g.vol M h.gm) (Nat.le_trans (VTM_cons_le _ M _) h.vol),fun y hy=>h.sep y (g.sep y hy)⟩
 exact FreeN.used (h:=c1.h) (g.free 1999 (by omega) h.free) rfl
end
end Go.Proofs.YtldmhjbdahjhdaaGreatDoor.Ev
