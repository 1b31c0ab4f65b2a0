/-
  Part 15 of the proof.
-/
import Derived.Deep.RegionHeld3
import Derived.Test.YtldmhjbdahjhdaaGreatDoorZc2
import Derived.Shelf.SlSortCmp.NoneTotal
set_option maxRecDepth 100000
set_option maxHeartbeats 100000000
set_option linter.all false
namespace Go.Proofs.YtldmhjbdahjhdaaGreatDoor
section
open Go
abbrev GPlace:Type:=Int×Int
def GPlace.val(p:GPlace):Value:=.agg #[.int .i64 p.1,.int .i64 p.2]
def beforeB(a b:GPlace):Bool:=decide (a.1<b.1)||(a.1==b.1&&decide (a.2<b.2))
def inP(p:GPlace):Bool:=decide (1<=p.1)&&decide (p.1<=1073741824)&&decide (0<=p.2)&&decide (p.2<=1073741823)
def prevAt(l:List GPlace):Nat->GPlace
 |0=>(0,0)
 |k+1=>l.getD k (0,0)
def okAt(l:List GPlace)(k:Nat):Bool:=inP (l.getD k (0,0))&&(k==0||beforeB (prevAt l k) (l.getD k (0,0)))
def placesB(l:List GPlace):Bool:=(List.range l.length).all (okAt l)
def sevenB(n:Nat):List UInt8:=if n<128 then[n.toUInt8]else(128+n % 128).toUInt8::sevenB (n/128)
termination_by n
decreasing_by omega
def encP(a p:GPlace):List UInt8:=if p.1=a.1 then sevenB (2*(p.2-a.2)).toNat else sevenB (2*(p.1-a.1)+1).toNat++sevenB p.2.toNat
def wrP(l:List GPlace)(k:Nat):List UInt8:=(List.range k).flatMap fun i=>encP (prevAt l i) (l.getD i (0,0))
def writeP(l:List GPlace):List UInt8:=wrP l l.length
theorem wrP_succ(l:List GPlace)(k:Nat):wrP l (k+1)=wrP l k++encP (prevAt l k) (l.getD k (0,0)):=by
 unfold wrP
 rw[List.range_succ,List.flatMap_append]
 simp
theorem placesB_false{l:List GPlace}{k:Nat}(hk:k<l.length)(h:okAt l k=false):placesB l=false:=by
 unfold placesB
 rw[List.all_eq_false]
 exact⟨k,List.mem_range.2 hk,by rw[h];simp⟩
theorem placesB_true{l:List GPlace}(h:∀k,k<l.length->okAt l k=true):placesB l=true:=by
 unfold placesB
 rw[List.all_eq_true]
 intro k hk
 exact h k (List.mem_range.1 hk)
theorem placesB_at{l:List GPlace}(h:placesB l=true)(k:Nat)(hk:k<l.length):okAt l k=true:=by
 unfold placesB at h
 rw[List.all_eq_true]at h
 exact h k (List.mem_range.2 hk)
theorem inP_iff{p:GPlace}:inP p=true↔1<=p.1/\p.1<=1073741824/\0<=p.2/\p.2<=1073741823:=by
 unfold inP
 simp[and_assoc]
theorem before_iff{a b:GPlace}:beforeB a b=true↔a.1<b.1\/a.1=b.1/\a.2<b.2:=by
 unfold beforeB
 simp
theorem sevenB_small(n:Nat)(h:n<128):sevenB n=[n.toUInt8]:=by rw[sevenB,if_pos h]
theorem sevenB_big(n:Nat)(h:¬n<128):sevenB n=(128+n % 128).toUInt8::sevenB (n/128):=by rw[sevenB,if_neg h]
theorem sevenB_len:∀(j n:Nat),n<128^(j+1)->(sevenB n).length<=j+1:=by
 intro j
 induction j with
 |zero=>intro n h;rw[sevenB_small n (by simpa using h)];simp
 |succ j ih=>
  intro n h
  by_cases h1:n<128
  ·rw[sevenB_small n h1];simp
  ·rw[sevenB_big n h1,List.length_cons]
   have:=ih (n/128) (by rw[Nat.div_lt_iff_lt_mul (by omega)];rw[Nat.pow_succ]at h;exact h)
   omega
theorem enc_bounds{l:List GPlace}{k:Nat}(hk:k<l.length)(h:∀i,i<=k->okAt l i=true):
  inP (l.getD k (0,0))=true/\0<=(prevAt l k).1/\(prevAt l k).1<=1073741824/\0<=(prevAt l k).2/\(prevAt l k).2<=1073741823/\
   (prevAt l k).1<=(l.getD k (0,0)).1/\((prevAt l k).1=(l.getD k (0,0)).1->(prevAt l k).2<=(l.getD k (0,0)).2):=by
 have h1:=h k (Nat.le_refl _)
 unfold okAt at h1
 rw[Bool.and_eq_true,inP_iff,Bool.or_eq_true]at h1
 cases k with
 |zero=>
  have e:prevAt l 0=(0,0):=rfl
  rw[e,inP_iff]
  refine⟨h1.1,?_⟩
  simp only
  omega
 |succ k=>
  have h2:=h k (by omega)
  unfold okAt at h2
  rw[Bool.and_eq_true,inP_iff]at h2
  have h3:beforeB (prevAt l (k+1)) (l.getD (k+1) (0,0))=true:=by
   rcases h1.2 with h|h
   ·simp at h
   ·exact h
  rw[before_iff]at h3
  have e:prevAt l (k+1)=l.getD k (0,0):=rfl
  rw[e]at h3⊢
  rw[inP_iff]
  refine⟨h1.1,by omega,by omega,by omega,by omega,by omega,by omega⟩
theorem encP_len{a p:GPlace}(h1:p.1-a.1<=1073741824)(h2:p.2-a.2<=1073741824)(h3:p.2<=1073741824):(encP a p).length<=10:=by
 unfold encP
 have e:128^(4+1)=34359738368:=by decide
 split
 ·have:=sevenB_len 4 (2*(p.2-a.2)).toNat (by rw[e];omega)
  omega
 ·have:=sevenB_len 4 (2*(p.1-a.1)+1).toNat (by rw[e];omega)
  have:=sevenB_len 4 p.2.toNat (by rw[e];omega)
  rw[List.length_append]
  omega
theorem wrP_len{l:List GPlace}:∀k,k<=l.length->(∀i,i<k->okAt l i=true)->(wrP l k).length<=10*k:=by
 intro k
 induction k with
 |zero=>intro _ _;simp[wrP]
 |succ k ih=>
  intro hk h
  have h1:=ih (by omega) (fun i hi=>h i (by omega))
  have h2:=enc_bounds (l:=l) (k:=k) (by omega) (fun i hi=>h i (by omega))
  rw[inP_iff]at h2
  have h3:=encP_len (a:=prevAt l k) (p:=l.getD k (0,0)) (by omega) (by omega) (by omega)
  rw[wrP_succ,List.length_append]
  omega
def getF:Nat->List UInt8->Option (Nat×List UInt8)
 |0,_=>none
 |_+1,[]=>none
 |k+1,c::r=>if c.toNat<128 then some (c.toNat,r)else(getF k r).map fun x=>(c.toNat-128+128*x.1,x.2)
theorem getF_lt:∀(k:Nat) (l r:List UInt8) (n:Nat),getF k l=some (n,r)->r.length<l.length:=by
 intro k
 induction k with
 |zero=>intro l r n h;cases h
 |succ k ih=>
  intro l r n h
  cases l with
  |nil=>cases h
  |cons c t=>
   rw[getF]at h
   by_cases h1:c.toNat<128
   ·rw[if_pos h1]at h
    simp only[Option.some.injEq,Prod.mk.injEq]at h
    rw[<-h.2];simp
   ·rw[if_neg h1]at h
    cases hg:getF k t with
    |none=>rw[hg]at h;cases h
    |some x=>
     rw[hg]at h
     simp only[Option.map_some,Option.some.injEq,Prod.mk.injEq]at h
     have:=ih t x.2 x.1 (by rw[hg])
     rw[<-h.2,List.length_cons]
     omega
theorem getF_le:∀(k:Nat) (l r:List UInt8) (n:Nat),getF k l=some (n,r)->n<128^k:=by
 intro k
 induction k with
 |zero=>intro l r n h;cases h
 |succ k ih=>
  intro l r n h
  cases l with
  |nil=>cases h
  |cons c t=>
   rw[getF]at h
   by_cases h1:c.toNat<128
   ·rw[if_pos h1]at h
    simp only[Option.some.injEq,Prod.mk.injEq]at h
    rw[Nat.pow_succ]
    have:=Nat.pow_pos (n:=k) (show 0<128 by omega)
    omega
   ·rw[if_neg h1]at h
    cases hg:getF k t with
    |none=>rw[hg]at h;cases h
    |some x=>
     rw[hg]at h
     simp only[Option.map_some,Option.some.injEq,Prod.mk.injEq]at h
     have:=ih t x.2 x.1 (by rw[hg])
     have h8:=UInt8.toNat_lt c
     rw[Nat.pow_succ]
     omega
def numsF:Nat->List UInt8->Option (List Nat)
 |0,[]=>some []
 |0,_::_=>none
 |_+1,[]=>some []
 |n+1,c::s=>match getF 5 (c::s)with
  |none=>none
  |some (v,r)=>(numsF n r).map (v::·)
def numsL(l:List UInt8):Option (List Nat):=numsF l.length l
theorem numsF_eq:∀(n m:Nat) (l:List UInt8),l.length<=n->l.length<=m->numsF n l=numsF m l:=by
 intro n
 induction n with
 |zero=>
  intro m l hn _
  have:l=[]:=List.eq_nil_of_length_eq_zero (by omega)
  subst this
  cases m<;>rfl
 |succ n ih=>
  intro m l hn hm
  cases l with
  |nil=>cases m<;>rfl
  |cons c s=>
   cases m with
   |zero=>simp at hm
   |succ m=>
    simp only[numsF]
    cases hp:getF 5 (c::s)with
    |none=>rfl
    |some p=>
     obtain⟨v,r⟩:=p
     have hlt:=getF_lt 5 _ _ _ hp
     simp only[List.length_cons]at hlt hn hm
     simp only
     rw[ih m r (by omega) (by omega)]
theorem numsL_nil:numsL []=some []:=rfl
theorem numsL_none{l:List UInt8}(h0:l≠[])(h:getF 5 l=none):numsL l=none:=by
 cases l with
 |nil=>exact absurd rfl h0
 |cons c s=>
  unfold numsL
  simp only[List.length_cons,numsF,h]
theorem numsL_some{l r:List UInt8}{v:Nat}(h:getF 5 l=some (v,r)):numsL l=(numsL r).map (v::·):=by
 cases l with
 |nil=>cases h
 |cons c s=>
  have hlt:=getF_lt 5 _ _ _ h
  simp only[List.length_cons]at hlt
  unfold numsL
  simp only[List.length_cons,numsF,h]
  rw[numsF_eq s.length r.length r (by omega) (Nat.le_refl _)]
def placesN:Nat->GPlace->List Nat->Option (List GPlace)
 |0,_,[]=>some []
 |0,_,_::_=>none
 |_+1,_,[]=>some []
 |f+1,a,n::r=>if n % 2=0 then(placesN f (a.1,a.2+(n/2:Nat)) r).map ((a.1,a.2+(n/2:Nat))::·)
  else match r with
   |[]=>none
   |m::t=>(placesN f (a.1+(n/2:Nat),(m:Int)) t).map ((a.1+(n/2:Nat),(m:Int))::·)
theorem placesN_eq:∀(f g:Nat) (a:GPlace) (l:List Nat),l.length<=f->l.length<=g->placesN f a l=placesN g a l:=by
 intro f
 induction f with
 |zero=>
  intro g a l hf _
  have:l=[]:=List.eq_nil_of_length_eq_zero (by omega)
  subst this
  cases g<;>rfl
 |succ f ih=>
  intro g a l hf hg
  cases l with
  |nil=>cases g<;>rfl
  |cons n r=>
   cases g with
   |zero=>simp at hg
   |succ g=>
    simp only[List.length_cons]at hf hg
    rw[placesN.eq_def,placesN.eq_def (g+1)]
    simp only
    by_cases h:n % 2=0
    ·rw[if_pos h,if_pos h,ih g _ r (by omega) (by omega)]
    ·rw[if_neg h,if_neg h]
     cases r with
     |nil=>rfl
     |cons m t=>
      simp only[List.length_cons]at hf hg
      simp only
      rw[ih g _ t (by omega) (by omega)]
def placesL(a:GPlace)(l:List Nat):Option (List GPlace):=placesN l.length a l
theorem placesL_even(a:GPlace)(n:Nat)(r:List Nat)(h:n % 2=0):placesL a (n::r)=(placesL (a.1,a.2+(n/2:Nat)) r).map ((a.1,a.2+(n/2:Nat))::·):=by
 unfold placesL
 rw[List.length_cons,placesN.eq_def]
 simp only[if_pos h]
theorem placesL_odd(a:GPlace)(n m:Nat)(r:List Nat)(h:¬n % 2=0):placesL a (n::m::r)=(placesL (a.1+(n/2:Nat),(m:Int)) r).map ((a.1+(n/2:Nat),(m:Int))::·):=by
 unfold placesL
 rw[List.length_cons,placesN,if_neg h]
 simp only[List.length_cons]
 rw[placesN_eq _ r.length _ r (by omega) (Nat.le_refl _)]
theorem placesL_one(a:GPlace)(n:Nat)(h:¬n % 2=0):placesL a [n]=none:=by
 unfold placesL
 rw[List.length_cons,placesN.eq_def]
 simp only[if_neg h]
def rdL(a:GPlace)(l:List UInt8):Option (List GPlace):=(numsL l).bind (placesL a)
theorem rdL_nil(a:GPlace):rdL a []=some []:=rfl
theorem rdL_none{a:GPlace}{l:List UInt8}(h0:l≠[])(h:getF 5 l=none):rdL a l=none:=by
 unfold rdL
 rw[numsL_none h0 h];rfl
theorem rdL_even{a:GPlace}{l r:List UInt8}{n:Nat}(h:getF 5 l=some (n,r))(he:n % 2=0):rdL a l=(rdL (a.1,a.2+(n/2:Nat)) r).map ((a.1,a.2+(n/2:Nat))::·):=by
 unfold rdL
 rw[numsL_some h]
 cases numsL r with
 |none=>rfl
 |some x=>simp only[Option.map_some,Option.bind_some];rw[placesL_even a n x he]
theorem rdL_odd_none{a:GPlace}{l r:List UInt8}{n:Nat}(h:getF 5 l=some (n,r))(he:¬n % 2=0)(h2:getF 5 r=none):rdL a l=none:=by
 unfold rdL
 rw[numsL_some h]
 by_cases h0:r=[]
 ·rw[h0,numsL_nil]
  simp only[Option.map_some,Option.bind_some]
  exact placesL_one a n he
 ·rw[numsL_none h0 h2];rfl
theorem rdL_odd{a:GPlace}{l r t:List UInt8}{n m:Nat}(h:getF 5 l=some (n,r))(he:¬n % 2=0)(h2:getF 5 r=some (m,t)):rdL a l=(rdL (a.1+(n/2:Nat),(m:Int)) t).map ((a.1+(n/2:Nat),(m:Int))::·):=by
 unfold rdL
 rw[numsL_some h,numsL_some h2]
 cases numsL t with
 |none=>rfl
 |some x=>simp only[Option.map_some,Option.bind_some];rw[placesL_odd a n m x he]
def readP(l:List UInt8):Option (List GPlace):=match rdL (0,0) l with
 |none=>none
 |some x=>if placesB x&&(writeP x==l)then some x else none
end
section
open Go Go.RowKit
structure Parts{α:Type}(lt:α->α->Bool):Prop where
 irrefl:∀x,lt x x=false
 trans:∀x y z,lt x y=true->lt y z=true->lt x z=true
 tri:∀x y,lt x y=false->lt y x=false->x=y
def Rising{α:Type}(lt:α->α->Bool)(l:List α):Prop:=l.Pairwise fun x y=>lt x y=true
def Weakly{α:Type}(lt:α->α->Bool)(l:List α):Prop:=l.Pairwise fun x y=>lt y x=false
def squeeze{α:Type}[DecidableEq α]:List α->List α
 |[]=>[]
 |[a]=>[a]
 |a::b::t=>if a=b then squeeze (b::t)else a::squeeze (b::t)
theorem squeeze_mem{α:Type}[DecidableEq α](x:α):∀l:List α,x∈squeeze l↔x∈l
 |[]=>Iff.rfl
 |[a]=>Iff.rfl
 |a::b::t=>by
  have ih:=squeeze_mem x (b::t)
  unfold squeeze
  split
  ·rename_i h
   subst h
   rw[ih]
   simp
  ·rw[List.mem_cons,ih]
   exact List.mem_cons.symm
theorem squeeze_rising{α:Type}[DecidableEq α]{lt:α->α->Bool}(P:Parts lt):∀l:List α,Weakly lt l->Rising lt (squeeze l)
 |[],_=>List.Pairwise.nil
 |[a],_=>List.pairwise_singleton _ _
 |a::b::t,h=>by
  obtain⟨h1,h2⟩:=List.pairwise_cons.1 h
  have ih:=squeeze_rising P (b::t) h2
  unfold squeeze
  split
  ·exact ih
  ·rename_i hne
   refine List.pairwise_cons.2 ⟨fun y hy=>?_,ih⟩
   have hy':y∈b::t:=(squeeze_mem y (b::t)).1 hy
   have hba:=h1 b List.mem_cons_self
   have hab:lt a b=true:=by
    cases hx:lt a b with
    |true=>rfl
    |false=>exact absurd (P.tri a b hx hba) hne
   rcases List.mem_cons.1 hy' with rfl|hy''
   ·exact hab
   ·have hyb:=(List.pairwise_cons.1 h2).1 y hy''
    cases hx:lt b y with
    |true=>exact P.trans a b y hab hx
    |false=>
     have:=P.tri b y hx hyb
     subst this
     exact hab
theorem rising_eq{α:Type}{lt:α->α->Bool}(P:Parts lt):∀l m:List α,Rising lt l->Rising lt m->(∀x,x∈l↔x∈m)->l=m
 |[],[],_,_,_=>rfl
 |[],b::t,_,_,h=>absurd ((h b).2 List.mem_cons_self) (by simp)
 |a::t,[],_,_,h=>absurd ((h a).1 List.mem_cons_self) (by simp)
 |a::l,b::m,hl,hm,h=>by
  obtain⟨hl1,hl2⟩:=List.pairwise_cons.1 hl
  obtain⟨hm1,hm2⟩:=List.pairwise_cons.1 hm
  have hab:a=b:=by
   rcases List.mem_cons.1 ((h a).1 List.mem_cons_self)with e|h1
   ·exact e
   ·rcases List.mem_cons.1 ((h b).2 List.mem_cons_self)with e|h2
    ·exact e.symm
    ·have h3:=P.trans a b a (hl1 b h2) (hm1 a h1)
     rw[P.irrefl a]at h3
     cases h3
  subst hab
  congr 1
  refine rising_eq P l m hl2 hm2 fun x=>⟨fun hx=>?_,fun hx=>?_⟩
  ·rcases List.mem_cons.1 ((h x).1 (List.mem_cons_of_mem _ hx))with e|h1
   ·have h3:=hl1 x hx
    rw[e,P.irrefl a]at h3
    cases h3
   ·exact h1
  ·rcases List.mem_cons.1 ((h x).2 (List.mem_cons_of_mem _ hx))with e|h1
   ·have h3:=hm1 x hx
    rw[e,P.irrefl a]at h3
    cases h3
   ·exact h1
def setOf{α:Type}[DecidableEq α](lt:α->α->Bool)(l:List α):List α:=squeeze (l.mergeSort fun x y=>!lt y x)
theorem setOf_mem{α:Type}[DecidableEq α](lt:α->α->Bool)(l:List α)(x:α):x∈setOf lt l↔x∈l:=by
 unfold setOf
 rw[squeeze_mem,List.mem_mergeSort]
theorem mergeSort_weakly{α:Type}{lt:α->α->Bool}(P:Parts lt)(l:List α):Weakly lt (l.mergeSort fun x y=>!lt y x):=by
 have h:=List.pairwise_mergeSort (le:=fun x y=>!lt y x) (by
  intro a b c h1 h2
  simp only[Bool.not_eq_true']at*
  cases hca:lt c a with
  |false=>rfl
  |true=>
   cases hbc:lt b c with
   |true=>
    have:=P.trans b c a hbc hca
    rw[h1]at this
    cases this
   |false=>
    have:=P.tri c b h2 hbc
    subst this
    rw[h1]at hca
    cases hca) (by
  intro a b
  cases hba:lt b a with
  |false=>simp
  |true=>
   have:lt a b=false:=by
    cases hab:lt a b with
    |false=>rfl
    |true=>
     have:=P.trans a b a hab hba
     rw[P.irrefl a]at this
     cases this
   simp[this]) l
 exact h.imp fun{x y} hxy=>by simpa using hxy
theorem setOf_rising{α:Type}[DecidableEq α]{lt:α->α->Bool}(P:Parts lt)(l:List α):Rising lt (setOf lt l):=squeeze_rising P _ (mergeSort_weakly P l)
theorem setOf_eq{α:Type}[DecidableEq α]{lt:α->α->Bool}(P:Parts lt){l m:List α}(h:Rising lt m)(hm:∀x,x∈m↔x∈l):m=setOf lt l:=
 rising_eq P _ _ h (setOf_rising P l) fun x=>(hm x).trans (setOf_mem lt l x).symm
theorem squeeze_set{α:Type}[DecidableEq α]{lt:α->α->Bool}(P:Parts lt){l m:List α}(h:Weakly lt m)(hm:∀x,x∈m↔x∈l):squeeze m=setOf lt l:=
 setOf_eq P (squeeze_rising P m h) fun x=>(squeeze_mem x m).trans (hm x)
theorem parts_place:Parts beforeB where
 irrefl x:=by simp[beforeB]
 trans x y z h1 h2:=by rw[before_iff]at*;omega
 tri x y h1 h2:=by
  have h3:¬(x.1<y.1\/x.1=y.1/\x.2<y.2):=fun h=>by rw[before_iff.2 h]at h1;cases h1
  have h4:¬(y.1<x.1\/y.1=x.1/\y.2<x.2):=fun h=>by rw[before_iff.2 h]at h2;cases h2
  exact Prod.ext (by omega) (by omega)
def lessI(x y:Int):Bool:=decide (x<y)
theorem parts_int:Parts lessI where
 irrefl x:=by simp[lessI]
 trans x y z h1 h2:=by simp[lessI]at*;omega
 tri x y h1 h2:=by simp[lessI]at*;omega
def orI(x y:Int):Int:=if x=0 then y else x
theorem or_t(b:Nat)(x y:Int)(w:World)(h0:w.cell? ⟨b,0,none⟩=some (.int .i64 x))(h1:w.cell? ⟨b,1,none⟩=some (.int .i64 y)):
  Calls Tryz.prog 124 #[.slice (some ⟨b,0,none⟩) 2 2] w (Ret w (.int .i64 (orI x y))):=by
 go_enter Tryz.func124,Tryz.ntmps124
 go_wp2
 go_loop [8] (fun i=>i=.int .i64 0\/(i=.int .i64 1/\x=0)\/(i=.int .i64 2/\x=0/\y=0)) (fun i=>2-(intOf i).toNat)
 case atStart=>exact .inl rfl
 case round=>
  rcases hrel with rfl|⟨rfl,rfl⟩|⟨rfl,rfl,rfl⟩
  ·by_cases hx:x=0
   ·go_wp2
    exact⟨.inr (.inl ⟨rfl,hx⟩),by simp[intOf]⟩
   ·go_wp2
    go_ret
    exact Ret.mk (by unfold orI;rw[if_neg hx];rfl) (Gr.refl _)
  ·by_cases hy:y=0
   ·go_wp2
    exact⟨.inr (.inr ⟨rfl,trivial,hy⟩),by simp[intOf]⟩
   ·go_wp2
    go_ret
    exact Ret.mk rfl (Gr.refl _)
  ·go_wp2
   go_ret
   exact Ret.mk rfl (Gr.refl _)
def cmpP(a b:GPlace):Int:=orI (Lib.compareInt a.1 b.1) (Lib.compareInt a.2 b.2)
theorem compare_p(a b:GPlace)(w:World):Calls Tryz.prog 71 #[a.val,b.val] w (Ret w (.int .i64 (cmpP a b))):=by
 obtain⟨a1,a2⟩:=a
 obtain⟨b1,b2⟩:=b
 unfold GPlace.val
 go_enter Tryz.func71,Tryz.ntmps71
 go_wp2_with fail
 have hg:=((Gr.refl w).alloc (.cells #[.int .i64 a1,.int .i64 a2] 104)).alloc (.cells #[.int .i64 b1,.int .i64 b2] 104)
 have c0:((w.alloc (.cells #[.int .i64 a1,.int .i64 a2] 104)).alloc (.cells #[.int .i64 b1,.int .i64 b2] 104)).cell? ⟨w.heap.size,0,none⟩=some (.int .i64 a1):=((Gr.refl _).alloc _).keeps (by rw[World.cell?_alloc_new];rfl)
 have c1:((w.alloc (.cells #[.int .i64 a1,.int .i64 a2] 104)).alloc (.cells #[.int .i64 b1,.int .i64 b2] 104)).cell? ⟨w.heap.size,1,none⟩=some (.int .i64 a2):=((Gr.refl _).alloc _).keeps (by rw[World.cell?_alloc_new];rfl)
 have c2:((w.alloc (.cells #[.int .i64 a1,.int .i64 a2] 104)).alloc (.cells #[.int .i64 b1,.int .i64 b2] 104)).cell? ⟨w.heap.size+1,0,none⟩=some (.int .i64 b1):=by rw[<-World.size_alloc w (.cells #[.int .i64 a1,.int .i64 a2] 104),World.cell?_alloc_new];rfl
 have c3:((w.alloc (.cells #[.int .i64 a1,.int .i64 a2] 104)).alloc (.cells #[.int .i64 b1,.int .i64 b2] 104)).cell? ⟨w.heap.size+1,1,none⟩=some (.int .i64 b2):=by rw[<-World.size_alloc w (.cells #[.int .i64 a1,.int .i64 a2] 104),World.cell?_alloc_new];rfl
 generalize((w.alloc (.cells #[.int .i64 a1,.int .i64 a2] 104)).alloc (.cells #[.int .i64 b1,.int .i64 b2] 104))=W at*
 go_region_held3(fun w'=>w'.cell? ⟨w.heap.size,0,none⟩=some (.int .i64 a1)/\w'.cell? ⟨w.heap.size,1,none⟩=some (.int .i64 a2)/\w'.cell? ⟨w.heap.size+1,0,none⟩=some (.int .i64 b1)/\w'.cell? ⟨w.heap.size+1,1,none⟩=some (.int .i64 b2)/\Gr w w') (first|exact⟨c0,c1,c2,c3,hg⟩|exact⟨c0,c1,c2,c3,hg.drew⟩|exact⟨(((Gr.refl _).alloc _).drew).keeps c0,(((Gr.refl _).alloc _).drew).keeps c1,(((Gr.refl _).alloc _).drew).keeps c2,(((Gr.refl _).alloc _).drew).keeps c3,(hg.alloc _).drew⟩|exact⟨(((Gr.refl W).alloc _).drew.trans (by assumption)).keeps c0,(((Gr.refl W).alloc _).drew.trans (by assumption)).keeps c1,(((Gr.refl W).alloc _).drew.trans (by assumption)).keeps c2,(((Gr.refl W).alloc _).drew.trans (by assumption)).keeps c3,(hg.alloc _).drew.trans (by assumption)⟩) (first|(go_at_call 125;refine(Tryz.cmp_Compare_int _ _ _).mono ?_;rintro e w21 ⟨rfl,rfl⟩)|(go_at_call 124;refine(or_t _ _ _ _ (by rw[World.cell?_drew,World.cell?_alloc_new];rfl) (by rw[World.cell?_drew,World.cell?_alloc_new];rfl)).mono ?_;rintro e w22 ⟨rfl,hg22⟩))
 go_wp2
 go_ret
 exact Ret.mk rfl ((hg.alloc _).drew.trans (by assumption))
def PlacesAt(w:World)(b off:Nat)(xs:List GPlace):Prop:=
 ∀i (h:i<xs.length),w.cell? ⟨b,off+i*2,none⟩=some (.int .i64 xs[i].1)/\w.cell? ⟨b,off+i*2+1,none⟩=some (.int .i64 xs[i].2)
theorem PlacesAt.gr{w w':World}{b off:Nat}{xs:List GPlace}(h:PlacesAt w b off xs)(g:Gr w w'):PlacesAt w' b off xs:=
 fun i hi=>⟨g.keeps (h i hi).1,g.keeps (h i hi).2⟩
theorem okAt_zero(xs:List GPlace)(h:0<xs.length):okAt xs 0=inP xs[0]:=by
 unfold okAt
 simp[List.getD_eq_getElem?_getD,h]
theorem okAt_succ(xs:List GPlace)(k:Nat)(h:k+1<xs.length):okAt xs (k+1)=(inP xs[k+1]&&beforeB xs[k] xs[k+1]):=by
 have h':k<xs.length:=by omega
 unfold okAt prevAt
 simp[List.getD_eq_getElem?_getD,h,h']
theorem inP_bad{x1 x2:Int}(h:x1<1\/1073741824<x1\/x2<0\/1073741824<=x2):inP (x1,x2)=false:=by
 rw[Bool.eq_false_iff]
 intro h1
 rw[inP_iff]at h1
 simp only at h1
 omega
theorem inP_good{x1 x2:Int}(h:1<=x1/\x1<=1073741824/\0<=x2/\x2<1073741824):inP (x1,x2)=true:=by
 rw[inP_iff]
 simp only
 omega
theorem cmpP_before(a b:GPlace):decide (0<=cmpP a b)=!beforeB a b:=by
 obtain⟨a1,a2⟩:=a
 obtain⟨b1,b2⟩:=b
 unfold cmpP orI Lib.compareInt
 cases h:beforeB (a1,a2) (b1,b2)
 ·rw[Bool.eq_false_iff,ne_eq,before_iff]at h
  simp only at h
  simp only[Bool.not_false,decide_eq_true_eq]
  split<;>split<;>omega
 ·rw[before_iff]at h
  simp only at h
  simp only[Bool.not_true,decide_eq_false_iff_not]
  split<;>split<;>omega
theorem right_p(xs:List GPlace)(b off c:Nat)(ao:Option Addr)(hao:0<xs.length->ao=some ⟨b,off,none⟩)(hl:xs.length<=9223372036854775807)(w:World)(hc:PlacesAt w b off xs):
  Calls Tryz.prog 23 #[.slice ao xs.length c] w (Ret w (.bool (placesB xs))):=by
 have HC:=Lib.hid hc
 have HA:=Lib.hid hao
 clear hc hao
 go_enter Tryz.func23,Tryz.ntmps23
 go_wp2_with fail
 go_loopw [7] (fun i w'=>∃j:Nat,j<=xs.length/\i=.int .i64 j/\Gr w w'/\∀k,k<j->okAt xs k=true) (fun i _=>xs.length-(intOf i).toNat)
 case atStart=>exact⟨0,Nat.zero_le _,rfl,Gr.refl _,fun k hk=>by omega⟩
 case round=>
  obtain⟨j,hj,rfl,hg,hok⟩:=hrel
  have HO:=Lib.hid hok
  clear hok
  by_cases hlt:j<xs.length
  ·obtain rfl:=HA.out (by omega)
   obtain⟨c0,c1⟩:=HC.out.gr hg j hlt
   cases j with
   |zero=>
    have hok:=okAt_zero xs hlt
    generalize hx:xs[0]=x at*
    obtain⟨x1,x2⟩:=x
    simp only[Nat.zero_mul,Nat.add_zero]at c0 c1
    have HOK:=Lib.hid hok
    clear hok
    have p0:(wr.alloc (.cells #[.int .i64 x1,.int .i64 x2] 104)).cell? ⟨wr.heap.size,0,none⟩=some (.int .i64 x1):=by rw[World.cell?_alloc_new];rfl
    have p1:(wr.alloc (.cells #[.int .i64 x1,.int .i64 x2] 104)).cell? ⟨wr.heap.size,1,none⟩=some (.int .i64 x2):=by rw[World.cell?_alloc_new];rfl
    have f0:=fun d os=>cell_regrown p0 d os
    have f1:=fun d os=>cell_regrown p1 d os
    clear p0 p1
    go_wp2_with fail
    cases hA:decide (x1<1)
    ·cases hB:decide (1073741824<x1)
     ·cases hC:decide (x2<0)
      ·cases hD:decide (1073741824<=x2)
       ·refine wp_region_quiet_below (by kernel_rfl) (by kernel_rfl) ?_
        repeat(go_big_quiet_step (fail))
        refine wpQuiet_nil ?_
        intro w3 hw3
        have hg3:=(hg.alloc _).trans (gr_regrown hw3)
        clear hw3 hg f0 f1
        go_wp2_with fail
        refine⟨⟨0+1,by omega,by go_num,hg3,fun m hm=>?_⟩,by simp[intOf];omega⟩
        rcases Nat.lt_succ_iff_lt_or_eq.1 hm with h|rfl
        ·exact HO.out m h
        ·exact(by rw[HOK.out];exact inP_good (by simp only[decide_eq_false_iff_not]at*;omega))
       ·refine wp_region_quiet_below (by kernel_rfl) (by kernel_rfl) ?_
        repeat(go_big_quiet_step (fail))
        refine wpQuiet_nil ?_
        intro w3 hw3
        have hg3:=(hg.alloc _).trans (gr_regrown hw3)
        clear hw3 hg f0 f1
        go_wp2_with fail
        go_ret
        exact Ret.mk (by rw[placesB_false hlt (by rw[HOK.out];exact inP_bad (by simp only[decide_eq_false_iff_not,decide_eq_true_eq]at*;omega))];rfl) hg3
      ·refine wp_region_quiet_below (by kernel_rfl) (by kernel_rfl) ?_
       repeat(go_big_quiet_step (fail))
       refine wpQuiet_nil ?_
       intro w3 hw3
       have hg3:=(hg.alloc _).trans (gr_regrown hw3)
       clear hw3 hg f0 f1
       go_wp2_with fail
       go_ret
       exact Ret.mk (by rw[placesB_false hlt (by rw[HOK.out];exact inP_bad (by simp only[decide_eq_false_iff_not,decide_eq_true_eq]at*;omega))];rfl) hg3
     ·refine wp_region_quiet_below (by kernel_rfl) (by kernel_rfl) ?_
      repeat(go_big_quiet_step (fail))
      refine wpQuiet_nil ?_
      intro w3 hw3
      have hg3:=(hg.alloc _).trans (gr_regrown hw3)
      clear hw3 hg f0 f1
      go_wp2_with fail
      go_ret
      exact Ret.mk (by rw[placesB_false hlt (by rw[HOK.out];exact inP_bad (by simp only[decide_eq_false_iff_not,decide_eq_true_eq]at*;omega))];rfl) hg3
    ·refine wp_region_quiet_below (by kernel_rfl) (by kernel_rfl) ?_
     repeat(go_big_quiet_step (fail))
     refine wpQuiet_nil ?_
     intro w3 hw3
     have hg3:=(hg.alloc _).trans (gr_regrown hw3)
     clear hw3 hg f0 f1
     go_wp2_with fail
     go_ret
     exact Ret.mk (by rw[placesB_false hlt (by rw[HOK.out];exact inP_bad (by simp only[decide_eq_true_eq]at*;omega))];rfl) hg3
   |succ k=>
    obtain⟨d0,d1⟩:=HC.out.gr hg k (by omega)
    have hok:=okAt_succ xs k hlt
    generalize hx:xs[k+1]=x at*
    generalize hy:xs[k]=y at*
    obtain⟨x1,x2⟩:=x
    obtain⟨y1,y2⟩:=y
    simp only at c0 c1 d0 d1
    have HOK:=Lib.hid hok
    clear hok
    have p0:(wr.alloc (.cells #[.int .i64 x1,.int .i64 x2] 104)).cell? ⟨wr.heap.size,0,none⟩=some (.int .i64 x1):=by rw[World.cell?_alloc_new];rfl
    have p1:(wr.alloc (.cells #[.int .i64 x1,.int .i64 x2] 104)).cell? ⟨wr.heap.size,1,none⟩=some (.int .i64 x2):=by rw[World.cell?_alloc_new];rfl
    have f0:=fun d os=>cell_regrown p0 d os
    have f1:=fun d os=>cell_regrown p1 d os
    have f2:=fun d os=>cell_regrown (((Gr.refl wr).alloc (.cells #[.int .i64 x1,.int .i64 x2] 104)).keeps d0) d os
    have f3:=fun d os=>cell_regrown (((Gr.refl wr).alloc (.cells #[.int .i64 x1,.int .i64 x2] 104)).keeps d1) d os
    clear p0 p1
    go_wp2_with fail
    cases hA:decide (x1<1)
    ·cases hB:decide (1073741824<x1)
     ·cases hC:decide (x2<0)
      ·cases hD:decide (1073741824<=x2)
       ·cases hE:beforeB (y1,y2) (x1,x2)
        ·have hE':decide (0<=cmpP (y1,y2) (x1,x2))=true:=by rw[cmpP_before,hE];rfl
         refine wp_region_quiet_below (by kernel_rfl) (by kernel_rfl) ?_
         repeat(go_big_quiet_step ((go_at_call 71;exact Ret.regrown (compare_p (y1,y2) (x1,x2) _))))
         refine wpQuiet_nil ?_
         intro w3 hw3
         have hg3:=(hg.alloc _).trans (gr_regrown hw3)
         clear hw3 hg f0 f1
         go_wp2_with fail
         go_ret
         exact Ret.mk (by rw[placesB_false hlt (by rw[HOK.out,hE];simp)];rfl) hg3
        ·have hE':decide (0<=cmpP (y1,y2) (x1,x2))=false:=by rw[cmpP_before,hE];rfl
         refine wp_region_quiet_below (by kernel_rfl) (by kernel_rfl) ?_
         repeat(go_big_quiet_step ((go_at_call 71;exact Ret.regrown (compare_p (y1,y2) (x1,x2) _))))
         refine wpQuiet_nil ?_
         intro w3 hw3
         have hg3:=(hg.alloc _).trans (gr_regrown hw3)
         clear hw3 hg f0 f1
         go_wp2_with fail
         refine⟨⟨k+1+1,by omega,by go_num,hg3,fun m hm=>?_⟩,by simp[intOf];omega⟩
         rcases Nat.lt_succ_iff_lt_or_eq.1 hm with h|rfl
         ·exact HO.out m h
         ·exact(by rw[HOK.out,hE,inP_good (by simp only[decide_eq_false_iff_not]at*;omega)];rfl)
       ·refine wp_region_quiet_below (by kernel_rfl) (by kernel_rfl) ?_
        repeat(go_big_quiet_step (fail))
        refine wpQuiet_nil ?_
        intro w3 hw3
        have hg3:=(hg.alloc _).trans (gr_regrown hw3)
        clear hw3 hg f0 f1
        go_wp2_with fail
        go_ret
        exact Ret.mk (by rw[placesB_false hlt (by rw[HOK.out,inP_bad (by simp only[decide_eq_false_iff_not,decide_eq_true_eq]at*;omega)];rfl)];rfl) hg3
      ·refine wp_region_quiet_below (by kernel_rfl) (by kernel_rfl) ?_
       repeat(go_big_quiet_step (fail))
       refine wpQuiet_nil ?_
       intro w3 hw3
       have hg3:=(hg.alloc _).trans (gr_regrown hw3)
       clear hw3 hg f0 f1
       go_wp2_with fail
       go_ret
       exact Ret.mk (by rw[placesB_false hlt (by rw[HOK.out,inP_bad (by simp only[decide_eq_false_iff_not,decide_eq_true_eq]at*;omega)];rfl)];rfl) hg3
     ·refine wp_region_quiet_below (by kernel_rfl) (by kernel_rfl) ?_
      repeat(go_big_quiet_step (fail))
      refine wpQuiet_nil ?_
      intro w3 hw3
      have hg3:=(hg.alloc _).trans (gr_regrown hw3)
      clear hw3 hg f0 f1
      go_wp2_with fail
      go_ret
      exact Ret.mk (by rw[placesB_false hlt (by rw[HOK.out,inP_bad (by simp only[decide_eq_false_iff_not,decide_eq_true_eq]at*;omega)];rfl)];rfl) hg3
    ·refine wp_region_quiet_below (by kernel_rfl) (by kernel_rfl) ?_
     repeat(go_big_quiet_step (fail))
     refine wpQuiet_nil ?_
     intro w3 hw3
     have hg3:=(hg.alloc _).trans (gr_regrown hw3)
     clear hw3 hg f0 f1
     go_wp2_with fail
     go_ret
     exact Ret.mk (by rw[placesB_false hlt (by rw[HOK.out,inP_bad (by simp only[decide_eq_true_eq]at*;omega)];rfl)];rfl) hg3
  ·go_wp2_with fail
   go_ret
   exact Ret.mk (by rw[placesB_true (fun k hk=>HO.out k (by omega))];rfl) hg
def Moved(v v':Value)(w w':World):Prop:=w.heap.size<=w'.heap.size/\∀k,k<w.heap.size->v.ownBlock≠some k->v'.ownBlock≠some k/\∀o,w'.cell? ⟨k,o,none⟩=w.cell? ⟨k,o,none⟩/\w'.frozen? ⟨k,o,none⟩=w.frozen? ⟨k,o,none⟩
theorem Moved.refl(v:Value)(w:World):Moved v v w w:=⟨Nat.le_refl _,fun _ _ h=>⟨h,fun _=>⟨rfl,rfl⟩⟩⟩
theorem Moved.trans{v v' v'':Value}{w w' w'':World}(h:Moved v v' w w')(h':Moved v' v'' w' w''):Moved v v'' w w'':=
 ⟨Nat.le_trans h.1 h'.1,fun k hk hv=>by
  have a:=h.2 k hk hv
  have b:=h'.2 k (Nat.lt_of_lt_of_le hk h.1) a.1
  exact⟨b.1,fun o=>⟨(b.2 o).1.trans (a.2 o).1,(b.2 o).2.trans (a.2 o).2⟩⟩⟩
theorem Moved.keeps{v v':Value}{w w':World}(h:Moved v v' w w'){k o:Nat}{u:Value}(hv:v.ownBlock≠some k)(hc:w.cell? ⟨k,o,none⟩=some u):w'.cell? ⟨k,o,none⟩=some u:=
 (((h.2 k (lt_of_cell hc) hv).2 o).1).trans hc
theorem append_moved{P:Program}{a0 w:World}{ops:Array Oper}{rest:List Oper}{o:Oper}{a:Act}{Q:Exit->Act->World->Prop}(hgd:o.guard=none)(s x:Operand)(t:TypeId)
  (ho:o.op=.call {callee:=.builtin .append,args:=#[s,x],argTypes:=#[t,t]}) (e:TypeId) (i:TypeInfo) (z:Value) (size bytes:Nat) (ht:P.underlying t=some (.slice e)) (hi:P.info? e=some i)
  (hz:i.zero=some z) (hsize:i.size=size) (hby:i.bytes=bytes) (hzs:z.cells.size=size) (hsz:0<size) (v:Value) (n:Nat) (xs:List Value) (hs:a.eval s=v) (hown:w.ownsRow a0.heap.size e size v n xs)
  (us:List Value) (hul:us.length=size) (h1:∀u∈us,u.oneCell'=true) (hx:a.eval x=.slice (some ⟨w.heap.size,0,none⟩) 1 1) (hg:Gr a0 w) (h63:n+1<=4611686018427387904) (hbytes:(n+1)*bytes<=140737488355328)
  (h:∀v' w',w'.ownsRow a0.heap.size e size v' (n+1) (xs++us)->Gr a0 w'->Moved v v' w w'->wpList P ops Q rest (a.put o.dst v') w'):wpList P ops Q (o::rest) a (w.alloc (.cells us.toArray e)):=by
 refine wpList_append_own_at _ hgd s x t ho a0.heap.size e i z size bytes ht hi hz hsize hby hzs hsz v n xs hs (hown.alloc _) ⟨w.heap.size,0,none⟩ 1 1 us hx (by rw[hul,Nat.one_mul]) ?_ h1 (by unfold maxLen;omega) hbytes (by have:=hg.size;simp;omega)
  (fun v' w' h1 h2 _ h4=>h v' w' h1 (gr_grown (hg.alloc _) h2 (ownBlock_ge hown)) ⟨by have:=h2.size;simp at this;omega,fun k hk hne=>⟨fun e=>by
   rcases h4 with h4|h4
   ·exact hne (h4.symm.trans e)
   ·rw[h4]at e
    have:=Option.some.inj e
    simp at this
    omega,fun o=>by
   have hb:w'.heap[k]?=w.heap[k]?:=(h2.block k (by simp;omega) (fun e=>hne e.symm)).trans (Below.heap_alloc _ _ _ hk)
   exact⟨World.cell?_of_block hb,World.frozen?_of_block hb⟩⟩⟩)
 intro j u hj
 have he:(⟨w.heap.size,0,none⟩:Addr).add j=⟨w.heap.size,j,none⟩:=by
  unfold Addr.add
  split
  ·rename_i h0;rw[h0]
  ·simp
 rw[he,World.cell?_alloc_new]
 simpa using hj
theorem and127(n:Nat)(h:n<9223372036854775808):bits BinOp.and IntKind.i64 (n:Int) 127=((n % 128:Nat):Int):=by
 show IntKind.i64.wrap ((BitVec.ofInt 64 (n:Int)&&&BitVec.ofInt 64 ((127:Nat):Int)).toNat:Int)=_
 rw[BitVec.toNat_and,ofInt_64 _ (by omega),ofInt_64 _ (by omega),Nat.and_two_pow_sub_one_eq_mod n 7]
 rw[IntKind.wrap_i64]
 omega
theorem or128(m:Nat):bits BinOp.or IntKind.u8 ((m:Int) % 128) 128=((128+m % 128).toUInt8.toNat:Int):=by
 have h:∀r:Fin 128,bits BinOp.or IntKind.u8 ((r.val:Nat):Int) 128=((128+r.val).toUInt8.toNat:Int):=by decide+kernel
 have:=h ⟨m % 128,Nat.mod_lt _ (by omega)⟩
 rw[show((m:Int) % 128)=((m % 128:Nat):Int)by omega]
 exact this
theorem number_t(a0 w:World)(v:Value)(l:List UInt8)(n:Nat)(hn:n<1099511627776)(hl:l.length<=100000000000)(hg:Gr a0 w)(ho:OwnB a0 w v l):
  Calls Tryz.prog 147 #[v,.int .i64 n] w fun e w'=>∃v',e=.returned v'/\OwnB a0 w' v' (l++sevenB n)/\Gr a0 w'/\Moved v v' w w':=by
 obtain⟨i0,hi,hz0,hz1,hz2⟩:=info_parts info_u8
 have HO:=Lib.hid ho
 clear ho
 go_enter Tryz.func147,Tryz.ntmps147
 go_wp2_with fail
 go_loopw [1,0] (fun i u w'=>∃(m:Nat) (pre:List UInt8),m<=n/\i=.int .i64 m/\Gr a0 w'/\OwnB a0 w' u (l++pre)/\pre.length+m<=n/\pre++sevenB m=sevenB n/\Moved v u w w') (fun i _ _=>(intOf i).toNat)
 case atStart=>exact⟨n,[],Nat.le_refl _,rfl,hg,by simpa using HO.out,by simp,by simp,Moved.refl _ _⟩
 case round=>
  obtain⟨m,pre,hm,rfl,hg,ho,hpl,hse,hmv⟩:=hrel
  have HO:=Lib.hid ho
  have HSE:=Lib.hid hse
  clear ho hse
  by_cases h:m<128
  ·go_wp2_with(at_builtin;(refine append_moved (a0:=a0) rfl _ _ 188 rfl 5 i0 (.int .u8 0) 1 1 Tryz.underlying188 hi hz0 hz1 hz2 rfl (by decide) _ _ _ rfl (OwnB.row HO.out) [_] rfl (by simp;rfl) rfl hg (by simp;omega) (by simp;omega) ?_);intro v4 w4 hown4 hg4 hmv4)
   go_ret
   refine⟨_,rfl,?_,hg4,hmv.trans hmv4⟩
   rw[<-HSE.out,sevenB_small m h,<-List.append_assoc]
   have e:byteV m.toUInt8=.int .u8 (m:Int):=by
    unfold byteV
    congr 1
    simp
    omega
   exact own_snoc (by rw[e];exact hown4)
  ·have ha:=and127 m (by omega)
   go_wp2_with(at_builtin;(refine append_moved (a0:=a0) rfl _ _ 188 rfl 5 i0 (.int .u8 0) 1 1 Tryz.underlying188 hi hz0 hz1 hz2 rfl (by decide) _ _ _ rfl (OwnB.row HO.out) [_] rfl (by simp;rfl) rfl hg (by simp;omega) (by simp;omega) ?_);intro v4 w4 hown4 hg4 hmv4)
   refine⟨⟨m/128,pre++[(128+m % 128).toUInt8],by omega,by go_num,hg4,?_,by rw[List.length_append];simp;omega,?_,hmv.trans hmv4⟩,by simp[intOf];omega⟩
   ·rw[<-List.append_assoc]
    refine own_snoc ?_
    rw[byteV,<-or128]
    exact hown4
   ·rw[<-HSE.out,sevenB_big m h,List.append_assoc];rfl
theorem number_i(a0 w:World)(v:Value)(l:List UInt8)(n:Int)(h0:0<=n)(hn:n<1099511627776)(hl:l.length<=100000000000)(hg:Gr a0 w)(ho:OwnB a0 w v l):
  Calls Tryz.prog 147 #[v,.int .i64 n] w fun e w'=>∃v',e=.returned v'/\OwnB a0 w' v' (l++sevenB n.toNat)/\Gr a0 w'/\Moved v v' w w':=by
 obtain⟨m,rfl⟩:=Int.eq_ofNat_of_zero_le h0
 exact number_t a0 w v l m (by omega) hl hg ho
def wS(xs:List GPlace):List UInt8:=if placesB xs then writeP xs else[]
def wErr(xs:List GPlace):Value:=if placesB xs then .nilIface else .iface 24 (.int .i64 1)
theorem getD_at{xs:List GPlace}{j:Nat}(h:j<xs.length):xs.getD j (0,0)=xs[j]:=by simp[List.getD_eq_getElem?_getD,h]
theorem write_p(xs:List GPlace)(b off c:Nat)(ao:Option Addr)(hao:0<xs.length->ao=some ⟨b,off,none⟩)(hl:xs.length<=1000000)(w:World)(hc:PlacesAt w b off xs):
  Calls Tryz.prog 94 #[.slice ao xs.length c] w (Ret w (.tuple #[.string ⟨(wS xs).toArray⟩,wErr xs])):=by
 have HC:=Lib.hid hc
 have HA:=Lib.hid hao
 clear hc hao
 go_enter Tryz.func94,Tryz.ntmps94
 go_wp2_with fail
 refine(right_p xs b off c ao HA.out (by omega) _ HC.out).mono ?_
 rintro e w1 ⟨rfl,hg1⟩
 cases hp:placesB xs
 ·go_wp2_with fail
  go_ret2
  exact Ret.mk (by unfold wS wErr;rw[hp];rfl) hg1
 ·have HP:=Lib.hid hp
  clear hp
  go_wp2_with fail
  have hgL:=hg1.alloc (.cells #[.int .i64 0,.int .i64 0] 104)
  have q0:(w1.alloc (.cells #[.int .i64 0,.int .i64 0] 104)).cell? ⟨w1.heap.size,0,none⟩=some (.int .i64 0):=by rw[World.cell?_alloc_new];rfl
  have q1:(w1.alloc (.cells #[.int .i64 0,.int .i64 0] 104)).cell? ⟨w1.heap.size,1,none⟩=some (.int .i64 0):=by rw[World.cell?_alloc_new];rfl
  have z0:∀o,(w1.alloc (.cells #[.int .i64 0,.int .i64 0] 104)).frozen? ⟨w1.heap.size,o,none⟩=false:=fun o=>by simp
  have hL0:w.heap.size<=w1.heap.size:=hg1.size
  have hL1:w1.heap.size<(w1.alloc (.cells #[.int .i64 0,.int .i64 0] 104)).heap.size:=by simp
  generalize(w1.alloc (.cells #[.int .i64 0,.int .i64 0] 104))=W0 at*
  generalize w1.heap.size=L at*
  clear hg1
  have HQ:=Lib.hid (And.intro q0 (And.intro q1 z0))
  clear q0 q1 z0
  go_loopw [15,4] (fun i u w'=>∃j:Nat,j<=xs.length/\i=.int .i64 j/\Gr w w'/\OwnB w w' u (wrP xs j)/\u.ownBlock≠some L/\L<w'.heap.size/\(w'.cell? ⟨L,0,none⟩=some (.int .i64 (prevAt xs j).1)/\w'.cell? ⟨L,1,none⟩=some (.int .i64 (prevAt xs j).2)/\∀o,w'.frozen? ⟨L,o,none⟩=false)) (fun i _ _=>xs.length-(intOf i).toNat)
  case atStart=>exact⟨0,Nat.zero_le _,rfl,hgL,⟨rfl,.inl ⟨rfl,rfl⟩⟩,by simp[Value.ownBlock],hL1,HQ.out⟩
  case round=>
   obtain⟨j,hj,rfl,hg,ho,hul,hlL,q0,q1,z⟩:=hrel
   have HO:=Lib.hid ho
   clear ho
   by_cases hlt:j<xs.length
   ·obtain rfl:=HA.out (by omega)
    obtain⟨c0,c1⟩:=HC.out.gr hg j hlt
    have hbd:=enc_bounds hlt (fun i hi=>placesB_at HP.out i (by omega))
    have hsu:=wrP_succ xs j
    have hlen:=wrP_len (l:=xs) j hj (fun i hi=>placesB_at HP.out i (by omega))
    have hpr:prevAt xs (j+1)=xs.getD j (0,0):=rfl
    rw[getD_at hlt]at hbd hsu hpr
    rw[inP_iff]at hbd
    generalize hx:xs[j]=x at*
    generalize ha:prevAt xs j=a at*
    obtain⟨x1,x2⟩:=x
    obtain⟨a1,a2⟩:=a
    simp only at c0 c1 q0 q1 hbd hpr
    have HSU:=Lib.hid hsu
    have HPR:=Lib.hid hpr
    have hup:u4.ownBlock≠some wr.heap.size:=fun h=>Nat.lt_irrefl _ (ownBlock_lt (OwnB.row HO.out) _ h)
    have hg2:Gr wr (wr.alloc (.cells #[.int .i64 x1,.int .i64 x2] 104)):=(Gr.refl wr).alloc _
    have p0:(wr.alloc (.cells #[.int .i64 x1,.int .i64 x2] 104)).cell? ⟨wr.heap.size,0,none⟩=some (.int .i64 x1):=by rw[World.cell?_alloc_new];rfl
    have p1:(wr.alloc (.cells #[.int .i64 x1,.int .i64 x2] 104)).cell? ⟨wr.heap.size,1,none⟩=some (.int .i64 x2):=by rw[World.cell?_alloc_new];rfl
    have r0:=hg2.keeps q0
    have r1:=hg2.keeps q1
    have rz:=fun o=>(hg2.frozen o hlL).trans (z o)
    have hLP:L≠wr.heap.size:=by omega
    clear hsu hpr
    by_cases hne:x1=a1
    ·subst hne
     have hle:=hbd.2.2.2.2.2.2 rfl
     go_wp2_with fail
     refine(number_i w _ u4 (wrP xs j) ((x2-a2)*2) (by omega) (by omega) (by omega) (hg.alloc _) (ownsRow_gr (OwnB.row HO.out) hg2)).mono ?_
     rintro e w3 ⟨v3,rfl,ho3,hg3,hm3⟩
     have s0:=hm3.keeps hup p0
     have s1:=hm3.keeps hup p1
     have t0:=hm3.keeps hul r0
     have t1:=hm3.keeps hul r1
     have hv3:=(hm3.2 L (by simp;omega) hul).1
     have tz0:=((hm3.2 L (by simp;omega) hul).2 0).2.trans (rz 0)
     have tz1:=((hm3.2 L (by simp;omega) hul).2 1).2.trans (rz 1)
     have tz:=fun o=>((hm3.2 L (by simp;omega) hul).2 o).2.trans (rz o)
     have hs3:=hm3.1
     simp only[World.size_alloc]at hs3
     have H3:=Lib.hid ho3
     clear p0 p1 r0 r1 rz hm3 q0 q1 z ho3
     go_wp2_with fail
     have tw:=two_set (u:=.int .i64 x1) (v:=.int .i64 x2) t0 t1
     refine⟨⟨j+1,by omega,by go_num,(hg3.setCell (p:=⟨L,0,none⟩) hL0 _).setCell (p:=⟨L,1,none⟩) hL0 _,?_,hv3,by simp;omega,?_⟩,by simp[intOf];omega⟩
     ·rw[HSU.out]
      unfold encP
      simp only[if_true]
      rw[Int.mul_comm]at H3
      exact ownsRow_setCell_at (ownsRow_setCell_at (OwnB.row H3.out) (a:=⟨L,0,none⟩) hv3) (a:=⟨L,1,none⟩) hv3
     ·rw[HPR.out]
      exact⟨tw.1,tw.2,fun o=>by simpa using tz o⟩
    ·have hne':(x1 !=a1)=true:=by simpa using hne
     go_wp2_with fail
     refine(number_i w _ u4 (wrP xs j) ((x1-a1)*2+1) (by omega) (by omega) (by omega) (hg.alloc _) (ownsRow_gr (OwnB.row HO.out) hg2)).mono ?_
     rintro e w3 ⟨v3,rfl,ho3,hg3,hm3⟩
     have s0:=hm3.keeps hup p0
     have s1:=hm3.keeps hup p1
     have t0:=hm3.keeps hul r0
     have t1:=hm3.keeps hul r1
     have hv3:=(hm3.2 L (by simp;omega) hul).1
     have hp3:=(hm3.2 wr.heap.size (by simp) hup).1
     have tz:=fun o=>((hm3.2 L (by simp;omega) hul).2 o).2.trans (rz o)
     have hs3:=hm3.1
     simp only[World.size_alloc]at hs3
     have H3:=Lib.hid ho3
     clear p0 p1 r0 r1 rz hm3 q0 q1 z ho3
     go_wp2_with fail
     have hl1:=sevenB_len 4 ((x1-a1)*2+1).toNat (by rw[show 128^(4+1)=34359738368 by decide];omega)
     refine(number_i w _ v3 _ x2 (by omega) (by omega) (by rw[List.length_append];omega) hg3 H3.out).mono ?_
     rintro e w4 ⟨v4,rfl,ho4,hg4,hm4⟩
     have s0':=hm4.keeps hp3 s0
     have s1':=hm4.keeps hp3 s1
     have t0':=hm4.keeps hv3 t0
     have t1':=hm4.keeps hv3 t1
     have hv4:=(hm4.2 L (by omega) hv3).1
     have tz0:=((hm4.2 L (by omega) hv3).2 0).2.trans (tz 0)
     have tz1:=((hm4.2 L (by omega) hv3).2 1).2.trans (tz 1)
     have tz':=fun o=>((hm4.2 L (by omega) hv3).2 o).2.trans (tz o)
     have hs4:=hm4.1
     have H4:=Lib.hid ho4
     clear s0 s1 t0 t1 tz hm4 ho4
     go_wp2_with fail
     have tw:=two_set (u:=.int .i64 x1) (v:=.int .i64 x2) t0' t1'
     refine⟨⟨j+1,by omega,by go_num,(hg4.setCell (p:=⟨L,0,none⟩) hL0 _).setCell (p:=⟨L,1,none⟩) hL0 _,?_,hv4,by simp;omega,?_⟩,by simp[intOf];omega⟩
     ·rw[HSU.out]
      unfold encP
      simp only[if_neg hne]
      rw[Int.mul_comm,List.append_assoc]at H4
      exact ownsRow_setCell_at (ownsRow_setCell_at (OwnB.row H4.out) (a:=⟨L,0,none⟩) hv4) (a:=⟨L,1,none⟩) hv4
     ·rw[HPR.out]
      exact⟨tw.1,tw.2,fun o=>by simpa using tz' o⟩
   ·obtain rfl:j=xs.length:=by omega
    have hco:=own_string HO.out
    go_wp2_with fail
    go_ret2
    exact Ret.mk (by unfold wS wErr;rw[HP.out];rfl) hg
end
section
open Go Go.RowKit Go.Shelf
theorem grow3(w:World)(a b c:Obj):((Sort.grow w #[a,b]).alloc c).drew=Sort.grow (w.drewN 1) #[a,b,c]:=by
 rw[Sort.alloc_eq_grow,Sort.grow_grow]
 rfl
theorem or_x(b:Nat)(x y:Int)(w:World)(h0:w.cell? ⟨b,0,none⟩=some (.int .i64 x))(h1:w.cell? ⟨b,1,none⟩=some (.int .i64 y)):
  Calls Tryz.prog 124 #[.slice (some ⟨b,0,none⟩) 2 2] w fun e w'=>e=.returned (.int .i64 (orI x y))/\w'=w:=by
 go_enter Tryz.func124,Tryz.ntmps124
 go_wp2
 go_loop [8] (fun i=>i=.int .i64 0\/(i=.int .i64 1/\x=0)\/(i=.int .i64 2/\x=0/\y=0)) (fun i=>2-(intOf i).toNat)
 case atStart=>exact .inl rfl
 case round=>
  rcases hrel with rfl|⟨rfl,rfl⟩|⟨rfl,rfl,rfl⟩
  ·by_cases hx:x=0
   ·go_wp2
    exact⟨.inr (.inl ⟨rfl,hx⟩),by simp[intOf]⟩
   ·go_wp2
    go_ret
    exact⟨by unfold orI;rw[if_neg hx];rfl,rfl⟩
  ·by_cases hy:y=0
   ·go_wp2
    exact⟨.inr (.inr ⟨rfl,trivial,hy⟩),by simp[intOf]⟩
   ·go_wp2
    go_ret
    exact⟨rfl,rfl⟩
  ·go_wp2
   go_ret
   exact⟨rfl,rfl⟩
theorem compare_x(a b:GPlace)(w:World):Calls Tryz.prog 71 #[a.val,b.val] w fun e w'=>e=.returned (.int .i64 (cmpP a b))/\∃q os',w'=Sort.grow (w.drewN q) os':=by
 obtain⟨a1,a2⟩:=a
 obtain⟨b1,b2⟩:=b
 unfold GPlace.val
 go_enter Tryz.func71,Tryz.ntmps71
 go_wp2_with fail
 have hg:=((Gr.refl w).alloc (.cells #[.int .i64 a1,.int .i64 a2] 104)).alloc (.cells #[.int .i64 b1,.int .i64 b2] 104)
 have c0:((w.alloc (.cells #[.int .i64 a1,.int .i64 a2] 104)).alloc (.cells #[.int .i64 b1,.int .i64 b2] 104)).cell? ⟨w.heap.size,0,none⟩=some (.int .i64 a1):=((Gr.refl _).alloc _).keeps (by rw[World.cell?_alloc_new];rfl)
 have c1:((w.alloc (.cells #[.int .i64 a1,.int .i64 a2] 104)).alloc (.cells #[.int .i64 b1,.int .i64 b2] 104)).cell? ⟨w.heap.size,1,none⟩=some (.int .i64 a2):=((Gr.refl _).alloc _).keeps (by rw[World.cell?_alloc_new];rfl)
 have c2:((w.alloc (.cells #[.int .i64 a1,.int .i64 a2] 104)).alloc (.cells #[.int .i64 b1,.int .i64 b2] 104)).cell? ⟨w.heap.size+1,0,none⟩=some (.int .i64 b1):=by rw[<-World.size_alloc w (.cells #[.int .i64 a1,.int .i64 a2] 104),World.cell?_alloc_new];rfl
 have c3:((w.alloc (.cells #[.int .i64 a1,.int .i64 a2] 104)).alloc (.cells #[.int .i64 b1,.int .i64 b2] 104)).cell? ⟨w.heap.size+1,1,none⟩=some (.int .i64 b2):=by rw[<-World.size_alloc w (.cells #[.int .i64 a1,.int .i64 a2] 104),World.cell?_alloc_new];rfl
 have hWW:((w.alloc (.cells #[.int .i64 a1,.int .i64 a2] 104)).alloc (.cells #[.int .i64 b1,.int .i64 b2] 104))=Sort.grow w #[.cells #[.int .i64 a1,.int .i64 a2] 104,.cells #[.int .i64 b1,.int .i64 b2] 104]:=by rw[Sort.alloc_eq_grow,Sort.alloc_eq_grow,Sort.grow_grow];rfl
 generalize((w.alloc (.cells #[.int .i64 a1,.int .i64 a2] 104)).alloc (.cells #[.int .i64 b1,.int .i64 b2] 104))=W at*
 have HWW:=Lib.hid hWW
 clear hWW
 go_region_held3(fun w'=>w'.cell? ⟨w.heap.size,0,none⟩=some (.int .i64 a1)/\w'.cell? ⟨w.heap.size,1,none⟩=some (.int .i64 a2)/\w'.cell? ⟨w.heap.size+1,0,none⟩=some (.int .i64 b1)/\w'.cell? ⟨w.heap.size+1,1,none⟩=some (.int .i64 b2)/\Gr w w') (first|exact⟨c0,c1,c2,c3,hg⟩|exact⟨c0,c1,c2,c3,hg.drew⟩|exact⟨(((Gr.refl _).alloc _).drew).keeps c0,(((Gr.refl _).alloc _).drew).keeps c1,(((Gr.refl _).alloc _).drew).keeps c2,(((Gr.refl _).alloc _).drew).keeps c3,(hg.alloc _).drew⟩) (first|(go_at_call 125;refine(Tryz.cmp_Compare_int _ _ _).mono ?_;rintro e w21 ⟨rfl,rfl⟩)|(go_at_call 124;refine(or_x _ _ _ _ (by rw[World.cell?_drew,World.cell?_alloc_new];rfl) (by rw[World.cell?_drew,World.cell?_alloc_new];rfl)).mono ?_;rintro e w22 ⟨rfl,rfl⟩))
 go_wp2
 go_ret
 refine⟨rfl,1,#[.cells #[.int .i64 a1,.int .i64 a2] 104,.cells #[.int .i64 b1,.int .i64 b2] 104,.cells #[.int .i64 (Lib.compareInt a1 b1),.int .i64 (Lib.compareInt a2 b2)] 3],?_⟩
 rw[HWW.out]
 exact grow3 w _ _ _
def encP2(x:GPlace):List Value:=[.int .i64 x.1,.int .i64 x.2]
theorem cmpLays(blk off size:Nat)(w:World):CmpLays Tryz.prog 71 #[] encP2 2 cmpP blk off size w:=
 fun _ _ _ _ x y=>compare_x x y _
end
section
open Go Go.RowKit Go.Shelf Go.Lib Go.Sort
def RowP(w:World)(B:Nat)(xs:List GPlace):Prop:=
 ∀i (h:i<xs.length),(w.cell? ⟨B,i*2,none⟩=some (.int .i64 xs[i].1)/\w.frozen? ⟨B,i*2,none⟩=false)/\(w.cell? ⟨B,i*2+1,none⟩=some (.int .i64 xs[i].2)/\w.frozen? ⟨B,i*2+1,none⟩=false)
theorem row_holds{w:World}{B:Nat}{xs:List GPlace}(h:RowP w B xs):HoldsK encP2 2 w B 0 xs.toArray:=by
 intro j hj
 rw[size_flatK]at hj
 rw[get_flatK _ _ _ _ hj]
 have hi:j/2<xs.length:=by simp at hj;omega
 obtain⟨h1,h2⟩:=h (j/2) hi
 have hg:xs.toArray[j/2]! =xs[j/2]:=by simp[hi]
 rw[hg,Nat.zero_add]
 rcases Nat.mod_two_eq_zero_or_one j with e|e
 ·rw[e]
  have ej:j/2*2=j:=by omega
  rw[ej]at h1
  exact h1
 ·rw[e]
  have ej:j/2*2+1=j:=by omega
  rw[ej]at h2
  exact h2
theorem holds_row{w:World}{B:Nat}{d:Array GPlace}(h:HoldsK encP2 2 w B 0 d):RowP w B d.toList:=by
 intro i hi
 have hi':i<d.size:=by simpa using hi
 have h0:=HoldsK.cell h (i:=i) (c:=0) hi' (by omega)
 have h1:=HoldsK.cell h (i:=i) (c:=1) hi' (by omega)
 have hg:d[i]! =d[i]:=by simp[hi']
 rw[hg,Nat.zero_add,Nat.add_zero]at h0
 rw[hg,Nat.zero_add]at h1
 exact⟨h0,h1⟩
theorem heap_putRowK_other(w:World)(blk off:Nat)(d:Array GPlace)(k:Nat)(h:k≠blk):(putRowK encP2 2 w blk off d).heap[k]?=w.heap[k]?:=by
 unfold putRowK putRow mapBlock
 simp[Array.getElem?_modify,Ne.symm h]
theorem lt_cmp(a b:GPlace):ltOf cmpP a b=beforeB a b:=by
 unfold ltOf
 have h:=cmpP_before a b
 cases hb:beforeB a b
 ·rw[hb]at h
  simp only[Bool.not_false,decide_eq_true_eq]at h
  simp
  omega
 ·rw[hb]at h
  simp only[Bool.not_true,decide_eq_false_iff_not]at h
  simp
  omega
theorem swo_place:SWO (ltOf cmpP) where
 irrefl x:=by rw[lt_cmp];exact parts_place.irrefl x
 trans x y z h1 h2:=by rw[lt_cmp]at*;exact parts_place.trans x y z h1 h2
 ntrans x y z h1 h2:=by
  rw[lt_cmp]at*
  simp only[beforeB,Bool.or_eq_false_iff,Bool.and_eq_false_iff,decide_eq_false_iff_not,beq_eq_false_iff_ne]at*
  omega
theorem sort_places(xs:List GPlace)(B cap:Nat)(w:World)(h:RowP w B xs)(hB:B<w.heap.size)(hl:xs.length<=1000000):
  Calls Tryz.prog 97 #[.slice (some ⟨B,0,none⟩) xs.length cap,.func (.func 71) #[] #[]] w fun e w'=>
   e=.returned (.tuple #[])/\∃ys:List GPlace,ys.Perm xs/\Weakly beforeB ys/\RowP w' B ys/\GrX (fun i=>i=B) w w':=by
 have eg:∀args w,(callFunc 71 args).run Tryz.prog w=.ok (.enter 71 args) w:=enters_of Tryz.func71 (by kernel_rfl) rfl
 have hH:=row_holds h
 have hsz:xs.toArray.size=xs.length:=by simp
 have hcon:=AnyQ.slices_SortFunc Tryz.sortPlaces 2 Tryz.isAgg104 Tryz.sizeOf104 encP2 (fun _=>rfl) (fun x v hv=>by simp[encP2]at hv;rcases hv with rfl|rfl<;>rfl) cmpP swo_place 71 #[] B 0 cap xs.toArray w eg (cmpLays B 0 xs.toArray.size w) hH hB (by rw[hsz];omega)
 rw[hsz]at hcon
 change Calls Tryz.prog 97 _ _ _ at hcon
 refine hcon.mono ?_
 rintro e w' ⟨rfl,d',n,os,⟨hp1,_,hp2⟩,hs,rfl⟩
 have hpr:=holdsK_putRowK encP2 2 (Sort.ahead w n) B 0 xs.toArray d' (holdsK_ahead encP2 2 w n B 0 _ hH) hp1
 have hB2:B<(putRowK encP2 2 (Sort.ahead w n) B 0 d').heap.size:=by
  unfold putRowK putRow mapBlock
  simpa[Sort.ahead]using hB
 have hsz':d'.toList.length=xs.length:=by rw[Array.length_toList,hp1,hsz]
 refine⟨rfl,d'.toList,?_,?_,holds_row (holdsK_grow encP2 2 _ os B 0 d' hB2 hpr),?_⟩
 ·have e1:(d'.extract 0 xs.length)=d':=by
   apply Array.ext'
   simp only[Array.toList_extract,List.drop_zero,Nat.sub_zero]
   exact List.take_of_length_le (Nat.le_of_eq hsz')
  have e2:(xs.toArray.extract 0 xs.length)=xs.toArray:=by
   apply Array.ext'
   simp
  rw[e1,e2]at hp2
  simpa using hp2
 ·rw[Weakly,List.pairwise_iff_getElem]
  intro i j hi hj hij
  have hh:=hs i j (Nat.zero_le _) hij (by omega)
  have hi':i<d'.size:=by rw[<-Array.length_toList];exact hi
  have hj':j<d'.size:=by rw[<-Array.length_toList];exact hj
  rw[lt_cmp]at hh
  simpa[hi',hj']using hh
 ·refine⟨rfl,rfl,rfl,?_,fun k hk hkB=>?_⟩
  ·unfold sortWorldK
   simp only[Sort.grow,Array.size_append]
   have:(putRowK encP2 2 (Sort.ahead w n) B 0 d').heap.size=w.heap.size:=by
    unfold putRowK putRow mapBlock
    simp[Sort.ahead]
   omega
  ·unfold sortWorldK
   have hks:k<(putRowK encP2 2 (Sort.ahead w n) B 0 d').heap.size:=by
    unfold putRowK putRow mapBlock
    simpa[Sort.ahead]using hk
   rw[heap_grow_old _ os hks,heap_putRowK_other _ _ _ _ _ hkB]
   rfl
