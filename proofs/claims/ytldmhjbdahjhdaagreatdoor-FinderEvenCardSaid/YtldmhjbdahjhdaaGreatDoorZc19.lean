/-
  Part 19 of the proof.
-/
import Derived.Test.YtldmhjbdahjhdaaGreatDoorZc15
set_option maxRecDepth 100000
set_option maxHeartbeats 100000000
set_option linter.all false
namespace Go.Proofs.YtldmhjbdahjhdaaGreatDoor
section
open Go Go.RowKit
structure GVal where
 kind:Int
 num:Int
 text:ByteArray
def GVal.val(v:GVal):Value:=.agg #[.int .i64 v.kind,.int .i64 v.num,.string v.text]
def rightB(v:GVal):Bool:=
 (v.kind==0&&v.num==0&&v.text.data.toList.isEmpty)||(v.kind==1&&v.text.data.toList.isEmpty)||
  (v.kind==2&&v.num==0&&decide (v.text.data.toList.length<=40)&&v.text.data.toList.all (·!=0))
def cmpV(a b:GVal):Int:=if a.kind<b.kind then-1 else if b.kind<a.kind then 1 else if a.num<b.num then-1 else if b.num<a.num then 1 else Lib.compareBytes a.text.data.toList b.text.data.toList
theorem indexByte_neg(l:List UInt8)(c:UInt8):decide (Lib.indexByte l c<0)=l.all (·!=c):=by
 have hge:=Lib.indexByte_ge l c
 by_cases h:Lib.indexByte l c=-1
 ·have h1:=Lib.indexByte_none h
  rw[h]
  have:l.all (·!=c)=true:=by
   rw[List.all_eq_true]
   intro x hx
   obtain⟨k,hk⟩:=List.getElem?_of_mem hx
   rw[bne_iff_ne]
   rintro rfl
   exact h1 k hk
  rw[this];rfl
 ·obtain⟨o,ho⟩:=Int.eq_ofNat_of_zero_le (show 0<=Lib.indexByte l c by omega)
  have h1:=(Lib.indexByte_some ho).1
  rw[ho]
  have:l.all (·!=c)=false:=by
   rw[List.all_eq_false]
   exact⟨c,List.mem_of_getElem? h1,by simp⟩
  rw[this]
  simp
theorem right_t(v:GVal)(hs:v.text.size<=9223372036854775807)(w:World):Calls Tryz.prog 114 #[v.val] w (Ret w (.bool (rightB v))):=by
 obtain⟨k,n,s⟩:=v
 unfold GVal.val
 simp only at hs⊢
 go_enter Tryz.func114,Tryz.ntmps114
 go_wp2_with(go_at_call 72;refine(Tryz.strings_IndexByte _ _ _).mono ?_;rintro e w' ⟨rfl,rfl⟩)
 all_goals
  go_ret
  refine Ret.mk ?_ (by repeat(first|exact Gr.refl _|assumption|refine Gr.alloc ?_ _|refine Gr.drew ?_))
  simp only[size_data,ByteArray.toList_eq,beq_iff_eq,beq_eq_false_iff_ne,ne_eq]at*
  unfold rightB
  simp only
  generalize s.data.toList=l at*
  simp[indexByte_neg, *]
  try omega
end
section
open Go
def beN(l:List UInt8):Nat:=l.foldl (fun n c=>n*256+c.toNat) 0
def parse1:List UInt8->Option (GVal×List UInt8)
 |[]=>none
 |k::s=>
  if k=1 then some (⟨0,0,⟨#[]⟩⟩,s)
  else if k=2 then(if s.length<8 then none else some (⟨1,(beN (s.take 8):Int)-9223372036854775808,⟨#[]⟩⟩,s.drop 8))
  else if k=3 then(if s.all (·!=0)then none else if 40<(s.takeWhile (·!=0)).length then none else some (⟨2,0,⟨(s.takeWhile (·!=0)).toArray⟩⟩,s.drop ((s.takeWhile (·!=0)).length+1)))
  else none
def readF:Nat->List UInt8->Option (List GVal)
 |0,[]=>some []
 |0,_::_=>none
 |_+1,[]=>some []
 |n+1,c::s=>match parse1 (c::s)with
  |none=>none
  |some (v,r)=>(readF n r).map (v::·)
def readL(l:List UInt8):Option (List GVal):=readF l.length l
theorem parse1_lt{l r:List UInt8}{v:GVal}(h:parse1 l=some (v,r)):r.length<l.length:=by
 cases l with
 |nil=>cases h
 |cons k s=>
  rw[parse1]at h
  by_cases h1:k=1
  ·rw[if_pos h1]at h
   simp only[Option.some.injEq,Prod.mk.injEq]at h
   rw[<-h.2];simp
  rw[if_neg h1]at h
  by_cases h2:k=2
  ·rw[if_pos h2]at h
   by_cases h3:s.length<8
   ·rw[if_pos h3]at h;cases h
   ·rw[if_neg h3]at h
    simp only[Option.some.injEq,Prod.mk.injEq]at h
    rw[<-h.2];simp;omega
  rw[if_neg h2]at h
  by_cases h3:k=3
  ·rw[if_pos h3]at h
   by_cases h4:s.all (·!=0)=true
   ·rw[if_pos h4]at h;cases h
   ·rw[if_neg h4]at h
    by_cases h5:40<(s.takeWhile (·!=0)).length
    ·rw[if_pos h5]at h;cases h
    ·rw[if_neg h5]at h
     simp only[Option.some.injEq,Prod.mk.injEq]at h
     rw[<-h.2];simp;omega
  rw[if_neg h3]at h
  cases h
theorem readF_eq:∀(n m:Nat) (l:List UInt8),l.length<=n->l.length<=m->readF n l=readF m l:=by
 intro n
 induction n with
 |zero=>
  intro m l hn _
  have:l=[]:=List.eq_nil_of_length_eq_zero (by omega)
  subst this
  cases m<;>rfl
 |succ n ih=>
  intro m l hn hm
  cases l with
  |nil=>cases m<;>rfl
  |cons c s=>
   cases m with
   |zero=>simp at hm
   |succ m=>
    simp only[readF]
    cases hp:parse1 (c::s)with
    |none=>rfl
    |some p=>
     obtain⟨v,r⟩:=p
     have hlt:=parse1_lt hp
     simp only[List.length_cons]at hlt hn hm
     simp only
     rw[ih m r (by omega) (by omega)]
theorem readL_none(c:UInt8)(s:List UInt8)(h:parse1 (c::s)=none):readL (c::s)=none:=by
 unfold readL
 simp only[List.length_cons,readF,h]
theorem readL_some(c:UInt8)(s r:List UInt8)(v:GVal)(h:parse1 (c::s)=some (v,r)):readL (c::s)=(readL r).map (v::·):=by
 have hlt:=parse1_lt h
 simp only[List.length_cons]at hlt
 unfold readL
 simp only[List.length_cons,readF,h]
 rw[readF_eq s.length r.length r (by omega) (Nat.le_refl _)]
theorem index_zero(l:List UInt8):Lib.index l [0]=if l.all (·!=0)then-1 else((l.takeWhile (·!=0)).length:Int):=by
 induction l with
 |nil=>rfl
 |cons b l ih=>
  rw[Lib.index]
  by_cases hb:b=0
  ·subst hb
   simp
  ·have h1:[(0:UInt8)].isPrefixOf (b::l)=false:=by
    simp[List.isPrefixOf]
    exact fun h=>hb h.symm
   rw[h1,ih]
   have h2:(b !=0)=true:=by simpa using hb
   simp only[List.all_cons,h2,Bool.true_and,List.takeWhile_cons]
   by_cases ha:l.all (·!=0)=true
   ·simp[ha]
   ·simp only[ha]
    simp
theorem cut_none(l:List UInt8)(h:l.all (·!=0)=true):Lib.cut l [0]=(l,[],false):=by
 unfold Lib.cut
 rw[index_zero,if_pos h,if_neg (by decide)]
theorem cut_some(l:List UInt8)(h:l.all (·!=0)=false):Lib.cut l [0]=(l.takeWhile (·!=0),l.drop ((l.takeWhile (·!=0)).length+1),true):=by
 unfold Lib.cut
 rw[index_zero,h]
 simp only[Bool.false_eq_true,if_false]
 rw[if_pos (by omega),Int.toNat_natCast]
 congr 1
 exact(List.prefix_iff_eq_take.1 (List.takeWhile_prefix _)).symm
theorem tw_all(l:List UInt8):(l.takeWhile (·!=0)).all (·!=0)=true:=by
 induction l with
 |nil=>rfl
 |cons b l ih=>
  rw[List.takeWhile_cons]
  split
  ·rename_i h;rw[List.all_cons,ih,h];rfl
  ·rfl
end
section
open Go Go.RowKit
def ValsAt(w:World)(b off:Nat)(xs:List GVal):Prop:=
 ∀i (h:i<xs.length),w.cell? ⟨b,off+i*3,none⟩=some (.int .i64 xs[i].kind)/\w.cell? ⟨b,off+i*3+1,none⟩=some (.int .i64 xs[i].num)/\w.cell? ⟨b,off+i*3+2,none⟩=some (.string xs[i].text)
theorem ValsAt.gr{w w':World}{b off:Nat}{xs:List GVal}(h:ValsAt w b off xs)(g:Gr w w'):ValsAt w' b off xs:=
 fun i hi=>⟨g.keeps (h i hi).1,g.keeps (h i hi).2.1,g.keeps (h i hi).2.2⟩
def orderV:List GVal->List GVal->Int
 |[],[]=>0
 |[],_::_=>-1
 |_::_,[]=>1
 |a::x,b::y=>if cmpV a b=0 then orderV x y else cmpV a b
end
section
open Go
def be8(m:Nat):List UInt8:=[(m/72057594037927936).toUInt8,(m/281474976710656).toUInt8,(m/1099511627776).toUInt8,(m/4294967296).toUInt8,(m/16777216).toUInt8,(m/65536).toUInt8,(m/256).toUInt8,(m/1).toUInt8]
theorem be8_length(m:Nat):(be8 m).length=8:=rfl
def keyV(v:GVal):List UInt8:=if v.kind=1 then 2::be8 (v.num+9223372036854775808).toNat else if v.kind=2 then 3::(v.text.data.toList++[0])else[1]
def keyL(xs:List GVal):List UInt8:=xs.flatMap keyV
def firstBad:List GVal->Option Nat
 |[]=>none
 |v::xs=>if rightB v then(firstBad xs).map (·+1)else some 0
theorem right_kinds(v:GVal)(h:rightB v=true):v.kind=0\/v.kind=1\/v.kind=2:=by
 unfold rightB at h
 simp only[Bool.or_eq_true,Bool.and_eq_true,beq_iff_eq]at h
 omega
def FineV(v:GVal):Prop:=rightB v=true/\-9223372036854775808<=v.num/\v.num<=9223372036854775807
theorem text_nil{s:ByteArray}(h:s.data.toList=[]):s=⟨#[]⟩:=by
 cases s;simp only[ByteArray.mk.injEq];exact Array.ext' h
theorem fine_cases(v:GVal)(h:FineV v):v=⟨0,0,⟨#[]⟩⟩\/(∃n:Int,v=⟨1,n,⟨#[]⟩⟩/\-9223372036854775808<=n/\n<=9223372036854775807)\/(∃s:ByteArray,v=⟨2,0,s⟩/\s.data.toList.all (·!=0)=true/\s.data.toList.length<=40):=by
 obtain⟨k,n,s⟩:=v
 obtain⟨h,h1,h2⟩:=h
 unfold rightB at h
 simp only[Bool.or_eq_true,Bool.and_eq_true,beq_iff_eq,decide_eq_true_eq,List.isEmpty_iff]at h
 rcases h with(⟨⟨rfl,rfl⟩,h⟩|⟨rfl,h⟩)|⟨⟨⟨rfl,rfl⟩,h⟩,h3⟩
 ·left;rw[text_nil h]
 ·right;left;exact⟨n,by rw[text_nil h],h1,h2⟩
 ·right;right;exact⟨s,rfl,h3,h⟩
theorem beN_be8(m:Nat)(h:m<18446744073709551616):beN (be8 m)=m:=by
 unfold beN be8
 simp only[List.foldl_cons,List.foldl_nil,Nat.toUInt8,UInt8.toNat_ofNat']
 omega
theorem takeWhile_stop(x rest:List UInt8)(h:x.all (·!=0)=true):(x++0::rest).takeWhile (·!=0)=x:=by
 induction x with
 |nil=>rfl
 |cons c x ih=>
  simp only[List.all_cons,Bool.and_eq_true]at h
  rw[List.cons_append,List.takeWhile_cons,if_pos h.1,ih h.2]
theorem parse_key(v:GVal)(rest:List UInt8)(h:FineV v):parse1 (keyV v++rest)=some (v,rest):=by
 rcases fine_cases v h with rfl|⟨n,rfl,h1,h2⟩|⟨s,rfl,hz,hl⟩
 ·rfl
 ·have hk:keyV ⟨1,n,⟨#[]⟩⟩=2::be8 (n+9223372036854775808).toNat:=rfl
  rw[hk,List.cons_append,parse1,if_neg (by decide),if_pos rfl,if_neg (by rw[List.length_append,be8_length];omega),
   List.take_append_of_le_length (by rw[be8_length];omega),List.take_of_length_le (by rw[be8_length];omega),beN_be8 _ (by omega),List.drop_append_of_le_length (by rw[be8_length];omega),
   List.drop_eq_nil_of_le (by rw[be8_length];omega),List.nil_append]
  have e:(((n+9223372036854775808).toNat:Nat):Int)-9223372036854775808=n:=by omega
  rw[e]
 ·have hk:keyV ⟨2,0,s⟩=3::(s.data.toList++[0]):=rfl
  have ha:((s.data.toList++[0])++rest).all (·!=0)=false:=by simp
  have hw:((s.data.toList++[0])++rest).takeWhile (·!=0)=s.data.toList:=by
   rw[List.append_assoc];exact takeWhile_stop _ _ hz
  rw[hk,List.cons_append,parse1,if_neg (by decide),if_neg (by decide),if_pos rfl,if_neg (by rw[ha];decide),hw,if_neg (by omega)]
  have hd:((s.data.toList++[0])++rest).drop (s.data.toList.length+1)=rest:=by
   rw[List.drop_append_of_le_length (by simp),List.drop_eq_nil_of_le (by simp),List.nil_append]
  rw[hd]
theorem keyV_cons(v:GVal):∃c l,keyV v=c::l:=by
 unfold keyV
 split
 ·exact⟨_,_,rfl⟩
 ·split
  ·exact⟨_,_,rfl⟩
  ·exact⟨_,_,rfl⟩
theorem read_key(xs:List GVal)(h:∀v∈xs,FineV v):readL (keyL xs)=some xs:=by
 induction xs with
 |nil=>rfl
 |cons v xs ih=>
  have hv:=h v List.mem_cons_self
  have hp:=parse_key v (keyL xs) hv
  have e:keyL (v::xs)=keyV v++keyL xs:=rfl
  obtain⟨c,l,hc⟩:=keyV_cons v
  rw[hc,List.cons_append]at hp
  rw[e,hc,List.cons_append,readL_some _ _ _ _ hp,ih (fun u hu=>h u (List.mem_cons_of_mem _ hu))]
  rfl
theorem beN_cons(c:UInt8)(l:List UInt8):beN (c::l)=c.toNat*256^l.length+beN l:=by
 have:∀(l:List UInt8) (n:Nat),l.foldl (fun n c=>n*256+c.toNat) n=n*256^l.length+beN l:=by
  intro l
  induction l with
  |nil=>intro n;simp[beN]
  |cons d l ih=>
   intro n
   rw[List.foldl_cons,ih,List.length_cons,Nat.pow_succ',show beN (d::l)=l.foldl (fun n c=>n*256+c.toNat) (0*256+d.toNat)from rfl,ih]
   simp only[Nat.zero_mul,Nat.zero_add]
   rw[Nat.add_mul,Nat.mul_assoc]
   omega
 have h:=this l c.toNat
 show l.foldl (fun n c=>n*256+c.toNat) (0*256+c.toNat)=_
 rw[Nat.zero_mul,Nat.zero_add]
 exact h
theorem beN_bound(l:List UInt8):beN l<256^l.length:=by
 induction l with
 |nil=>simp[beN]
 |cons c l ih=>
  rw[beN_cons,List.length_cons,Nat.pow_succ']
  have hc:=UInt8.toNat_lt c
  have:(c.toNat+1)*256^l.length<=256*256^l.length:=Nat.mul_le_mul_right _ (by omega)
  rw[Nat.add_mul]at this
  omega
theorem cmp_fixed:∀(a b s t:List UInt8),a.length=b.length->Lib.compareBytes (a++s) (b++t)=if beN a<beN b then-1 else if beN b<beN a then 1 else Lib.compareBytes s t:=by
 intro a
 induction a with
 |nil=>
  intro b s t h
  have:b=[]:=List.eq_nil_of_length_eq_zero h.symm
  subst this
  simp[beN]
 |cons x a ih=>
  intro b s t h
  cases b with
  |nil=>simp at h
  |cons y b=>
   have hl:a.length=b.length:=by simpa using h
   simp only[List.cons_append,Lib.compareBytes]
   have h1:=beN_bound a
   have h2:=beN_bound b
   rw[beN_cons,beN_cons,<-hl]
   rw[<-hl]at h2
   by_cases hxy:x<y
   ·have hn:x.toNat+1<=y.toNat:=UInt8.lt_iff_toNat_lt.1 hxy
    have:=Nat.mul_le_mul_right (256^a.length) hn
    rw[Nat.add_mul]at this
    rw[if_pos hxy,if_pos (by omega)]
   ·rw[if_neg hxy]
    by_cases hyx:y<x
    ·have hn:y.toNat+1<=x.toNat:=UInt8.lt_iff_toNat_lt.1 hyx
     have:=Nat.mul_le_mul_right (256^a.length) hn
     rw[Nat.add_mul]at this
     rw[if_pos hyx,if_neg (by omega),if_pos (by omega)]
    ·have e:x=y:=UInt8.le_antisymm (UInt8.not_lt.1 hyx) (UInt8.not_lt.1 hxy)
     subst e
     rw[if_neg hyx,ih b s t hl]
     simp only[Nat.add_lt_add_iff_left]
theorem cmp_text:∀(x y s t:List UInt8),x.all (·!=0)=true->y.all (·!=0)=true->Lib.compareBytes (x++0::s) (y++0::t)=if Lib.compareBytes x y=0 then Lib.compareBytes s t else Lib.compareBytes x y:=by
 intro x
 induction x with
 |nil=>
  intro y s t _ hy
  cases y with
  |nil=>simp[Lib.compareBytes]
  |cons c y=>
   simp only[List.all_cons,Bool.and_eq_true,bne_iff_ne]at hy
   have:(0:UInt8)<c:=by
    rw[UInt8.lt_iff_toNat_lt]
    have:c.toNat≠0:=fun h=>hy.1 (UInt8.toNat_inj.1 (by simpa using h))
    simp;omega
   simp[Lib.compareBytes,this]
 |cons d x ih=>
  intro y s t hx hy
  simp only[List.all_cons,Bool.and_eq_true,bne_iff_ne]at hx
  cases y with
  |nil=>
   have:(0:UInt8)<d:=by
    rw[UInt8.lt_iff_toNat_lt]
    have:d.toNat≠0:=fun h=>hx.1 (UInt8.toNat_inj.1 (by simpa using h))
    simp;omega
   have h2:¬d<0:=fun h=>UInt8.lt_irrefl _ (UInt8.lt_trans h this)
   simp[Lib.compareBytes,this,h2]
  |cons c y=>
   simp only[List.all_cons,Bool.and_eq_true,bne_iff_ne]at hy
   simp only[List.cons_append,Lib.compareBytes]
   by_cases h1:d<c
   ·simp[h1]
   ·by_cases h2:c<d
    ·simp[h1,h2]
    ·simp only[h1,h2,if_false]
     exact ih y s t hx.2 hy.2
theorem key_cmp(v u:GVal)(s t:List UInt8)(hv:FineV v)(hu:FineV u):Lib.compareBytes (keyV v++s) (keyV u++t)=if cmpV v u=0 then Lib.compareBytes s t else cmpV v u:=by
 have k1:∀n,keyV ⟨1,n,⟨#[]⟩⟩=2::be8 (n+9223372036854775808).toNat:=fun _=>rfl
 have k2:∀s,keyV ⟨2,0,s⟩=3::(s.data.toList++[0]):=fun _=>rfl
 have k0:keyV ⟨0,0,⟨#[]⟩⟩=[1]:=rfl
 have l12:Lib.compareBytes=Lib.compareBytes:=rfl
 have step:∀(c:UInt8) (a b:List UInt8),Lib.compareBytes (c::a) (c::b)=Lib.compareBytes a b:=fun c a b=>by simp[Lib.compareBytes]
 have less:∀(c d:UInt8) (a b:List UInt8),c<d->Lib.compareBytes (c::a) (d::b)=-1:=fun c d a b h=>by simp[Lib.compareBytes,h]
 have more:∀(c d:UInt8) (a b:List UInt8),d<c->Lib.compareBytes (c::a) (d::b)=1:=fun c d a b h=>by
  have:¬c<d:=fun h2=>UInt8.lt_irrefl _ (UInt8.lt_trans h h2)
  simp[Lib.compareBytes,h,this]
 rcases fine_cases v hv with rfl|⟨n,rfl,h1,h2⟩|⟨x,rfl,hx,_⟩<;>rcases fine_cases u hu with rfl|⟨m,rfl,g1,g2⟩|⟨y,rfl,hy,_⟩
 ·rw[k0];simp[step,cmpV,Lib.compareBytes]
 ·rw[k0,k1,List.cons_append,List.cons_append,less _ _ _ _ (by decide)];rfl
 ·rw[k0,k2,List.cons_append,List.cons_append,less _ _ _ _ (by decide)];rfl
 ·rw[k0,k1,List.cons_append,List.cons_append,more _ _ _ _ (by decide)];rfl
 ·rw[k1,k1,List.cons_append,List.cons_append,step,cmp_fixed (be8 (n+9223372036854775808).toNat) (be8 (m+9223372036854775808).toNat) _ _ (by rw[be8_length,be8_length]),beN_be8 _ (by omega),beN_be8 _ (by omega)]
  have hc:cmpV ⟨1,n,⟨#[]⟩⟩ ⟨1,m,⟨#[]⟩⟩=if n<m then-1 else if m<n then 1 else 0:=by
   unfold cmpV;simp[Lib.compareBytes]
  rw[hc]
  by_cases c1:n<m
  ·rw[if_pos (by omega),if_pos c1];rfl
  ·rw[if_neg (by omega),if_neg c1]
   by_cases c2:m<n
   ·rw[if_pos (by omega),if_pos c2];rfl
   ·rw[if_neg (by omega),if_neg c2];rfl
 ·rw[k1,k2,List.cons_append,List.cons_append,less _ _ _ _ (by decide)];rfl
 ·rw[k0,k2,List.cons_append,List.cons_append,more _ _ _ _ (by decide)];rfl
 ·rw[k1,k2,List.cons_append,List.cons_append,more _ _ _ _ (by decide)];rfl
 ·rw[k2,k2,List.cons_append,List.cons_append,step,List.append_assoc,List.append_assoc]
  have hc:cmpV ⟨2,0,x⟩ ⟨2,0,y⟩=Lib.compareBytes x.data.toList y.data.toList:=by
   unfold cmpV;simp
  rw[hc]
  exact cmp_text _ _ _ _ hx hy
theorem key_order:∀(a b:List GVal),(∀v∈a,FineV v)->(∀v∈b,FineV v)->Lib.compareBytes (keyL a) (keyL b)=orderV a b:=by
 intro a
 induction a with
 |nil=>
  intro b _ _
  cases b with
  |nil=>rfl
  |cons u b=>
   obtain⟨c,l,hc⟩:=keyV_cons u
   rw[show keyL (u::b)=keyV u++keyL b from rfl,hc]
   rfl
 |cons v a ih=>
  intro b ha hb
  cases b with
  |nil=>
   obtain⟨c,l,hc⟩:=keyV_cons v
   rw[show keyL (v::a)=keyV v++keyL a from rfl,hc]
   rfl
  |cons u b=>
   rw[show keyL (v::a)=keyV v++keyL a from rfl,show keyL (u::b)=keyV u++keyL b from rfl,key_cmp v u _ _ (ha v List.mem_cons_self) (hb u List.mem_cons_self),
    ih b (fun x hx=>ha x (List.mem_cons_of_mem _ hx)) (fun x hx=>hb x (List.mem_cons_of_mem _ hx))]
   rfl
end
section
open Go Go.RowKit
theorem big_round{a0 w4:World}{v4:Value}{l:List UInt8}{m k:Nat}{q:Int}{c:UInt8}(hc:(be8 m)[k]?=some c)(hq:q=(c.toNat:Int))
  (h:w4.ownsRow a0.heap.size 5 1 v4 ((l++(be8 m).take k).length+1) ((l++(be8 m).take k).map byteV++[.int .u8 q])):OwnB a0 w4 v4 (l++(be8 m).take (k+1)):=by
 obtain⟨hk,he⟩:=List.getElem?_eq_some_iff.1 hc
 have e:l++(be8 m).take (k+1)=(l++(be8 m).take k)++[c]:=by rw[List.take_succ_eq_append_getElem hk,he,List.append_assoc]
 unfold OwnB
 rw[e,List.length_append,List.map_append]
 have e2:[c].map byteV=[Value.int .u8 q]:=by rw[hq];rfl
 rw[e2]
 exact h
theorem big_t(a0 w:World)(v:Value)(l:List UInt8)(n:Int)(hn:-9223372036854775808<=n/\n<=9223372036854775807)(hl:l.length<=100000000000)(hg:Gr a0 w)(ho:OwnB a0 w v l):
  Calls Tryz.prog 115 #[v,.int .i64 n] w fun e w'=>∃v',e=.returned v'/\OwnB a0 w' v' (l++be8 (n+9223372036854775808).toNat)/\Gr a0 w':=by
 obtain⟨i0,hi,hz0,hz1,hz2⟩:=info_parts info_u8
 go_enter Tryz.func115,Tryz.ntmps115
 go_wp2_with fail
 have hbt:=bits_top n hn.1 hn.2
 rw[hbt]
 clear hbt
 have hm:(n+9223372036854775808).toNat<18446744073709551616:=by omega
 generalize hmm:(n+9223372036854775808).toNat=m at*
 have HMM:=Lib.hid hmm
 clear hmm
 have HO:Hid (∃k:Nat,k<=8/\(7:Int)=7-(k:Int)/\OwnB a0 w v (l++(be8 m).take k)):=Lib.hid ⟨0,by omega,by omega,by simpa using ho⟩
 clear ho
 have HM:=Lib.hid hm
 clear hm
 go_loopw [6,0] (fun i u w'=>∃k:Nat,k<=8/\i=.int .i64 (7-(k:Int))/\Gr a0 w'/\OwnB a0 w' u (l++(be8 m).take k)) (fun i _ _=>(intOf i+1).toNat)
 case atStart=>
  obtain⟨k,hk,he,ho⟩:=HO.out
  exact⟨k,hk,by rw[<-he],hg,ho⟩
 case round=>
  obtain⟨k,hk,rfl,hg,ho⟩:=hrel
  have HOO:=Lib.hid ho
  clear ho
  have hcs:k=0\/k=1\/k=2\/k=3\/k=4\/k=5\/k=6\/k=7\/k=8:=by omega
  rcases hcs with rfl|rfl|rfl|rfl|rfl|rfl|rfl|rfl|rfl
  all_goals try clear hcs
  rotate_right
  ·go_wp2_with fail
   go_ret
   refine⟨_,rfl,?_,hg⟩
   have h8:=HOO.out
   rw[List.take_of_length_le (by rw[be8_length];omega),<-HMM.out]at h8
   exact h8
  all_goals
   go_wp2_with(at_builtin;(refine append_one (a0:=a0) rfl _ _ 188 rfl 5 i0 (.int .u8 0) 1 1 Tryz.underlying188 hi hz0 hz1 hz2 rfl (by decide) _ _ _ rfl (OwnB.row HOO.out) [_] rfl (by simp;rfl) rfl hg (by simp;omega) (by simp;omega) ?_);intro v4 w4 hown4 hg4)
   refine⟨⟨_+1,?_,?_,hg4,big_round rfl ?_ hown4⟩,?_⟩
  all_goals first|omega|(simp[intOf];done)|exact u8_div m _|(simp;done)
def KeyPost(w:World)(xs:List GVal)(e:Ending)(w':World):Prop:=
 match firstBad xs with
 |none=>e=.returned (.tuple #[.string ⟨(keyL xs).toArray⟩,.nilIface])/\Gr w w'
 |some i=>∃b,e=.returned (.tuple #[.string ⟨#[]⟩,.iface 190 (.pointer (some ⟨b,0,none⟩))])/\w.heap.size<=b/\w'.cell? ⟨b,0,none⟩=some (.int .i64 1)/\w'.cell? ⟨b,1,none⟩=some (.int .i64 (i:Int))/\Gr w w'
theorem firstBad_at(xs:List GVal)(j:Nat)(h:j<xs.length)(h0:firstBad (xs.take j)=none)(hb:rightB xs[j]=false):firstBad xs=some j:=by
 induction xs generalizing j with
 |nil=>simp at h
 |cons v xs ih=>
  cases j with
  |zero=>
   simp only[List.getElem_cons_zero]at hb
   rw[firstBad,if_neg (by rw[hb];decide)]
  |succ j=>
   rw[List.take_succ_cons,firstBad]at h0
   by_cases hv:rightB v=true
   ·rw[if_pos hv]at h0
    rw[firstBad,if_pos hv,ih j (by simpa using h) (by simpa using h0) (by simpa using hb)]
    rfl
   ·rw[if_neg hv]at h0
    cases h0
theorem firstBad_succ(xs:List GVal)(j:Nat)(h:j<xs.length)(h0:firstBad (xs.take j)=none)(hb:rightB xs[j]=true):firstBad (xs.take (j+1))=none:=by
 induction xs generalizing j with
 |nil=>simp at h
 |cons v xs ih=>
  cases j with
  |zero=>
   simp only[List.getElem_cons_zero]at hb
   simp[firstBad,hb]
  |succ j=>
   rw[List.take_succ_cons,firstBad]at h0⊢
   by_cases hv:rightB v=true
   ·rw[if_pos hv]at h0⊢
    rw[ih j (by simpa using h) (by simpa using h0) (by simpa using hb)]
    rfl
   ·rw[if_neg hv]at h0
    cases h0
theorem keyL_succ(xs:List GVal)(j:Nat)(h:j<xs.length):keyL (xs.take (j+1))=keyL (xs.take j)++keyV xs[j]:=by
 unfold keyL
 rw[List.take_succ_eq_append_getElem h,List.flatMap_append]
 simp
theorem keyL_len(xs:List GVal)(j:Nat)(h:∀i (hi:i<xs.length),xs[i].text.size<=1000000):(keyL (xs.take j)).length<=xs.length*1000009:=by
 have:∀(l:List GVal),(∀v∈l,v.text.size<=1000000)->(keyL l).length<=l.length*1000009:=by
  intro l
  induction l with
  |nil=>intro _;simp[keyL]
  |cons v l ih=>
   intro hv
   have h1:=ih (fun u hu=>hv u (List.mem_cons_of_mem _ hu))
   have h2:=hv v List.mem_cons_self
   have h3:(keyV v).length<=1000009:=by
    unfold keyV
    have h4:=h2
    rw[size_data]at h4
    split
    ·simp[be8_length]
    ·split<;>simp<;>omega
   unfold keyL at h1⊢
   rw[List.flatMap_cons,List.length_append,List.length_cons]
   omega
 have h1:=this (xs.take j) (fun v hv=>by
  obtain⟨i,hi,rfl⟩:=List.getElem_of_mem (List.mem_of_mem_take hv)
  exact h i hi)
 have h2:(xs.take j).length<=xs.length:=List.length_take_le' _ _
 exact Nat.le_trans h1 (Nat.mul_le_mul_right 1000009 h2)
theorem key_t(xs:List GVal)(b off c:Nat)(ao:Option Addr)(hao:0<xs.length->ao=some ⟨b,off,none⟩)(hl:xs.length<=1000)(hr:∀i (h:i<xs.length),(-9223372036854775808<=xs[i].num/\xs[i].num<=9223372036854775807)/\xs[i].text.size<=1000000)(w:World)(hc:ValsAt w b off xs):
  Calls Tryz.prog 63 #[.slice ao xs.length c] w (KeyPost w xs):=by
 obtain⟨i0,hi,hz0,hz1,hz2⟩:=info_parts info_u8
 have HC:=Lib.hid hc
 have HA:=Lib.hid hao
 have HR:=Lib.hid hr
 clear hc hao hr
 go_enter Tryz.func63,Tryz.ntmps63
 go_wp2_with fail
 go_loopw [9,4] (fun i u w'=>∃j:Nat,j<=xs.length/\i=.int .i64 j/\Gr w w'/\firstBad (xs.take j)=none/\OwnB w w' u (keyL (xs.take j))) (fun i _ _=>xs.length-(intOf i).toNat)
 case atStart=>exact⟨0,Nat.zero_le _,rfl,Gr.refl _,rfl,⟨rfl,.inl ⟨rfl,rfl⟩⟩⟩
 case round=>
  obtain⟨j,hj,rfl,hg,hfb,ho⟩:=hrel
  have HO:=Lib.hid ho
  have HF:=Lib.hid hfb
  clear ho hfb
  by_cases hlt:j<xs.length
  ·obtain rfl:=HA.out (by omega)
   have hv:=HC.out.gr hg j hlt
   obtain⟨c0,c1,c2⟩:=hv
   have hrt:=(HR.out j hlt).2
   generalize hxj:xs[j]=x at*
   have HX:=Lib.hid hxj
   clear hxj
   cases hrb:rightB x
   ·have HB:=Lib.hid hrb
    clear hrb
    go_wp2_with(go_at_call 114;refine(right_t x (by omega) _).mono ?_;rintro e w1 ⟨rfl,hg1⟩;rw[HB.out])
    have hfb:=firstBad_at xs j hlt HF.out (by rw[HX.out];exact HB.out)
    refine bodyPost_ret (v:=.tuple #[.string ⟨#[]⟩,.iface 190 (.pointer (some ⟨w1.heap.size,0,none⟩))]) (by simp[results,Tryz.results63,go_sem]) rfl ?_
    unfold KeyPost
    rw[hfb]
    have hgw:=(hg.alloc _).trans hg1
    exact⟨_,rfl,hgw.size,by rw[World.cell?_alloc_new];rfl,by rw[World.cell?_alloc_new];rfl,hgw.alloc _⟩
   ·have HB:=Lib.hid hrb
    have hkn:=right_kinds x hrb
    have HFS:=Lib.hid (firstBad_succ xs j hlt HF.out (by rw[HX.out];exact hrb))
    have hks:=keyL_succ xs j hlt
    rw[HX.out]at hks
    have HKS:=Lib.hid hks
    have hkl:=keyL_len xs j (fun i h=>(HR.out i h).2)
    have hnb:¬u4.ownBlock=some wr.heap.size:=fun h=>Nat.lt_irrefl _ (ownBlock_lt (OwnB.row HO.out) _ h)
    have hn':=(HR.out j hlt).1
    rw[HX.out]at hn'
    have hrt':x.text.size<=9223372036854775807:=by omega
    clear hrb hks
    obtain⟨kx,nx,sx⟩:=x
    simp only at c0 c1 c2 hrt hkn hn' hrt'
    rcases hkn with rfl|rfl|rfl
    ·go_wp2_with fail
     refine(right_t ⟨0,nx,sx⟩ hrt' _).mono ?_
     rintro e w1 ⟨rfl,hg1⟩
     rw[HB.out]
     have k0:=hg1.keeps (b:=wr.heap.size) (o:=0) (v:=.int .i64 0) (by rw[World.cell?_alloc_new];rfl)
     have k1:=hg1.keeps (b:=wr.heap.size) (o:=1) (v:=.int .i64 nx) (by rw[World.cell?_alloc_new];rfl)
     have k2:=hg1.keeps (b:=wr.heap.size) (o:=2) (v:=.string sx) (by rw[World.cell?_alloc_new];rfl)
     have hs1:=hg1.size
     have ho1:=ownsRow_gr (OwnB.row HO.out) (((Gr.refl _).alloc _).trans hg1)
     have hgw:=(hg.alloc _).trans hg1
     simp only[World.size_alloc]at hs1
     go_wp2_with(first|(at_builtin;refine append_keep (a0:=w) rfl _ _ 188 rfl 5 i0 (.int .u8 0) 1 1 Tryz.underlying188 hi hz0 hz1 hz2 rfl (by decide) _ _ _ rfl ho1 [_] rfl (by simp;rfl) rfl hgw (by omega) (by omega) ?_;intro v3 w3 hown3 hg3 hkb;have m0:=(hkb wr.heap.size 0 (by omega) hnb).1.trans k0;have m1:=(hkb wr.heap.size 1 (by omega) hnb).1.trans k1;have m2:=(hkb wr.heap.size 2 (by omega) hnb).1.trans k2;clear k0 k1 k2;have H3:Hid (OwnB w w3 v3 (keyL (xs.take j)++[1])):=Lib.hid (own_snoc hown3);clear hown3;have HL3:Hid ((keyL (xs.take j)++[(1:UInt8)]).length=(keyL (xs.take j)).length+1):=Lib.hid (by rw[List.length_append];rfl)))
     refine⟨⟨j+1,by omega,by go_num,hg3,HFS.out,?_⟩,by simp[intOf];omega⟩
     rw[HKS.out]
     exact H3.out
    ·go_wp2_with fail
     refine(right_t ⟨1,nx,sx⟩ hrt' _).mono ?_
     rintro e w1 ⟨rfl,hg1⟩
     rw[HB.out]
     have k0:=hg1.keeps (b:=wr.heap.size) (o:=0) (v:=.int .i64 1) (by rw[World.cell?_alloc_new];rfl)
     have k1:=hg1.keeps (b:=wr.heap.size) (o:=1) (v:=.int .i64 nx) (by rw[World.cell?_alloc_new];rfl)
     have k2:=hg1.keeps (b:=wr.heap.size) (o:=2) (v:=.string sx) (by rw[World.cell?_alloc_new];rfl)
     have hs1:=hg1.size
     have ho1:=ownsRow_gr (OwnB.row HO.out) (((Gr.refl _).alloc _).trans hg1)
     have hgw:=(hg.alloc _).trans hg1
     simp only[World.size_alloc]at hs1
     go_wp2_with(first|(at_builtin;refine append_keep (a0:=w) rfl _ _ 188 rfl 5 i0 (.int .u8 0) 1 1 Tryz.underlying188 hi hz0 hz1 hz2 rfl (by decide) _ _ _ rfl ho1 [_] rfl (by simp;rfl) rfl hgw (by omega) (by omega) ?_;intro v3 w3 hown3 hg3 hkb;have m0:=(hkb wr.heap.size 0 (by omega) hnb).1.trans k0;have m1:=(hkb wr.heap.size 1 (by omega) hnb).1.trans k1;have m2:=(hkb wr.heap.size 2 (by omega) hnb).1.trans k2;clear k0 k1 k2;have H3:Hid (OwnB w w3 v3 (keyL (xs.take j)++[2])):=Lib.hid (own_snoc hown3);clear hown3;have HL3:Hid ((keyL (xs.take j)++[(2:UInt8)]).length=(keyL (xs.take j)).length+1):=Lib.hid (by rw[List.length_append];rfl))|(go_at_call 115;refine(big_t w w3 v3 _ nx hn' (by rw[HL3.out];omega) hg3 H3.out).mono ?_;rintro e w4 ⟨v4,rfl,ho4,hg4⟩;have H4:=Lib.hid ho4;clear ho4))
     refine⟨⟨j+1,by omega,by go_num,hg4,HFS.out,?_⟩,by simp[intOf];omega⟩
     rw[HKS.out]
     have h4:=H4.out
     rw[List.append_assoc]at h4
     exact h4
    ·go_wp2_with fail
     refine(right_t ⟨2,nx,sx⟩ hrt' _).mono ?_
     rintro e w1 ⟨rfl,hg1⟩
     rw[HB.out]
     have k0:=hg1.keeps (b:=wr.heap.size) (o:=0) (v:=.int .i64 2) (by rw[World.cell?_alloc_new];rfl)
     have k1:=hg1.keeps (b:=wr.heap.size) (o:=1) (v:=.int .i64 nx) (by rw[World.cell?_alloc_new];rfl)
     have k2:=hg1.keeps (b:=wr.heap.size) (o:=2) (v:=.string sx) (by rw[World.cell?_alloc_new];rfl)
     have hs1:=hg1.size
     have ho1:=ownsRow_gr (OwnB.row HO.out) (((Gr.refl _).alloc _).trans hg1)
     have hgw:=(hg.alloc _).trans hg1
     simp only[World.size_alloc]at hs1
     go_wp2_with(first|(at_builtin;refine append_keep (a0:=w) rfl _ _ 188 rfl 5 i0 (.int .u8 0) 1 1 Tryz.underlying188 hi hz0 hz1 hz2 rfl (by decide) _ _ _ rfl ho1 [_] rfl (by simp;rfl) rfl hgw (by omega) (by omega) ?_;intro v3 w3 hown3 hg3 hkb;have m0:=(hkb wr.heap.size 0 (by omega) hnb).1.trans k0;have m1:=(hkb wr.heap.size 1 (by omega) hnb).1.trans k1;have m2:=(hkb wr.heap.size 2 (by omega) hnb).1.trans k2;clear k0 k1 k2;have H3:Hid (OwnB w w3 v3 (keyL (xs.take j)++[3])):=Lib.hid (own_snoc hown3);clear hown3;have HL3:Hid ((keyL (xs.take j)++[(3:UInt8)]).length=(keyL (xs.take j)).length+1):=Lib.hid (by rw[List.length_append];rfl))|(at_builtin;refine append_text (a0:=w) rfl _ _ 188 9 rfl 5 i0 Tryz.underlying188 Tryz.underlying9 hi hz0 hz1 hz2 _ _ _ rfl (OwnB.row H3.out) sx rfl hg3 (by rw[HL3.out];omega) ?_;intro v4 w4 hown4 hg4 hkb4)|(at_builtin;refine append_keep (a0:=w) rfl _ _ 188 rfl 5 i0 (.int .u8 0) 1 1 Tryz.underlying188 hi hz0 hz1 hz2 rfl (by decide) _ _ _ rfl hown4 [_] rfl (by simp;rfl) rfl hg4 (by rw[HL3.out];omega) (by rw[HL3.out];omega) ?_;intro v5 w5 hown5 hg5 hkb5))
     refine⟨⟨j+1,by omega,by go_num,hg5,HFS.out,?_⟩,by simp[intOf];omega⟩
     rw[HKS.out]
     have h5:OwnB w w5 v5 ((keyL (xs.take j)++[3])++sx.data.toList++[0]):=by
      unfold OwnB
      rw[List.length_append,List.map_append,List.length_append,List.map_append,<-size_data]
      exact hown5
     rw[List.append_assoc,List.append_assoc]at h5
     exact h5
  ·have hco:=own_string HO.out
   go_wp2_with fail
   refine bodyPost_ret (v:=.tuple #[.string ⟨(keyL (xs.take j)).toArray⟩,.nilIface]) (by simp[results,Tryz.results63,go_sem]) rfl ?_
   have e:xs.take j=xs:=List.take_of_length_le (by omega)
   have hfb:=HF.out
   rw[e]at hfb
   rw[e]
   unfold KeyPost
   rw[hfb]
   exact⟨rfl,hg⟩
def OwnV(a0 w:World)(v:Value)(xs:List GVal):Prop:=w.ownsRow a0.heap.size 132 3 v xs.length (xs.flatMap fun x=>[.int .i64 x.kind,.int .i64 x.num,.string x.text])
def ReadPost(w:World)(l:List UInt8)(e:Ending)(w':World):Prop:=
 match readL l with
 |none=>e=.returned (.tuple #[.slice none 0 0,.iface 24 (.int .i64 3)])/\Gr w w'
 |some xs=>∃v,e=.returned (.tuple #[v,.nilIface])/\OwnV w w' v xs/\Gr w w'
theorem info_val:(Tryz.prog.info? 132).map (fun i=>(i.zero,i.size,i.bytes))=some (some (.agg #[.int .i64 0,.int .i64 0,.string ⟨#[]⟩]),3,32):=by kernel_rfl
def MaxAt(w:World):Prop:=∃m:Int,w.cell? ⟨2,0,none⟩=some (.int .i64 m)
theorem MaxAt.gr{w w':World}(h:MaxAt w)(g:Gr w w'):MaxAt w':=by
 obtain⟨m,h⟩:=h
 exact⟨m,g.keeps h⟩
theorem strings_Cut_gr(s sep:ByteArray)(w:World)(hs:s.size<4294967281)(hm:MaxAt w):
  Calls Tryz.prog 118 #[.string s,.string sep] w (Ret w (.tuple #[.string ⟨(Lib.cut s.data.toList sep.data.toList).1.toArray⟩,.string ⟨(Lib.cut s.data.toList sep.data.toList).2.1.toArray⟩,.bool (Lib.cut s.data.toList sep.data.toList).2.2])):=by
 obtain⟨m,hm⟩:=hm
 refine(Tryz.strings_Cut s sep m w hs hm).mono ?_
 rintro e w' ⟨rfl,n,rfl⟩
 exact⟨rfl,(Gr.refl w).drewN n⟩
theorem ownV_snoc{a0 w:World}{v:Value}{xs:List GVal}{x:GVal}(h:w.ownsRow a0.heap.size 132 3 v (xs.length+1) ((xs.flatMap fun x=>[.int .i64 x.kind,.int .i64 x.num,.string x.text])++[.int .i64 x.kind,.int .i64 x.num,.string x.text])):OwnV a0 w v (xs++[x]):=by
 unfold OwnV
 rw[List.length_append,List.flatMap_append]
 simpa using h
theorem OwnV.row{a0 w:World}{v:Value}{xs:List GVal}(h:OwnV a0 w v xs):w.ownsRow a0.heap.size 132 3 v xs.length (xs.flatMap fun x=>[.int .i64 x.kind,.int .i64 x.num,.string x.text]):=h
theorem right_short(x:List UInt8)(h:rightB ⟨2,0,⟨x.toArray⟩⟩=true):¬40<x.length:=by
 unfold rightB at h
 simp at h
 omega
theorem right_long(x:List UInt8)(hx:x.all (·!=0)=true)(h:rightB ⟨2,0,⟨x.toArray⟩⟩=false):40<x.length:=by
 unfold rightB at h
 simp only[hx]at h
 simp at h
 omega
theorem valCells_one(a b:Int)(s:ByteArray):∀u∈[Value.int .i64 a,Value.int .i64 b,Value.string s],u.oneCell'=true:=by
 intro u hu
 simp only[List.mem_cons,List.mem_nil_iff,or_false]at hu
 rcases hu with rfl|rfl|rfl<;>rfl
theorem read_more{l:List UInt8}{us:List GVal}{k:UInt8}{s r:List UInt8}{v:GVal}(h:readL l=(readL (k::s)).map (us++·))(hp:parse1 (k::s)=some (v,r)):readL l=(readL r).map ((us++[v])++·):=by
 rw[h,readL_some _ _ _ _ hp,Option.map_map]
 congr 1
 funext x
 simp
theorem read_bad{l:List UInt8}{us:List GVal}{k:UInt8}{s:List UInt8}(h:readL l=(readL (k::s)).map (us++·))(hp:parse1 (k::s)=none):readL l=none:=by
 rw[h,readL_none _ _ hp];rfl
theorem or_byte(U c:Nat)(hU:U<72057594037927936)(hc:c<256):bits BinOp.or IntKind.u64 ((U:Int)*256) (c:Int)=((U*256+c:Nat):Int):=by
 have e:((U:Int)*256)=((U*256:Nat):Int):=by omega
 rw[e]
 show IntKind.u64.wrap ((BitVec.ofInt 64 ((U*256:Nat):Int)|||BitVec.ofInt 64 (c:Int)).toNat:Int)=_
 rw[BitVec.toNat_or,ofInt_64 _ (by omega),ofInt_64 _ (by omega),IntKind.wrap_u64]
 have h:=Nat.two_pow_add_eq_or_of_lt (i:=8) (b:=c) hc U
 rw[Nat.mul_comm]at h
 rw[show(2:Nat)^8=256 from rfl]at h
 rw[<-h]
 omega
theorem num_back(M:Nat)(h:M<18446744073709551616):wrap64 (bits BinOp.xor IntKind.u64 (M:Int) 9223372036854775808)=(M:Int)-9223372036854775808:=by
 have hb:bits BinOp.xor IntKind.u64 (M:Int) 9223372036854775808=IntKind.u64.wrap ((BitVec.ofInt 64 (M:Int)^^^BitVec.ofInt 64 ((9223372036854775808:Nat):Int)).toNat:Int):=rfl
 rw[hb,BitVec.toNat_xor,ofInt_64 M h,ofInt_64 _ (by omega),IntKind.wrap_u64]
 have e:((M^^^9223372036854775808:Nat):Int)=if M<9223372036854775808 then(M:Int)+9223372036854775808 else(M:Int)-9223372036854775808:=by
  split
  ·rename_i h1
   have:=xor_top M h1
   rw[Nat.xor_comm,show(9223372036854775808:Nat)=2^63 from rfl,<-this]
   omega
  ·rename_i h1
   obtain⟨y,rfl⟩:=Nat.exists_eq_add_of_le (Nat.le_of_not_lt h1)
   have:=xor_top y (by omega)
   rw[show(9223372036854775808:Nat)=2^63 from rfl,this,Nat.xor_comm (2^63) y,Nat.xor_assoc,Nat.xor_self,Nat.xor_zero]
   rw[Nat.xor_comm,<-this]
   omega
 rw[e]
 unfold wrap64
 split<;>omega
theorem beN_snoc(R:ByteArray)(q:Nat)(h:q<R.size):beN (R.data.toList.take (q+1))=beN (R.data.toList.take q)*256+R[q].toNat:=by
 have h':q<R.data.toList.length:=by rw[<-size_data];exact h
 unfold beN
 rw[List.take_succ_eq_append_getElem h',List.foldl_append,get_data R q h]
 rfl
theorem beN_lt(l:List UInt8):beN l<256^l.length:=by
 have:∀(l:List UInt8) (n:Nat),l.foldl (fun n c=>n*256+c.toNat) n<(n+1)*256^l.length:=by
  intro l
  induction l with
  |nil=>intro n;simp
  |cons c l ih=>
   intro n
   have h1:=ih (n*256+c.toNat)
   have h2:=UInt8.toNat_lt c
   rw[List.foldl_cons,List.length_cons,Nat.pow_succ']
   refine Nat.lt_of_lt_of_le h1 ?_
   rw[<-Nat.mul_assoc]
   refine Nat.mul_le_mul_right _ ?_
   omega
 simpa[beN]using this l 0
def ReadInv(w:World)(l:List UInt8)(bound:Nat)(x u:Value)(w':World):Prop:=
 ∃(t:ByteArray) (us:List GVal),x=.string t/\t.size+us.length<=bound/\Gr w w'/\OwnV w w' u us/\readL l=(readL t.data.toList).map (us++·)
theorem read_t(s:ByteArray)(hs:s.size<4294967281)(w:World)(hm:MaxAt w):Calls Tryz.prog 65 #[.string s] w (ReadPost w s.data.toList):=by
 obtain⟨i0,hi,hz0,hz1,hz2⟩:=info_parts info_val
 have HM:=Lib.hid hm
 clear hm
 go_enter Tryz.func65,Tryz.ntmps65
 go_wp2_with fail
 go_loopw [0,4] (fun x u w'=>ReadInv w s.data.toList s.size x u w') (fun x _ _=>lenOf x)
 case atStart=>exact⟨s,[],rfl,by simp,Gr.refl _,⟨rfl,.inl ⟨rfl,rfl⟩⟩,by simp⟩
 case round=>
  obtain⟨t,us,rfl,hsz,hg,ho,hrd⟩:=hrel
  have HO:=Lib.hid ho
  have HR:=Lib.hid hrd
  clear ho hrd
  cases hte:t.data.toList with
  |nil=>
   have hb:(!t.toList.isEmpty)=false:=by rw[ByteArray.toList_eq,hte];rfl
   have HT:=Lib.hid hte
   clear hte
   go_wp2_with fail
   go_ret2
   unfold ReadPost
   rw[HR.out,HT.out]
   exact⟨_,rfl,by simpa[readL,readF]using HO.out,hg⟩
  |cons k r=>
   have hb:(!t.toList.isEmpty)=true:=by rw[ByteArray.toList_eq,hte];rfl
   have hpos:0<t.size:=by rw[size_data,hte];simp
   have hk:=head_is t k r hte hpos
   obtain⟨R,rfl⟩:∃R:ByteArray,R.data.toList=r:=⟨⟨r.toArray⟩,rfl⟩
   have hrl:t.size=R.size+1:=by rw[size_data,hte,size_data];rfl
   have hx:t.extract 1 (R.size+1)=R:=by rw[<-hrl,ext_tail t k _ hte]
   have HRE:Hid (readL s.data.toList=(readL (k::R.data.toList)).map (us++·)):=Lib.hid (by rw[HR.out,hte])
   have hk8:=UInt8.toNat_lt k
   have HTL:=Lib.hid hrl
   have hul:us.length+R.size+1<=s.size:=by omega
   clear hte HR
   have hks:k=1\/k=2\/k=3\/(k≠1/\k≠2/\k≠3):=by
    by_cases h1:k=1
    ·exact .inl h1
    ·by_cases h2:k=2
     ·exact .inr (.inl h2)
     ·by_cases h3:k=3
      ·exact .inr (.inr (.inl h3))
      ·exact .inr (.inr (.inr ⟨h1,h2,h3⟩))
   rcases hks with rfl|rfl|rfl|⟨h1,h2,h3⟩
   ·go_wp2_with fail
    refine(right_t ⟨0,0,⟨#[]⟩⟩ (by decide) _).mono ?_
    rintro e w1 ⟨rfl,hg1⟩
    rw[show rightB ⟨0,0,⟨#[]⟩⟩=true from rfl]
    have k0:=hg1.keeps (b:=wr.heap.size) (o:=0) (v:=.int .i64 0) (by rw[World.cell?_alloc_new];rfl)
    have k1:=hg1.keeps (b:=wr.heap.size) (o:=1) (v:=.int .i64 0) (by rw[World.cell?_alloc_new];rfl)
    have k2:=hg1.keeps (b:=wr.heap.size) (o:=2) (v:=.string ⟨#[]⟩) (by rw[World.cell?_alloc_new];rfl)
    have ho1:=ownsRow_gr (OwnV.row HO.out) (((Gr.refl _).alloc _).trans hg1)
    have hgw:=(hg.alloc _).trans hg1
    go_wp2_with(at_builtin;refine append_one (a0:=w) rfl _ _ 133 rfl 132 i0 (.agg #[.int .i64 0,.int .i64 0,.string ⟨#[]⟩]) 3 32 Tryz.underlying133 hi hz0 hz1 hz2 rfl (by decide) _ _ _ rfl ho1 [_,_,_] rfl (valCells_one _ _ _) rfl hgw (by omega) (by omega) ?_;intro v4 w4 hown4 hg4)
    exact⟨⟨R,us++[⟨0,0,⟨#[]⟩⟩],rfl,by rw[List.length_append];simp;omega,hg4,ownV_snoc hown4,read_more HRE.out rfl⟩,by show R.size<t.size;rw[HTL.out];omega⟩
   ·by_cases h8:R.size<8
    ·go_wp2_with fail
     refine bodyPost_ret (v:=.tuple #[.slice none 0 0,.iface 24 (.int .i64 3)]) (by simp[results,Tryz.results65,go_sem]) rfl ?_
     unfold ReadPost
     rw[read_bad HRE.out (by rw[parse1,if_neg (by decide),if_pos rfl,if_pos (by rw[<-size_data];exact h8)])]
     exact⟨rfl,hg.alloc _⟩
    ·go_wp2_with fail
     go_loop [31,6] (fun i u=>∃q:Nat,q<=8/\i=.int .i64 q/\u=.int .u64 (beN (R.data.toList.take q))) (fun i _=>8-(intOf i).toNat)
     case atStart=>exact⟨0,by omega,rfl,rfl⟩
     case round=>
      obtain⟨q,hq,rfl,rfl⟩:=hrel
      by_cases hq8:q<8
      ·have hqr:q<R.size:=by omega
       have hbl:=beN_lt (R.data.toList.take q)
       have hbs:=beN_snoc R q hqr
       generalize beN (R.data.toList.take q)=U at*
       have HBS:=Lib.hid hbs
       clear hbs
       have hc8:=UInt8.toNat_lt R[q]
       have hU:U<72057594037927936:=Nat.lt_of_lt_of_le hbl (by
        rw[show(72057594037927936:Nat)=256^7 from rfl]
        exact Nat.pow_le_pow_right (by omega) (by rw[List.length_take];omega))
       clear hbl
       go_wp2_with fail
       refine⟨⟨q+1,by omega,by go_num,?_⟩,by simp[intOf];omega⟩
       rw[HBS.out,or_byte U R[q].toNat hU hc8]
      ·obtain rfl:q=8:=by omega
       have hbl:=beN_lt (R.data.toList.take 8)
       have hM:beN (R.data.toList.take 8)<18446744073709551616:=Nat.lt_of_lt_of_le hbl (by
        rw[show(18446744073709551616:Nat)=256^8 from rfl]
        exact Nat.pow_le_pow_right (by omega) (by rw[List.length_take];omega))
       clear hbl
       generalize hMM:beN (R.data.toList.take 8)=M at*
       have HMM:=Lib.hid hMM
       have HM:=Lib.hid hM
       clear hMM hM
       go_wp2_with fail
       go_region
       go_wp2_with fail
       rw[num_back M HM.out]
       have hpr:parse1 (2::R.data.toList)=some (⟨1,(M:Int)-9223372036854775808,⟨#[]⟩⟩,(R.extract 8 R.size).data.toList):=by
        rw[parse1,if_neg (by decide),if_pos rfl,if_neg (by rw[<-size_data];omega),HMM.out,Lib.extract_data,List.take_of_length_le (by rw[List.length_drop,<-size_data];omega)]
       have hxs:(R.extract 8 R.size).size<=R.size:=by rw[ByteArray.size_extract];omega
       generalize hnn:(M:Int)-9223372036854775808=n at*
       generalize R.extract 8 R.size=R2 at*
       have HP:=Lib.hid hpr
       have HNN:=Lib.hid hnn
       clear hpr hnn
       refine(right_t ⟨1,n,⟨#[]⟩⟩ (by show(0:Nat)<=9223372036854775807;omega) _).mono ?_
       rintro e w1 ⟨rfl,hg1⟩
       rw[show rightB ⟨1,n,⟨#[]⟩⟩=true from rfl]
       have k0:=hg1.keeps (b:=wr.heap.size) (o:=0) (v:=.int .i64 1) (by rw[World.cell?_drew,World.cell?_alloc_new];rfl)
       have k1:=hg1.keeps (b:=wr.heap.size) (o:=1) (v:=.int .i64 n) (by rw[World.cell?_drew,World.cell?_alloc_new];rfl)
       have k2:=hg1.keeps (b:=wr.heap.size) (o:=2) (v:=.string ⟨#[]⟩) (by rw[World.cell?_drew,World.cell?_alloc_new];rfl)
       have ho1:=ownsRow_gr (OwnV.row HO.out) (((Gr.refl _).alloc _).drew.trans hg1)
       have hgw:=(hg.alloc _).drew.trans hg1
       clear hg1
       go_wp2_with(at_builtin;refine append_one (a0:=w) rfl _ _ 133 rfl 132 i0 (.agg #[.int .i64 0,.int .i64 0,.string ⟨#[]⟩]) 3 32 Tryz.underlying133 hi hz0 hz1 hz2 rfl (by decide) _ _ _ rfl ho1 [_,_,_] rfl (valCells_one _ _ _) rfl hgw (by omega) (by omega) ?_;intro v4 w4 hown4 hg4)
       exact⟨⟨R2,us++[⟨1,n,⟨#[]⟩⟩],rfl,by rw[List.length_append];simp;omega,hg4,ownV_snoc hown4,read_more HRE.out HP.out⟩,by show R2.size<t.size;rw[HTL.out];omega⟩
   ·have hcz:=strings_Cut_gr R ⟨#[0]⟩
    cases hal:R.data.toList.all (·!=0)
    ·have hcu:=cut_some R.data.toList hal
     have htw:=tw_all R.data.toList
     have hlw:(R.data.toList.takeWhile (·!=0)).length<=R.size:=by rw[size_data];exact(List.takeWhile_prefix _).length_le
     have hpr:parse1 (3::R.data.toList)=if 40<(R.data.toList.takeWhile (·!=0)).length then none else some (⟨2,0,⟨(R.data.toList.takeWhile (·!=0)).toArray⟩⟩,R.data.toList.drop ((R.data.toList.takeWhile (·!=0)).length+1)):=by
      rw[parse1,if_neg (by decide),if_neg (by decide),if_pos rfl,if_neg (by rw[hal];decide)]
     have hds:(R.data.toList.drop ((R.data.toList.takeWhile (·!=0)).length+1)).length<=R.size:=by rw[List.length_drop,<-size_data];omega
     generalize R.data.toList.drop ((R.data.toList.takeWhile (·!=0)).length+1)=r2 at*
     generalize R.data.toList.takeWhile (·!=0)=x at*
     have HCU:=Lib.hid hcu
     have HP:=Lib.hid hpr
     have HTW:=Lib.hid htw
     clear hcu hpr htw hal hcz
     go_wp2_with fail
     refine(strings_Cut_gr R ⟨#[0]⟩ _ (by omega) (HM.out.gr (hg.alloc _))).mono ?_
     rintro e w1 ⟨rfl,hg1⟩
     rw[show(⟨#[0]⟩:ByteArray).data.toList=[0]from rfl,HCU.out]
     simp only
     have k0:=hg1.keeps (b:=wr.heap.size) (o:=0) (v:=.int .i64 2) (by rw[World.cell?_alloc_new];rfl)
     have k1:=hg1.keeps (b:=wr.heap.size) (o:=1) (v:=.int .i64 0) (by rw[World.cell?_alloc_new];rfl)
     have k2:=hg1.keeps (b:=wr.heap.size) (o:=2) (v:=.string ⟨#[]⟩) (by rw[World.cell?_alloc_new];rfl)
     have kf:=(hg1.frozen (b:=wr.heap.size) 2 (by simp)).trans (World.frozen?_alloc_new ..)
     have hs1:=hg1.size
     simp only[World.size_alloc]at hs1
     have ho1:=ownsRow_gr (OwnV.row HO.out) (((Gr.refl _).alloc _).trans hg1)
     have hgw:=(hg.alloc _).trans hg1
     have hwb:=hg.size
     have ho2:=ownsRow_setCell_at ho1 (a:=⟨wr.heap.size,2,none⟩) (u:=.string ⟨x.toArray⟩) (fun h=>Nat.lt_irrefl _ (ownBlock_lt (OwnV.row HO.out) _ h))
     have hgs:=hgw.setCell (p:=⟨wr.heap.size,2,none⟩) hwb (.string ⟨x.toArray⟩)
     clear hg1 ho1 hgw
     cases hrb:rightB ⟨2,0,⟨x.toArray⟩⟩
     ·have HRB:=Lib.hid hrb
      have hp40:=right_long x HTW.out hrb
      have HPB:=Lib.hid hp40
      clear hrb hp40
      go_wp2_with fail
      refine(right_t ⟨2,0,⟨x.toArray⟩⟩ (by rw[size_data];show x.length<=_;omega) _).mono ?_
      rintro e w2 ⟨rfl,hg2⟩
      rw[HRB.out]
      go_wp2_with fail
      refine bodyPost_ret (v:=.tuple #[.slice none 0 0,.iface 24 (.int .i64 3)]) (by simp[results,Tryz.results65,go_sem]) rfl ?_
      unfold ReadPost
      rw[read_bad HRE.out (by rw[HP.out,if_pos HPB.out])]
      exact⟨rfl,hgs.trans hg2⟩
     ·have HRB:=Lib.hid hrb
      have hp40:=right_short x hrb
      have HPB:=Lib.hid hp40
      clear hrb hp40
      go_wp2_with fail
      refine(right_t ⟨2,0,⟨x.toArray⟩⟩ (by rw[size_data];show x.length<=_;omega) _).mono ?_
      rintro e w2 ⟨rfl,hg2⟩
      rw[HRB.out]
      have c0:=hg2.keeps (b:=wr.heap.size) (o:=0) (v:=.int .i64 2) (by rw[World.cell?_setCell_other (h:=by intro h;injection h with _ h2 _;omega)];exact k0)
      have c1:=hg2.keeps (b:=wr.heap.size) (o:=1) (v:=.int .i64 0) (by rw[World.cell?_setCell_other (h:=by intro h;injection h with _ h2 _;omega)];exact k1)
      have c2:=hg2.keeps (b:=wr.heap.size) (o:=2) (v:=.string ⟨x.toArray⟩) (World.cell?_setCell_same (h:=k2) ..)
      clear k0 k1 k2 kf
      have ho3:=ownsRow_gr ho2 hg2
      have hg3:=hgs.trans hg2
      clear ho2 hgs hg2
      go_wp2_with(at_builtin;refine append_one (a0:=w) rfl _ _ 133 rfl 132 i0 (.agg #[.int .i64 0,.int .i64 0,.string ⟨#[]⟩]) 3 32 Tryz.underlying133 hi hz0 hz1 hz2 rfl (by decide) _ _ _ rfl ho3 [_,_,_] rfl (valCells_one _ _ _) rfl hg3 (by omega) (by omega) ?_;intro v4 w4 hown4 hg4)
      have hr2:(⟨r2.toArray⟩:ByteArray).size<=R.size:=by rw[size_data];exact hds
      exact⟨⟨⟨r2.toArray⟩,us++[⟨2,0,⟨x.toArray⟩⟩],rfl,Nat.le_trans (Nat.add_le_add_right hr2 _) (by rw[List.length_append];simp only[List.length_cons,List.length_nil];omega),hg4,ownV_snoc hown4,read_more HRE.out (by rw[HP.out,if_neg HPB.out])⟩,Nat.lt_of_le_of_lt hr2 (by show R.size<t.size;rw[HTL.out];omega)⟩
    ·have hcu:=cut_none R.data.toList hal
     have hpr:parse1 (3::R.data.toList)=none:=by
      rw[parse1,if_neg (by decide),if_neg (by decide),if_pos rfl,if_pos hal]
     have HCU:=Lib.hid hcu
     have HP:=Lib.hid hpr
     clear hcu hpr hal hcz
     go_wp2_with fail
     refine(strings_Cut_gr R ⟨#[0]⟩ _ (by omega) (HM.out.gr (hg.alloc _))).mono ?_
     rintro e w1 ⟨rfl,hg1⟩
     rw[show(⟨#[0]⟩:ByteArray).data.toList=[0]from rfl,HCU.out]
     simp only
     go_wp2_with fail
     refine bodyPost_ret (v:=.tuple #[.slice none 0 0,.iface 24 (.int .i64 3)]) (by simp[results,Tryz.results65,go_sem]) rfl ?_
     unfold ReadPost
     rw[read_bad HRE.out HP.out]
     exact⟨rfl,(hg.alloc _).trans hg1⟩
   ·have g1:((k.toNat:Int)-1==0)=false:=by have:=not_byte h1;simp at this⊢;omega
    have g2:((k.toNat:Int)-1==1)=false:=by have:=not_byte h2;simp at this⊢;omega
    have g3:((k.toNat:Int)-1==2)=false:=by have:=not_byte h3;simp at this⊢;omega
    have hpr:parse1 (k::R.data.toList)=none:=by rw[parse1,if_neg h1,if_neg h2,if_neg h3]
    have HP:=Lib.hid hpr
    clear hpr h1 h2 h3
    have g4:0<=(k.toNat:Int):=by omega
    go_wp2_with fail
    refine bodyPost_ret (v:=.tuple #[.slice none 0 0,.iface 24 (.int .i64 3)]) (by simp[results,Tryz.results65,go_sem]) rfl ?_
    unfold ReadPost
    rw[read_bad HRE.out HP.out]
    exact⟨rfl,hg.alloc _⟩
theorem fm_get:∀(xs:List GVal) (i:Nat) (h:i<xs.length),(xs.flatMap fun x=>[Value.int .i64 x.kind,.int .i64 x.num,.string x.text])[i*3]?=some (.int .i64 xs[i].kind)/\(xs.flatMap fun x=>[Value.int .i64 x.kind,.int .i64 x.num,.string x.text])[i*3+1]?=some (.int .i64 xs[i].num)/\(xs.flatMap fun x=>[Value.int .i64 x.kind,.int .i64 x.num,.string x.text])[i*3+2]?=some (.string xs[i].text)
 |[],i,h=>by simp at h
 |x::xs,0,_=>by simp
 |x::xs,i+1,h=>by
  have:=fm_get xs i (by simpa using h)
  have e:(i+1)*3=i*3+3:=by omega
  rw[e,List.flatMap_cons]
  simpa using this
theorem OwnV.vals{a0 w:World}{v:Value}{xs:List GVal}(h:OwnV a0 w v xs):∃ao b c,v=.slice ao xs.length c/\(0<xs.length->ao=some ⟨b,0,none⟩)/\ValsAt w b 0 xs:=by
 have hc:=fun g hg=>World.ownsRow.cells (g:=g) h.row hg
 rcases h.row.2 with⟨rfl,h0⟩|⟨g,cap,cur,rfl,_⟩
 ·have h0':xs.length=0:=h0
  exact⟨none,0,0,by rw[h0'],fun h=>by omega,fun i hi=>by omega⟩
 ·refine⟨_,g,cap,rfl,fun _=>rfl,fun i hi=>?_⟩
  have hg:=fm_get xs i hi
  have c1:=hc g rfl _ _ hg.1
  have c2:=hc g rfl _ _ hg.2.1
  have c3:=hc g rfl _ _ hg.2.2
  have e:∀j,(⟨g,0,none⟩:Addr).add j=⟨g,0+j,none⟩:=by
   intro j;unfold Addr.add;split<;>simp_all
  rw[e]at c1 c2 c3
  refine⟨c1,?_,?_⟩
  ·rw[Nat.add_assoc];exact c2
  ·rw[Nat.add_assoc];exact c3
theorem getF_seven:∀(k n:Nat) (r:List UInt8),n<128^k->0<k->getF k (sevenB n++r)=some (n,r)
 |0,_,_,_,h=>absurd h (Nat.lt_irrefl 0)
 |k+1,n,r,hn,_=>by
  by_cases h:n<128
  ·rw[sevenB_small n h]
   have hc:n.toUInt8.toNat=n:=by simp;omega
   simp[getF,hc,h]
  ·rw[sevenB_big n h]
   have hc:(128+n % 128).toUInt8.toNat=128+n % 128:=by simp;omega
   have hk:0<k:=by
    rcases Nat.eq_zero_or_pos k with rfl|hk
    ·simp at hn
     omega
    ·exact hk
   have ih:=getF_seven k (n/128) r (by rw[Nat.div_lt_iff_lt_mul (by omega)];rw[Nat.pow_succ]at hn;exact hn) hk
   rw[List.cons_append]
   unfold getF
   rw[hc,if_neg (by omega),ih]
   simp
   omega
theorem sevenB_pos(n:Nat):1<=(sevenB n).length:=by
 by_cases h:n<128
 ·rw[sevenB_small n h]
  simp
 ·rw[sevenB_big n h]
  simp
def encAll(a:GPlace):List GPlace->List UInt8
 |[]=>[]
 |p::t=>encP a p++encAll p t
theorem encP_pos(a p:GPlace):1<=(encP a p).length:=by
 unfold encP
 split
 ·exact sevenB_pos _
 ·rw[List.length_append]
  have:=sevenB_pos (2*(p.1-a.1)+1).toNat
  omega
theorem encAll_len:∀(xs:List GPlace) (a:GPlace),xs.length<=(encAll a xs).length
 |[],_=>Nat.le_refl _
 |p::t,a=>by
  have:=encAll_len t p
  have:=encP_pos a p
  unfold encAll
  rw[List.length_append,List.length_cons]
  omega
theorem enc_range:∀(xs:List GPlace) (a:GPlace),((List.range xs.length).flatMap fun i=>encP (match i with|0=>a|k+1=>xs.getD k (0,0)) (xs.getD i (0,0)))=encAll a xs
 |[],a=>rfl
 |p::t,a=>by
  have ih:=enc_range t p
  rw[List.length_cons,List.range_succ_eq_map,List.flatMap_cons,List.flatMap_map]
  unfold encAll
  rw[<-ih]
  congr 1
  have:∀i,(match i+1 with|0=>a|k+1=>(p::t).getD k (0,0))=(match i with|0=>p|k+1=>t.getD k (0,0)):=fun i=>by
   cases i<;>simp
  refine congrArg (fun f=>List.flatMap f (List.range t.length)) (funext fun i=>?_)
  cases i<;>simp
theorem writeP_all(xs:List GPlace):writeP xs=encAll (0,0) xs:=by
 rw[<-enc_range xs (0,0)]
 unfold writeP wrP
 refine congrArg (fun f=>List.flatMap f (List.range xs.length)) (funext fun i=>?_)
 cases i<;>rfl
def Chain(a:GPlace):List GPlace->Prop
 |[]=>True
 |p::t=>(0<=a.1/\0<=a.2/\p.1<=1073741824/\0<=p.2/\p.2<=1073741823/\a.1<=p.1/\(a.1=p.1->a.2<=p.2))/\Chain p t
theorem chain_of{xs:List GPlace}(h:placesB xs=true):Chain (0,0) xs:=by
 have key:∀m k,k+m=xs.length->Chain (prevAt xs k) (xs.drop k):=by
  intro m
  induction m with
  |zero=>
   intro k hk
   rw[List.drop_of_length_le (by omega)]
   trivial
  |succ m ih=>
   intro k hk
   have hlt:k<xs.length:=by omega
   have ih':=ih (k+1) (by omega)
   have hg:xs.getD k (0,0)=xs[k]:=by simp[List.getD_eq_getElem?_getD,hlt]
   obtain⟨b1,b2,b3,b4,b5,b6,b7⟩:=enc_bounds hlt (fun i hi=>placesB_at h i (by omega))
   rw[List.drop_eq_getElem_cons hlt]
   rw[hg]at b1 b6 b7
   have hi:=inP_iff.1 b1
   refine⟨⟨b2,b4,hi.2.1,hi.2.2.1,hi.2.2.2,b6,b7⟩,?_⟩
   have:prevAt xs (k+1)=xs[k]:=hg
   rw[<-this]
   exact ih'
 have:=key xs.length 0 (by omega)
 simpa[prevAt]using this
theorem rd_all:∀(xs:List GPlace) (a:GPlace),Chain a xs->rdL a (encAll a xs)=some xs
 |[],a,_=>rdL_nil a
 |p::t,a,h=>by
  obtain⟨⟨h1,h2,h3,h4,h5,h6,h7⟩,ht⟩:=h
  have ih:=rd_all t p ht
  obtain⟨p1,p2⟩:=p
  obtain⟨a1,a2⟩:=a
  simp only at h1 h2 h3 h4 h5 h6 h7
  unfold encAll encP
  simp only
  by_cases he:p1=a1
  ·subst he
   rw[if_pos rfl]
   have hd:=h7 rfl
   have hg:=getF_seven 5 (2*(p2-a2)).toNat (encAll (p1,p2) t) (by omega) (by omega)
   rw[rdL_even hg (by omega)]
   have e:(p1,a2+(((2*(p2-a2)).toNat/2:Nat):Int))=(p1,p2):=by
    congr 1
    omega
   simp only
   rw[e,ih]
   rfl
  ·rw[if_neg he,List.append_assoc]
   have hg:=getF_seven 5 (2*(p1-a1)+1).toNat (sevenB p2.toNat++encAll (p1,p2) t) (by omega) (by omega)
   have hg2:=getF_seven 5 p2.toNat (encAll (p1,p2) t) (by omega) (by omega)
   rw[rdL_odd hg (by omega) hg2]
   have e:(a1+(((2*(p1-a1)+1).toNat/2:Nat):Int),((p2.toNat:Nat):Int))=(p1,p2):=by
    congr 1<;>omega
   simp only
   rw[e,ih]
   rfl
theorem read_write{xs:List GPlace}(h:placesB xs=true):readP (writeP xs)=some xs:=by
 unfold readP
 rw[writeP_all,rd_all xs (0,0) (chain_of h)]
 simp[h,writeP_all]
