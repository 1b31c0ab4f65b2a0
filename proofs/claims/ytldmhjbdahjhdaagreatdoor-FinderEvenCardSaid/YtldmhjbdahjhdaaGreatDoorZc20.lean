/-
  Part 20 of the proof.
-/
import Derived.Test.YtldmhjbdahjhdaaGreatDoorZc12
import Derived.Test.YtldmhjbdahjhdaaGreatDoorZc19
set_option maxRecDepth 100000
set_option maxHeartbeats 100000000
set_option linter.all false
namespace Go.Proofs.YtldmhjbdahjhdaaGreatDoor
section
open Go Go.RowKit
theorem cmp_pre:∀(h a b x:List UInt8),Lib.compareBytes (h++a) x≠1->Lib.compareBytes x (h++b)≠1->∃t,x=h++t
 |[],_,_,x,_,_=>⟨x,rfl⟩
 |c::h,a,b,[],h1,_=>absurd rfl h1
 |c::h,a,b,d::x,h1,h2=>by
  rw[List.cons_append]at h1 h2
  simp only[Lib.compareBytes]at h1 h2
  by_cases a1:c<d
  ·have a2:¬d<c:=fun h=>UInt8.lt_irrefl _ (UInt8.lt_trans a1 h)
   simp[a1,a2]at h2
  ·by_cases a2:d<c
   ·simp[a1,a2]at h1
   ·have e:c=d:=UInt8.le_antisymm (UInt8.not_lt.1 a2) (UInt8.not_lt.1 a1)
    subst e
    simp only[a1,if_false]at h1 h2
    obtain⟨t,ht⟩:=cmp_pre h a b x h1 h2
    exact⟨t,by rw[ht];rfl⟩
theorem cmp_above:∀(h x t:List UInt8),Lib.compareBytes h x≠1->(∀u,x≠h++u)->Lib.compareBytes (h++t) x=-1
 |[],x,t,_,h2=>absurd rfl (h2 x)
 |c::h,[],t,h1,_=>absurd rfl h1
 |c::h,d::x,t,h1,h2=>by
  rw[List.cons_append]
  simp only[Lib.compareBytes]at h1⊢
  by_cases a1:c<d
  ·simp[a1]
  ·by_cases a2:d<c
   ·simp[a1,a2]at h1
   ·have e:c=d:=UInt8.le_antisymm (UInt8.not_lt.1 a2) (UInt8.not_lt.1 a1)
    subst e
    simp only[a1,if_false]at h1⊢
    exact cmp_above h x t h1 fun u hu=>h2 u (by rw[hu];rfl)
theorem cmp_self_pre:∀(h t:List UInt8),Lib.compareBytes h (h++t)≠1
 |[],[]=>by decide
 |[],_::_=>by simp[Lib.compareBytes]
 |c::h,t=>by
  rw[List.cons_append]
  simp only[Lib.compareBytes,UInt8.lt_irrefl,if_false]
  exact cmp_self_pre h t
def preB(h x:ByteArray):Bool:=h.data.toList.isPrefixOf x.data.toList
theorem preB_iff{h x:ByteArray}:preB h x=true↔∃t,x.data.toList=h.data.toList++t:=by
 unfold preB
 rw[List.isPrefixOf_iff_prefix]
 constructor
 ·rintro⟨t,e⟩;exact⟨t,e.symm⟩
 ·rintro⟨t,e⟩;exact⟨t,e.symm⟩
theorem le_iff{a b:ByteArray}:¬ltB b a↔cmpB a b≠1:=by
 rw[ltB_iff,cmpB_swap a b]
 rcases cmpB_is a b with h|h|h<;>omega
theorem pre_le{h x:ByteArray}(hp:preB h x=true):¬ltB x h:=by
 obtain⟨t,e⟩:=preB_iff.1 hp
 rw[le_iff]
 unfold cmpB
 rw[e]
 exact cmp_self_pre _ _
theorem pre_mid{h a b x:ByteArray}(ha:preB h a=true)(hb:preB h b=true)(h1:¬ltB x a)(h2:¬ltB b x):preB h x=true:=by
 obtain⟨t,e⟩:=preB_iff.1 ha
 obtain⟨u,f⟩:=preB_iff.1 hb
 rw[le_iff]at h1 h2
 unfold cmpB at h1 h2
 rw[e]at h1
 rw[f]at h2
 exact preB_iff.2 (cmp_pre _ _ _ _ h1 h2)
theorem above_pre{h x y:ByteArray}(h1:¬ltB x h)(h2:preB h x=false)(hy:preB h y=true):ltB y x:=by
 obtain⟨t,e⟩:=preB_iff.1 hy
 rw[le_iff]at h1
 rw[ltB_iff]
 unfold cmpB at h1⊢
 rw[e]
 refine cmp_above _ _ _ h1 fun u hu=>?_
 have:preB h x=true:=preB_iff.2 ⟨u,hu⟩
 rw[h2]at this
 cases this
theorem takeWhile_filter{α:Type}{p:α->Bool}:∀{l:List α},l.Pairwise (fun x y=>p y=true->p x=true)->l.takeWhile p=l.filter p
 |[],_=>rfl
 |x::l,h=>by
  obtain⟨h1,h2⟩:=List.pairwise_cons.1 h
  rw[List.takeWhile_cons,List.filter_cons]
  cases hp:p x with
  |true=>
   simp only[if_true]
   rw[takeWhile_filter h2]
  |false=>
   simp only[Bool.false_eq_true,if_false]
   refine(filter_no fun y hy=>?_).symm
   cases hq:p y with
   |false=>rfl
   |true=>
    rw[h1 y hy hq]at hp
    cases hp
def preA(l:LP)(s:ByteArray):LP:=l.filter fun x=>preB s x.1
theorem from_pre{l:LP}(hs:SrtP l)(s:ByteArray):(fromA l s).takeWhile (fun x=>preB s x.1)=preA l s:=by
 have h1:(fromA l s).Pairwise fun x y=>preB s y.1=true->preB s x.1=true:=by
  have h2:SrtP (fromA l s):=srt_filter hs _
  have h3:=List.pairwise_map.1 h2
  refine h3.imp_of_mem fun{x y} hx hy hlt hp=>?_
  have h4:¬ltB x.1 s:=by simpa using(List.mem_filter.1 hx).2
  refine pre_mid (a:=s) (b:=y.1) (preB_iff.2 ⟨[],by simp⟩) hp h4 (ltB_asymm hlt)
 rw[takeWhile_filter h1]
 unfold fromA preA
 rw[List.filter_filter]
 refine List.filter_congr fun x _=>?_
 cases hp:preB s x.1 with
 |false=>simp
 |true=>
  have:=pre_le hp
  simp[this]
def txV(s:ByteArray):GVal:=⟨2,0,s⟩
def nmV(n:Int):GVal:=⟨1,n,⟨#[]⟩⟩
def baL(l:List UInt8):ByteArray:=⟨l.toArray⟩
theorem baL_data(l:List UInt8):(baL l).data.toList=l:=rfl
theorem baL_size(l:List UInt8):(baL l).size=l.length:=by
 show l.toArray.size=_
 simp
def keyW(n w:ByteArray)(r:Int):ByteArray:=baL (keyL [txV n,txV w,nmV r])
def headW(n w:ByteArray):ByteArray:=baL (keyL [txV n,txV w])
def headN(n:ByteArray):ByteArray:=baL (keyL [txV n])
def manyK:ByteArray:=⟨#[1]⟩
structure OkW(w:ByteArray):Prop where
 nz:w.data.toList.all (·!=0)=true
 len:w.data.toList.length<=40
theorem OkW.fine{w:ByteArray}(h:OkW w):FineV (txV w):=by
 refine⟨?_,by show(-9223372036854775808:Int)<=0;omega,by show(0:Int)<=9223372036854775807;omega⟩
 unfold rightB txV
 have h1:=h.nz
 have h2:=h.len
 have h3:w.size<=40:=by rw[size_data];exact h2
 simp[h1,h3]
theorem fine_num{r:Int}(h:1<=r/\r<=1073741824):FineV (nmV r):=by
 refine⟨?_,by show(-9223372036854775808:Int)<=r;omega,by show r<=9223372036854775807;omega⟩
 unfold rightB nmV
 simp
theorem keyV_tx(w:ByteArray):keyV (txV w)=3::(w.data.toList++[0]):=rfl
theorem headW_data(n w:ByteArray):(headW n w).data.toList=keyV (txV n)++(keyV (txV w)++[]):=rfl
theorem keyW_data(n w:ByteArray)(r:Int):(keyW n w r).data.toList=(headW n w).data.toList++keyV (nmV r):=by
 rw[headW_data]
 show keyV (txV n)++(keyV (txV w)++(keyV (nmV r)++[]))=_
 simp
theorem keyW_pre(n w:ByteArray)(r:Int):preB (headW n w) (keyW n w r)=true:=preB_iff.2 ⟨_,keyW_data n w r⟩
theorem keyW_preN(n w:ByteArray)(r:Int):preB (headN n) (keyW n w r)=true:=preB_iff.2 ⟨keyV (txV w)++keyV (nmV r),by
 rw[keyW_data,headW_data]
 show _=(keyV (txV n)++[])++_
 simp⟩
theorem keyW_size(n w:ByteArray)(r:Int):(keyW n w r).size=n.size+w.size+13:=by
 have h1:∀s:ByteArray,s.data.toList.length=s.size:=fun s=>by rw[Array.length_toList];rfl
 rw[<-h1 (keyW n w r),keyW_data,headW_data,keyV_tx,keyV_tx]
 have:(keyV (nmV r)).length=9:=rfl
 simp only[List.length_append,List.length_cons,List.length_nil,this,h1]
 omega
theorem text_stop:∀(x y s t:List UInt8),x.all (·!=0)=true->y.all (·!=0)=true->x++0::s=y++0::t->x=y/\s=t
 |[],[],s,t,_,_,h=>⟨rfl,by injection h⟩
 |[],c::y,s,t,_,hy,h=>by
  injection h with h1 h2
  rw[<-h1]at hy
  simp at hy
 |c::x,[],s,t,hx,_,h=>by
  injection h with h1 h2
  rw[h1]at hx
  simp at hx
 |c::x,d::y,s,t,hx,hy,h=>by
  injection h with h1 h2
  simp only[List.all_cons,Bool.and_eq_true]at hx hy
  obtain⟨h3,h4⟩:=text_stop x y s t hx.2 hy.2 h2
  exact⟨by rw[h1,h3],h4⟩
theorem pre_word{n w w2:ByteArray}(hw:OkW w)(hw2:OkW w2){r:Int}(h:preB (headW n w) (keyW n w2 r)=true):w=w2:=by
 obtain⟨t,e⟩:=preB_iff.1 h
 rw[keyW_data,headW_data,headW_data,keyV_tx,keyV_tx]at e
 simp only[List.append_assoc,List.append_nil]at e
 have e:=List.append_cancel_left e
 simp only[List.cons_append]at e
 injection e with _ e
 simp only[List.append_assoc,List.singleton_append]at e
 have e3:w2.data.toList++0::keyV (nmV r)=w.data.toList++0::t:=e.trans (by
  show(w.data.toList++[0])++t=_
  simp)
 obtain⟨h1,_⟩:=text_stop _ _ _ _ hw2.nz hw.nz e3
 exact(bytes_ext h1).symm
theorem pre_word_iff{n w w2:ByteArray}(hw:OkW w)(hw2:OkW w2)(r:Int):preB (headW n w) (keyW n w2 r)=decide (w=w2):=by
 cases h:preB (headW n w) (keyW n w2 r)with
 |true=>rw[pre_word hw hw2 h];simp
 |false=>
  by_cases e:w=w2
  ·subst e
   rw[keyW_pre]at h
   cases h
  ·rw[decide_eq_false e]
theorem many_lt(n:ByteArray){x:ByteArray}(h:preB (headN n) x=true):ltB manyK x:=by
 obtain⟨t,e⟩:=preB_iff.1 h
 rw[ltB_iff]
 unfold cmpB
 rw[e]
 show Lib.compareBytes [1] ((3::(n.data.toList++[0])++[])++t)=-1
 simp only[List.cons_append,Lib.compareBytes]
 rfl
theorem many_keyW(n w:ByteArray)(r:Int):ltB manyK (keyW n w r):=many_lt n (keyW_preN n w r)
theorem headW_preN(n w:ByteArray):preB (headN n) (headW n w)=true:=preB_iff.2 ⟨keyV (txV w)++[],by
 rw[headW_data]
 show _=(keyV (txV n)++[])++_
 simp⟩
theorem many_headW(n w:ByteArray):ltB manyK (headW n w):=many_lt n (headW_preN n w)
theorem many_headN(n:ByteArray):ltB manyK (headN n):=many_lt n (preB_iff.2 ⟨[],by simp⟩)
theorem not_pre_many(n w:ByteArray):preB (headW n w) manyK=false:=by
 cases h:preB (headW n w) manyK with
 |false=>rfl
 |true=>exact absurd (many_headW n w) (pre_le h)
theorem not_preN_many(n:ByteArray):preB (headN n) manyK=false:=by
 cases h:preB (headN n) manyK with
 |false=>rfl
 |true=>exact absurd (many_headN n) (pre_le h)
theorem keyW_cmp{n w:ByteArray}(hn:OkW n)(hw:OkW w){r s:Int}(hr:1<=r/\r<=1073741824)(hs:1<=s/\s<=1073741824):cmpB (keyW n w r) (keyW n w s)=if r<s then-1 else if s<r then 1 else 0:=by
 have h:=key_order [txV n,txV w,nmV r] [txV n,txV w,nmV s] (fun v hv=>by
  rcases List.mem_cons.1 hv with e|hv
  ·rw[e];exact hn.fine
  rcases List.mem_cons.1 hv with e|hv
  ·rw[e];exact hw.fine
  rw[List.mem_singleton.1 hv];exact fine_num hr) (fun v hv=>by
  rcases List.mem_cons.1 hv with e|hv
  ·rw[e];exact hn.fine
  rcases List.mem_cons.1 hv with e|hv
  ·rw[e];exact hw.fine
  rw[List.mem_singleton.1 hv];exact fine_num hs)
 have hz:∀x:ByteArray,Lib.compareBytes x.data.toList x.data.toList=0:=fun x=>(cmpB_zero _ _).2 rfl
 have e1:∀x:ByteArray,cmpV (txV x) (txV x)=0:=fun x=>by
  unfold cmpV txV
  simp[hz]
 have e2:cmpV (nmV r) (nmV s)=if r<s then-1 else if s<r then 1 else 0:=by
  unfold cmpV nmV
  by_cases h1:r<s
  ·simp[h1]
  ·by_cases h2:s<r
   ·simp[h1,h2]
   ·simp[h1,h2]
    rfl
 unfold cmpB keyW
 rw[baL_data,baL_data,h]
 simp only[orderV,e1,e2,if_true]
 by_cases h1:r<s
 ·simp[h1]
 ·by_cases h2:s<r
  ·simp[h1,h2]
  ·simp[h1,h2]
theorem keyW_lt{n w:ByteArray}(hn:OkW n)(hw:OkW w){r s:Int}(hr:1<=r/\r<=1073741824)(hs:1<=s/\s<=1073741824):ltB (keyW n w r) (keyW n w s)↔r<s:=by
 rw[ltB_iff,keyW_cmp hn hw hr hs]
 constructor
 ·intro h
  by_cases h1:r<s
  ·exact h1
  ·rw[if_neg h1]at h
   split at h<;>omega
 ·intro h
  rw[if_pos h]
end
section
open Go Go.RowKit Go.Shelf Go.Lib
def IsQ(w:World)(v:Value)(l:List GPair):Prop:=(v=.slice none 0 0/\l=[])\/∃B cap,v=.slice (some ⟨B,0,none⟩) l.length cap/\l.length<=cap/\B<w.heap.size/\∀i (h:i<l.length),w.cell? ⟨B,i*2,none⟩=some (.string l[i].1)/\w.cell? ⟨B,i*2+1,none⟩=some (.string l[i].2)
theorem OwnQ.isQ{n:Nat}{w:World}{v:Value}{l:List GPair}(h:OwnQ n w v l):IsQ w v l:=by
 rcases h.at' with h1|⟨B,cap,h1,h2,_,h3,h4,_⟩
 ·exact .inl h1
 ·exact .inr ⟨B,cap,h1,h2,h3,h4⟩
theorem IsQ.gr{w w':World}{v:Value}{l:List GPair}(h:IsQ w v l)(g:Gr w w'):IsQ w' v l:=by
 rcases h with h1|⟨B,cap,h1,h2,h3,h4⟩
 ·exact .inl h1
 ·exact .inr ⟨B,cap,h1,h2,Nat.lt_of_lt_of_le h3 g.size,fun i hi=>⟨g.keeps (h4 i hi).1,g.keeps (h4 i hi).2⟩⟩
theorem IsQ.form{w:World}{v:Value}{l:List GPair}(h:IsQ w v l):∃ao c,v=.slice ao l.length c:=by
 rcases h with⟨rfl,rfl⟩|⟨B,cap,rfl,_⟩
 ·exact⟨none,0,rfl⟩
 ·exact⟨_,cap,rfl⟩
theorem IsQ.take{w:World}{l:List GPair}{ao:Option Addr}{n c k:Nat}(h:IsQ w (.slice ao n c) l)(hk:k<=l.length):IsQ w (.slice ao k c) (l.take k):=by
 have hlen:(l.take k).length=k:=by rw[List.length_take];omega
 rcases h with⟨h1,h2⟩|⟨B,cap,h1,h2,h3,h4⟩
 ·cases h1
  subst h2
  have:k=0:=by simpa using hk
  subst this
  exact .inl ⟨rfl,rfl⟩
 ·cases h1
  refine .inr ⟨B,c,by rw[hlen],by rw[hlen];omega,h3,fun i hi=>?_⟩
  have hi2:i<l.length:=by rw[hlen]at hi;omega
  rw[List.getElem_take]
  exact h4 i hi2
theorem indexq_nil(w:World)(fv:Value):
  Calls Tryz.prog 91 #[.slice none 0 0,fv] w (Ret w (.int .i64 (-1))):=by
 go_enter Tryz.func91,Tryz.ntmps91
 go_wp2_with fail
 go_loop [8] (fun i=>i=.int .i64 0) (fun _=>1)
 case atStart=>rfl
 case round=>
  subst hrel
  go_wp2_with fail
  go_ret
  exact Ret.mk rfl (Gr.refl _)
theorem index_q(xs:List GPair)(v:Value)(g:Nat)(lb:Array Value)(pr:GPair->Bool)(w:World)(h:IsQ w v xs)(hl:xs.length<=1000000)(eg:∀args w,(callFunc g args).run Tryz.prog w=.ok (.enter g args) w)
  (hp:∀(W:World) (x:GPair),Gr w W->Calls Tryz.prog g (#[.agg #[.string x.1,.string x.2]]++lb) W (Ret W (.bool (pr x)))):
  Calls Tryz.prog 91 #[v,.func (.func g) #[] lb] w (Ret w (.int .i64 (Lib.idxBy (fun _ y=>pr y) xs default))):=by
 rcases h with⟨rfl,rfl⟩|⟨b,c,rfl,hc,hb,hx⟩
 ·exact indexq_nil w _
 ·refine Calls.mono (AnyQ.slices_IndexFunc Tryz.indexFuncPair 2 Tryz.isAgg140 Tryz.sizeOf140 pcells (fun _=>rfl) pr g lb eg b 0 xs.length c xs w (fun W x hW=>(hp W x hW).mono fun e w' h=>⟨h.1,Gr.trans hW h.2⟩) (Nat.le_refl _) (by omega) hb (fun j hj i v hi=>?_)) ?_
  ·have h1:=hx j hj
   have hg:xs[j]! =xs[j]:=by simp[hj]
   rw[hg]at hi
   match i,hi with
   |0,hi=>
    have:=Option.some.inj hi
    rw[<-this]
    simpa using h1.1
   |1,hi=>
    have:=Option.some.inj hi
    rw[<-this]
    simpa using h1.2
   |i+2,hi=>simp[pcells]at hi
  ·rintro e w' ⟨rfl,hg⟩
   rw[List.take_length]
   exact Ret.mk rfl hg
theorem idxq_cases(pr:GPair->Bool):∀(xs:List GPair) (i:Nat),(Lib.idxByFrom (fun _ y=>pr y) default xs i=-1/\xs.takeWhile (fun x=>!pr x)=xs)\/∃k,k<xs.length/\Lib.idxByFrom (fun _ y=>pr y) default xs i=((i+k:Nat):Int)/\xs.takeWhile (fun x=>!pr x)=xs.take k
 |[],i=>.inl ⟨rfl,rfl⟩
 |x::xs,i=>by
  by_cases hx:pr x=true
  ·exact .inr ⟨0,by simp,by simp[Lib.idxByFrom,hx],by simp[hx]⟩
  ·have hx':pr x=false:=by simpa using hx
   rcases idxq_cases pr xs (i+1)with⟨h1,h2⟩|⟨k,h,h1,h2⟩
   ·exact .inl ⟨by simp[Lib.idxByFrom,hx',h1],by simp[hx',h2]⟩
   ·refine .inr ⟨k+1,by simp;omega,?_,by simp[hx',h2]⟩
    simp only[Lib.idxByFrom,hx',h1]
    simp
    omega
theorem hasPrefix_pre(s x:ByteArray):Lib.hasPrefix x.data.toList s.data.toList=preB s x:=rfl
theorem prefix1_n(W:World)(B:Nat)(s:ByteArray)(x:GPair)(h:W.cell? ⟨B,0,none⟩=some (.string s)):
  Calls Tryz.prog 117 #[.agg #[.string x.1,.string x.2],.pointer (some ⟨B,0,none⟩)] W (Ret W (.bool (!preB s x.1))):=by
 obtain⟨x1,x2⟩:=x
 have g1:Gr W (W.alloc (.cells #[.string x1,.string x2] 140)):=(Gr.refl W).alloc _
 have c0:(W.alloc (.cells #[.string x1,.string x2] 140)).cell? ⟨W.heap.size,0,none⟩=some (.string x1):=by rw[World.cell?_alloc_new];rfl
 have c1:=g1.keeps h
 go_enter Tryz.func117,Tryz.ntmps117
 go_wp2_with(go_at_call 60;refine(Tryz.strings_HasPrefix _ _ _).mono ?_;rintro e w1 ⟨rfl,rfl⟩)
 go_ret
 exact Ret.mk rfl g1
section
variable{w:World}{PB DB M:Nat}{c:Ch}{sv:Head}{t:Int}{d:Dk}
theorem prefix_n(h:PgT w PB DB M c sv t d){TP root:Nat}(ht:TreeAt w TP PB root)(hr:root<8)(s:ByteArray){tr:Tr}(hl:tr.lays c d.pg root)(hlen:(walkR tr s).length<=1000000):
  Calls Tryz.prog 64 #[.pointer (some ⟨TP,0,none⟩),.string s] w fun e w'=>∃v,e=.returned (.tuple #[v,.nilIface])/\IsQ w' v ((walkR tr s).takeWhile fun x=>preB s x.1)/\Gr w w':=by
 obtain⟨RR,hRR⟩:∃RR,walkR tr s=RR:=⟨_,rfl⟩
 have g0:Gr w (w.alloc (.cells #[.string s] 9)):=(Gr.refl w).alloc _
 have b0:=box_newT w (.string s) 9
 have hwk:=walk_n (h.gr g0) (ht.gr g0) hr s hl
 rw[hRR]at hwk hlen⊢
 have HWK:=Lib.hid hwk
 have HG0:=Lib.hid g0
 clear hwk g0 h ht hl hRR
 go_enter Tryz.func64,Tryz.ntmps64
 go_wp2_with fail
 obtain⟨W1,hW1⟩:∃W1,w.alloc (.cells #[.string s] 9)=W1:=⟨_,rfl⟩
 rw[hW1]at b0 HWK HG0⊢
 clear hW1
 obtain⟨B0,hB0⟩:∃B0,w.heap.size=B0:=⟨_,rfl⟩
 rw[hB0]at b0⊢
 clear hB0
 refine HWK.out.mono ?_
 rintro e w2 ⟨v,rfl,hv,hg2⟩
 have b2:=hg2.keeps b0
 have hq:=hv.isQ
 have hgr:=HG0.out.trans hg2
 have HGR:=Lib.hid hgr
 have HQ:=Lib.hid hq
 have hix:=index_q RR v 117 #[.pointer (some ⟨B0,0,none⟩)] (fun x=>!preB s x.1) w2 hq hlen (enters_of Tryz.func117 (by kernel_rfl) rfl) (fun W x g=>prefix1_n W B0 s x (g.keeps b2))
 have HIX:=Lib.hid hix
 have hcs:=idxq_cases (fun x=>!preB s x.1) RR 0
 have hcs:(Lib.idxBy (fun _ y=>!preB s y.1) RR default=-1/\RR.takeWhile (fun x=>preB s x.1)=RR)\/∃k,k<RR.length/\Lib.idxBy (fun _ y=>!preB s y.1) RR default=(k:Int)/\RR.takeWhile (fun x=>preB s x.1)=RR.take k:=by
  rcases hcs with⟨h1,h2⟩|⟨k,h0,h1,h2⟩
  ·exact .inl ⟨h1,by simpa using h2⟩
  ·exact .inr ⟨k,h0,by
    have:Lib.idxBy (fun _ y=>!preB s y.1) RR default=((0+k:Nat):Int):=h1
    rw[this]
    simp,by simpa using h2⟩
 obtain⟨ix,hix2⟩:∃ix,Lib.idxBy (fun _ (y:GPair)=>!preB s y.1) RR default=ix:=⟨_,rfl⟩
 rw[hix2]at hcs HIX
 have HCS:=Lib.hid hcs
 clear hix hcs hix2 hgr hq hg2 b0 b2 hlen
 obtain⟨av,cv,hfv⟩:=hv.form
 clear hv
 subst hfv
 have hcap:0<RR.length->∃B1,av=some ⟨B1,0,none⟩/\RR.length<=cv:=fun h0=>by
  rcases HQ.out with⟨_,e⟩|⟨B,cap,e1,e2,_⟩
  ·rw[e]at h0;simp at h0
  ·cases e1
   exact⟨B,rfl,e2⟩
 have HCAP:=Lib.hid hcap
 clear hcap
 go_wp2_with fail
 refine HIX.out.mono ?_
 rintro e w3 ⟨rfl,hg3⟩
 have HG3:=Lib.hid hg3
 clear hg3
 rcases HCS.out with⟨h1,h2⟩|⟨k,h0,h1,h2⟩
 ·subst h1
  have HR:Hid (IsQ w3 (.slice av RR.length cv) (RR.takeWhile fun x=>preB s x.1)/\Gr w w3):=Lib.hid ⟨by rw[h2];exact HQ.out.gr HG3.out,HGR.out.trans HG3.out⟩
  clear h2
  go_wp2_with fail
  go_ret2
  exact⟨_,rfl,HR.out⟩
 ·subst h1
  obtain⟨B1,rfl,hcv⟩:=HCAP.out (by omega)
  have hk0:(0:Int)<=(k:Int):=by omega
  have hkc:(k:Int)<=(cv:Int):=by omega
  have hkn:k<=cv:=by omega
  have HR:Hid (IsQ w3 (.slice (some ⟨B1,0,none⟩) k cv) (RR.takeWhile fun x=>preB s x.1)/\Gr w w3):=Lib.hid ⟨by rw[h2];exact(HQ.out.gr HG3.out).take (by omega),HGR.out.trans HG3.out⟩
  clear h2 h0 hcv
  go_wp2_with fail
  go_ret2
  exact⟨_,rfl,HR.out⟩
end
end
section
open Go Go.RowKit
section
variable{w:World}{PB DB M:Nat}{c:Ch}{sv:Head}{t:Int}{d:Dk}
theorem at_n(h:PgT w PB DB M c sv t d){root:Nat}(hr:root<8):
  Calls Tryz.prog 36 #[.pointer (some ⟨PB,0,none⟩),.int .i64 (root:Int)] w fun e w'=>∃TP,e=.returned (.tuple #[.pointer (some ⟨TP,0,none⟩),.nilIface])/\TreeAt w' TP PB root/\w.heap.size<=TP/\Gr w w':=by
 have hrt:=root_s h.s root hr
 have HRT:=Lib.hid hrt
 clear hrt
 go_enter Tryz.func36,Tryz.ntmps36
 go_wp2_with fail
 refine HRT.out.mono ?_
 rintro e w1 ⟨rfl,hg1⟩
 have gA:Gr w1 (w1.alloc (.cells #[.pointer (some ⟨PB,0,none⟩),.int .i64 (root:Int)] 167)):=(Gr.refl w1).alloc _
 have k0:(w1.alloc (.cells #[.pointer (some ⟨PB,0,none⟩),.int .i64 (root:Int)] 167)).cell? ⟨w1.heap.size,0,none⟩=some (.pointer (some ⟨PB,0,none⟩)):=by rw[World.cell?_alloc_new];rfl
 have k1:(w1.alloc (.cells #[.pointer (some ⟨PB,0,none⟩),.int .i64 (root:Int)] 167)).cell? ⟨w1.heap.size,1,none⟩=some (.int .i64 (root:Int)):=by rw[World.cell?_alloc_new];rfl
 have HX:=Lib.hid (And.intro (TreeAt.mk k0 k1) (And.intro hg1.size (hg1.trans gA)))
 clear gA k0 k1 hg1
 go_wp2_with fail
 go_ret2
 exact⟨_,rfl,HX.out.1,HX.out.2.1,HX.out.2.2⟩
end
structure FdW(w:World)(FP TP PB DB M:Nat)(c:Ch)(sv:Head)(t:Int)(d:Dk):Prop where
 pg:PgT w PB DB M c sv t d
 p:w.cell? ⟨FP,0,none⟩=some (.pointer (some ⟨TP,0,none⟩))
 t:TreeAt w TP PB 3
 fn:FP≠PB/\FP≠DB/\FP≠M
 tn:TP≠PB/\TP≠DB/\TP≠M
theorem FdW.gr{w w':World}{FP TP PB DB M:Nat}{c:Ch}{sv:Head}{t:Int}{d:Dk}(h:FdW w FP TP PB DB M c sv t d)(g:Gr w w'):FdW w' FP TP PB DB M c sv t d:=⟨h.pg.gr g,g.keeps h.p,h.t.gr g,h.fn,h.tn⟩
theorem FdW.act{w w':World}{FP TP PB DB M:Nat}{c c':Ch}{sv:Head}{t:Int}{d:Dk}(h:FdW w FP TP PB DB M c sv t d)(hp:PgT w' PB DB M c' sv t d)(g:PgF PB DB M M w w'):FdW w' FP TP PB DB M c' sv t d:=⟨hp,g.keeps h.fn.1 h.fn.2.1 h.fn.2.2 h.p,h.t.pg g h.tn.1 h.tn.2.1 h.tn.2.2,h.fn,h.tn⟩
theorem FdW.lt{w:World}{FP TP PB DB M:Nat}{c:Ch}{sv:Head}{t:Int}{d:Dk}(h:FdW w FP TP PB DB M c sv t d):FP<w.heap.size/\TP<w.heap.size/\PB<w.heap.size/\DB<w.heap.size/\M<w.heap.size:=⟨lt_of_cell h.p,lt_of_cell h.t.p,h.pg.lt.1,h.pg.lt.2.1,h.pg.lt.2.2⟩
theorem over_n(TP:Nat)(w:World):Calls Tryz.prog 37 #[.pointer (some ⟨TP,0,none⟩)] w fun e w'=>∃FP,e=.returned (.tuple #[.pointer (some ⟨FP,0,none⟩),.nilIface])/\w'.cell? ⟨FP,0,none⟩=some (.pointer (some ⟨TP,0,none⟩))/\FP=w.heap.size/\FP<w'.heap.size/\Gr w w':=by
 have gA:Gr w (w.alloc (.cells #[.pointer (some ⟨TP,0,none⟩)] 137)):=(Gr.refl w).alloc _
 have k0:(w.alloc (.cells #[.pointer (some ⟨TP,0,none⟩)] 137)).cell? ⟨w.heap.size,0,none⟩=some (.pointer (some ⟨TP,0,none⟩)):=by rw[World.cell?_alloc_new];rfl
 have HX:=Lib.hid (And.intro k0 (And.intro (lt_of_cell k0) gA))
 clear gA k0
 go_enter Tryz.func37,Tryz.ntmps37
 go_wp2_with fail
 go_ret2
 exact⟨_,rfl,HX.out.1,rfl,HX.out.2.1,HX.out.2.2⟩
theorem allocF_free(n:Nat)(h:n<=1999):FreeN n (Ch.new headZ).h:=by
 refine⟨(List.range 1999).map fun i=>i+1,?_,by simp;omega,fun k hk=>?_⟩
 ·exact List.pairwise_map.2 (List.nodup_range.imp fun{a b} h e=>h (by
   have e:a+1=b+1:=e
   omega))
 ·obtain⟨i,hi,rfl⟩:=List.mem_map.1 hk
  have:=List.mem_range.1 hi
  refine⟨by omega,by omega,?_⟩
  show decide (i+1=0)=false
  simp
theorem open_w(w:World):Calls Tryz.prog 8 #[] w fun e w'=>∃FP TP PB DB M,e=.returned (.pointer (some ⟨FP,0,none⟩))/\FdW w' FP TP PB DB M (Ch.new headZ) headZ 0 dk0/\(w.heap.size<=FP/\w.heap.size<=TP/\w.heap.size<=PB/\w.heap.size<=DB/\w.heap.size<=M)/\Gr w w':=by
 go_enter Tryz.func8,Tryz.ntmps8
 go_wp2_with fail
 have hg0:Gr w (w.alloc (.cells Tryz.zeroCells89 89)):=(Gr.refl w).alloc _
 have hd0:=disk_made w
 generalize(Tryz.zeroCells89)=Z at*
 have HG0:=Lib.hid hg0
 have HD0:=Lib.hid hd0
 clear hg0 hd0
 generalize hDB:w.heap.size=DB at*
 have HDB:=Lib.hid hDB
 clear hDB
 refine(open_s DB dk0 headZ _ HD0.out clean0 (by decide)).mono ?_
 rintro e w1 ⟨PB,M,rfl,hs,hle1,hle2,hgx⟩
 rw[headD_zero]at hs
 have HB:Hid (w.heap.size<=PB/\w.heap.size<=DB/\w.heap.size<=M):=Lib.hid (by have:=HG0.out.size;have:=HDB.out;omega)
 have hp1:PgT w1 PB DB M (Ch.new headZ) headZ 0 dk0:=⟨hs.mono (by omega),Ch.new_fine headZ_fine⟩
 have HP1:=Lib.hid hp1
 have HG1:=Lib.hid (hgx.gr HG0.out (fun k e=>by have e2:k=DB:=e;rw[e2];exact HB.out.2.1))
 clear hs hle1 hle2 hgx hp1
 go_wp2_with fail
 refine(at_n HP1.out (root:=3) (by omega)).mono ?_
 rintro e w2 ⟨TP,rfl,ht2,hle,hg2⟩
 have hlt:=HP1.out.lt
 have hTn:TP≠PB/\TP≠DB/\TP≠M:=by omega
 have hp2:=HP1.out.gr hg2
 have HP2:=Lib.hid (And.intro hp2 (And.intro ht2 (And.intro hTn (And.intro hle hg2))))
 clear hp2 ht2 hTn hle hg2 hlt
 go_wp2_with fail
 refine(over_n TP w2).mono ?_
 rintro e w3 ⟨FP,rfl,k0,hFP,hFl,hg3⟩
 have hR:FdW w3 FP TP PB DB M (Ch.new headZ) headZ 0 dk0/\(w.heap.size<=FP/\w.heap.size<=TP/\w.heap.size<=PB/\w.heap.size<=DB/\w.heap.size<=M)/\Gr w w3:=by
  obtain⟨hp2,ht2,hTn,hle,hg2⟩:=HP2.out
  have h1:=hp2.lt
  have h2:=HG1.out.size
  have h3:=hg2.size
  have h4:=HB.out
  exact⟨⟨hp2.gr hg3,k0,ht2.gr hg3,by omega,hTn⟩,by omega,(HG1.out.trans hg2).trans hg3⟩
 have HR:=Lib.hid hR
 clear hR k0 hFP hFl hg3
 go_wp2_with fail
 go_ret
 exact⟨_,_,_,_,_,rfl,HR.out⟩
theorem found_w(w:World):Calls Tryz.prog 15 #[] w fun e w'=>∃FP TP PB DB M,e=.returned (.pointer (some ⟨FP,0,none⟩))/\FdW w' FP TP PB DB M (Ch.new headZ) headZ 0 dk0/\(w.heap.size<=FP/\w.heap.size<=TP/\w.heap.size<=PB/\w.heap.size<=DB/\w.heap.size<=M)/\Gr w w':=by
 go_enter Tryz.func15,Tryz.ntmps15
 go_wp2_with fail
 have hg0:Gr w (w.alloc (.cells Tryz.zeroCells89 89)):=(Gr.refl w).alloc _
 have hd0:=disk_made w
 generalize(Tryz.zeroCells89)=Z at*
 have HG0:=Lib.hid hg0
 have HD0:=Lib.hid hd0
 clear hg0 hd0
 generalize hDB:w.heap.size=DB at*
 have HDB:=Lib.hid hDB
 clear hDB
 refine(open_s DB dk0 headZ _ HD0.out clean0 (by decide)).mono ?_
 rintro e w1 ⟨PB,M,rfl,hs,hle1,hle2,hgx⟩
 rw[headD_zero]at hs
 have HB:Hid (w.heap.size<=PB/\w.heap.size<=DB/\w.heap.size<=M):=Lib.hid (by have:=HG0.out.size;have:=HDB.out;omega)
 have hp1:PgT w1 PB DB M (Ch.new headZ) headZ 0 dk0:=⟨hs.mono (by omega),Ch.new_fine headZ_fine⟩
 have HP1:=Lib.hid hp1
 have HG1:=Lib.hid (hgx.gr HG0.out (fun k e=>by have e2:k=DB:=e;rw[e2];exact HB.out.2.1))
 clear hs hle1 hle2 hgx hp1
 go_wp2_with fail
 refine(at_n HP1.out (root:=3) (by omega)).mono ?_
 rintro e w2 ⟨TP,rfl,ht2,hle,hg2⟩
 have hlt:=HP1.out.lt
 have hTn:TP≠PB/\TP≠DB/\TP≠M:=by omega
 have hp2:=HP1.out.gr hg2
 have HP2:=Lib.hid (And.intro hp2 (And.intro ht2 (And.intro hTn (And.intro hle hg2))))
 clear hp2 ht2 hTn hle hg2 hlt
 go_wp2_with fail
 refine(over_n TP w2).mono ?_
 rintro e w3 ⟨FP,rfl,k0,hFP,hFl,hg3⟩
 have hR:FdW w3 FP TP PB DB M (Ch.new headZ) headZ 0 dk0/\(w.heap.size<=FP/\w.heap.size<=TP/\w.heap.size<=PB/\w.heap.size<=DB/\w.heap.size<=M)/\Gr w w3:=by
  obtain⟨hp2,ht2,hTn,hle,hg2⟩:=HP2.out
  have h1:=hp2.lt
  have h2:=HG1.out.size
  have h3:=hg2.size
  have h4:=HB.out
  exact⟨⟨hp2.gr hg3,k0,ht2.gr hg3,by omega,hTn⟩,by omega,(HG1.out.trans hg2).trans hg3⟩
 have HR:=Lib.hid hR
 clear hR k0 hFP hFl hg3
 go_wp2_with fail
 go_ret
 exact⟨_,_,_,_,_,rfl,HR.out⟩
theorem enc_small{a p:GPlace}(ha:0<=a.1/\0<=a.2)(hp:0<=p.1/\p.1<=8000/\0<=p.2/\p.2<=63):(encP a p).length<=3:=by
 unfold encP
 split
 ·rw[sevenB_small _ (by omega)]
  simp
 ·have:=sevenB_len 1 (2*(p.1-a.1)+1).toNat (by omega)
  rw[List.length_append,sevenB_small p.2.toNat (by omega)]
  simp only[List.length_cons,List.length_nil]
  omega
theorem writeP_small{l:List GPlace}(h:∀p∈l,0<=p.1/\p.1<=8000/\0<=p.2/\p.2<=63):(writeP l).length<=3*l.length:=by
 have hd:∀i,0<=(l.getD i (0,0)).1/\(l.getD i (0,0)).1<=8000/\0<=(l.getD i (0,0)).2/\(l.getD i (0,0)).2<=63:=fun i=>by
  rw[List.getD_eq_getElem?_getD]
  cases hx:l[i]? with
  |none=>simp
  |some p=>exact h p (List.mem_of_getElem? hx)
 have main:∀k,(wrP l k).length<=3*k:=by
  intro k
  induction k with
  |zero=>simp[wrP]
  |succ k ih=>
   rw[wrP_succ,List.length_append]
   have h1:0<=(prevAt l k).1/\0<=(prevAt l k).2:=by
    cases k with
    |zero=>exact⟨Int.le_refl _,Int.le_refl _⟩
    |succ k=>exact⟨(hd k).1,(hd k).2.2.1⟩
   have h2:=enc_small h1 (hd k)
   omega
 exact main l.length
def rowOf(l:List GPlace):Int:=(l.headD (0,0)).1
def midRow(l:List GPlace):Int:=(setOf lessI (l.map (·.1))).getD ((setOf lessI (l.map (·.1))).length/2) 0
def firstAt(l:List GPlace)(c:Int):Nat:=l.findIdx fun p=>p.1==c
def cutNP(l:List GPlace):Nat->Nat->Nat
 |0,n=>n
 |f+1,n=>if(writeP (l.take n)).length<=100 then n else cutNP l f (firstAt l (midRow (l.take n)))
def cutP(l:List GPlace):Nat:=cutNP l l.length l.length
def pcsF:Nat->List GPlace->List (List GPlace)
 |0,_=>[]
 |_+1,[]=>[]
 |f+1,p::l=>((p::l).take (cutP (p::l)))::pcsF f ((p::l).drop (cutP (p::l)))
def pcs(l:List GPlace):List (List GPlace):=pcsF l.length l
def Whole(l:List GPlace)(n:Nat):Prop:=∀p∈l.take n,∀q∈l.drop n,p.1<q.1
structure CutOk(l:List GPlace):Prop where
 up:l.Pairwise fun a b=>beforeB a b=true
 one:∀c:Int,∀m:List GPlace,m.Sublist l->(∀p∈m,p.1=c)->(writeP m).length<=100
theorem CutOk.rows{l:List GPlace}(h:CutOk l):l.Pairwise fun a b=>a.1<=b.1:=h.up.imp fun{a b} hab=>by
 rw[before_iff]at hab
 omega
theorem firstAt_whole{l:List GPlace}(h:l.Pairwise fun a b=>a.1<=b.1)(c:Int):Whole l (firstAt l c):=by
 induction l with
 |nil=>intro p hp;simp at hp
 |cons x l ih=>
  obtain⟨h1,h2⟩:=List.pairwise_cons.1 h
  unfold firstAt
  rw[List.findIdx_cons]
  by_cases hx:x.1=c
  ·rw[show(x.1==c)=true by simpa using hx]
   intro p hp
   simp at hp
  ·rw[show(x.1==c)=false by simpa using hx]
   simp only[cond_false]
   have ih:=ih h2
   intro p hp q hq
   rw[List.take_succ_cons]at hp
   rw[List.drop_succ_cons]at hq
   rcases List.mem_cons.1 hp with e|hp
   ·subst e
    have hq2:q∈l:=List.mem_of_mem_drop hq
    have hle:=h1 q hq2
    rcases Int.lt_or_eq_of_le hle with h3|h3
    ·exact h3
    ·exfalso
     obtain⟨i,hi,he⟩:=List.getElem_of_mem hq
     rw[List.getElem_drop]at he
     rw[List.length_drop]at hi
     have hlt:l.findIdx (fun p=>p.1==c)<l.length:=by omega
     have hc:=List.findIdx_getElem (w:=hlt)
     have hc:l[l.findIdx (fun p=>p.1==c)].1=c:=by simpa using hc
     have h4:l[l.findIdx (fun p=>p.1==c)].1<=q.1:=by
      rcases Nat.eq_zero_or_pos i with e|e
      ·subst e
       rw[<-he]
       exact Int.le_refl _
      ·rw[<-he]
       exact(List.pairwise_iff_getElem.1 h2) _ _ hlt (by omega) (by omega)
     have h5:=h1 _ (List.getElem_mem hlt)
     omega
   ·exact ih p hp q hq
theorem first_zero:∀{l:List GPlace} {c:Int} (h:0<l.length),firstAt l c=0->l[0].1=c
 |a::r,c,_,e=>by
  unfold firstAt at e
  rw[List.findIdx_cons]at e
  cases hx:(a.1==c)with
  |true=>simpa using hx
  |false=>
   rw[hx]at e
   simp at e
theorem mid_row{l:List GPlace}(h:CutOk l){n:Nat}(hn:n<=l.length)(hbig:¬(writeP (l.take n)).length<=100):0<firstAt l (midRow (l.take n))/\firstAt l (midRow (l.take n))<n:=by
 have hsub:(l.take n).Sublist l:=List.take_sublist n l
 obtain⟨R,hR⟩:∃R,setOf lessI ((l.take n).map (·.1))=R:=⟨_,rfl⟩
 have hRr:Rising lessI R:=by rw[<-hR];exact setOf_rising parts_int _
 have hRm:∀x,x∈R↔x∈(l.take n).map (·.1):=fun x=>by rw[<-hR];exact setOf_mem lessI _ x
 have h2:2<=R.length:=by
  rcases R with _|⟨a,_|⟨b,r⟩⟩
  ·exfalso
   have:l.take n=[]:=by
    cases ht:l.take n with
    |nil=>rfl
    |cons p r=>
     have:=(hRm p.1).2 (by rw[ht];simp)
     simp at this
   rw[this]at hbig
   exact hbig (by simp[writeP,wrP])
  ·exfalso
   refine hbig (h.one a (l.take n) hsub fun p hp=>?_)
   have:=(hRm p.1).2 (List.mem_map_of_mem hp)
   simpa using this
  ·simp
 have hmid:midRow (l.take n)=R[R.length/2]'(by omega):=by
  unfold midRow
  rw[hR,List.getD_eq_getElem?_getD,List.getElem?_eq_getElem (by omega)]
  rfl
 have hmem:midRow (l.take n)∈(l.take n).map (·.1):=(hRm _).1 (by rw[hmid];exact List.getElem_mem _)
 obtain⟨p,hp,hpc⟩:=List.mem_map.1 hmem
 have hfirst:R[0]'(by omega)<midRow (l.take n):=by
  rw[hmid]
  have:=(List.pairwise_iff_getElem.1 hRr) 0 (R.length/2) (by omega) (by omega) (by omega)
  simpa[lessI]using this
 constructor
 ·rcases Nat.eq_zero_or_pos (firstAt l (midRow (l.take n)))with e|e
  ·exfalso
   have hl0:0<l.length:=by
    cases l with
    |nil=>simp at hp
    |cons a r=>simp
   have hlt:firstAt l (midRow (l.take n))<l.length:=by rw[e];exact hl0
   have hc0:l[0].1=midRow (l.take n):=first_zero hl0 e
   obtain⟨q,hq,hqc⟩:=List.mem_map.1 ((hRm (R[0]'(by omega))).1 (List.getElem_mem _))
   have hql:q∈l:=List.mem_of_mem_take hq
   obtain⟨i,hi,he⟩:=List.getElem_of_mem hql
   have h3:l[0].1<=q.1:=by
    rcases Nat.eq_zero_or_pos i with e2|e2
    ·subst e2
     rw[<-he]
     exact Int.le_refl _
    ·rw[<-he]
     exact(List.pairwise_iff_getElem.1 h.rows) _ _ hl0 hi e2
   have hqc:q.1=R[0]'(by omega):=hqc
   omega
  ·exact e
 ·obtain⟨i,hi,he⟩:=List.getElem_of_mem hp
  rw[List.length_take]at hi
  rw[List.getElem_take]at he
  have:firstAt l (midRow (l.take n))<=i:=by
   refine Nat.le_of_not_lt fun hlt=>?_
   have:=List.not_of_lt_findIdx (p:=fun p:GPlace=>p.1==midRow (l.take n)) (xs:=l) (i:=i) hlt
   rw[he]at this
   have hpc:p.1=midRow (l.take n):=hpc
   simp[hpc]at this
  omega
theorem cutNP_ok{l:List GPlace}(h:CutOk l)(h0:l≠[]):∀f n,n<=f->0<n->n<=l.length->Whole l n->0<cutNP l f n/\cutNP l f n<=l.length/\Whole l (cutNP l f n)/\(writeP (l.take (cutNP l f n))).length<=100
 |0,n,h1,h2,_,_=>by omega
 |f+1,n,h1,h2,h3,h4=>by
  unfold cutNP
  split
  ·rename_i hs
   exact⟨h2,h3,h4,hs⟩
  ·rename_i hs
   obtain⟨m1,m2⟩:=mid_row h h3 hs
   exact cutNP_ok h h0 f _ (by omega) m1 (by omega) (firstAt_whole h.rows _)
theorem cutP_ok{l:List GPlace}(h:CutOk l)(h0:l≠[]):0<cutP l/\cutP l<=l.length/\Whole l (cutP l)/\(writeP (l.take (cutP l))).length<=100:=
 cutNP_ok h h0 _ _ (Nat.le_refl _) (List.length_pos_iff.2 h0) (Nat.le_refl _) (fun p _ q hq=>by simp at hq)
theorem CutOk.drop{l:List GPlace}(h:CutOk l)(n:Nat):CutOk (l.drop n):=⟨h.up.sublist (List.drop_sublist n l),fun c m hm hc=>h.one c m (hm.trans (List.drop_sublist n l)) hc⟩
structure PcOk(PS:List (List GPlace)):Prop where
 ne:∀l∈PS,l≠[]/\(writeP l).length<=100
 apart:PS.Pairwise fun a b=>∀p∈a,∀q∈b,p.1<q.1
theorem pcsF_ok:∀(f:Nat) (l:List GPlace),l.length<=f->CutOk l->(pcsF f l).flatten=l/\PcOk (pcsF f l)
 |0,l,h,_=>by
  have:l=[]:=List.eq_nil_of_length_eq_zero (by omega)
  subst this
  exact⟨rfl,⟨fun l hl=>by simp[pcsF]at hl,by simp[pcsF]⟩⟩
 |f+1,[],_,_=>⟨rfl,⟨fun l hl=>by simp[pcsF]at hl,by simp[pcsF]⟩⟩
 |f+1,p::l,h,hc=>by
  obtain⟨c1,c2,c3,c4⟩:=cutP_ok hc (by simp)
  obtain⟨h1,h2⟩:=pcsF_ok f ((p::l).drop (cutP (p::l))) (by rw[List.length_drop];omega) (hc.drop _)
  refine⟨?_,⟨fun m hm=>?_,?_⟩⟩
  ·show((p::l).take (cutP (p::l)))++(pcsF f ((p::l).drop (cutP (p::l)))).flatten=p::l
   rw[h1,List.take_append_drop]
  ·rcases List.mem_cons.1 hm with e|hm
   ·rw[e]
    refine⟨fun h5=>?_,c4⟩
    rcases List.take_eq_nil_iff.1 h5 with h6|h6
    ·omega
    ·cases h6
   ·exact h2.ne m hm
  ·refine List.pairwise_cons.2 ⟨fun m hm a ha b hb=>?_,h2.apart⟩
   refine c3 a ha b ?_
   rw[<-h1]
   exact List.mem_flatten.2 ⟨m,hm,hb⟩
theorem pcs_ok{l:List GPlace}(h:CutOk l):(pcs l).flatten=l/\PcOk (pcs l):=pcsF_ok _ l (Nat.le_refl _) h
theorem pcsF_eq:∀(f g:Nat) (l:List GPlace),l.length<=f->l.length<=g->CutOk l->pcsF f l=pcsF g l
 |0,g,l,h,_,_=>by
  have:l=[]:=List.eq_nil_of_length_eq_zero (by omega)
  subst this
  cases g<;>rfl
 |f+1,g,[],_,_,_=>by cases g<;>rfl
 |f+1,0,p::l,_,h,_=>by simp at h
 |f+1,g+1,p::l,h1,h2,hc=>by
  obtain⟨c1,c2,_⟩:=cutP_ok hc (by simp)
  unfold pcsF
  congr 1
  exact pcsF_eq f g _ (by rw[List.length_drop];omega) (by rw[List.length_drop];omega) (hc.drop _)
theorem pcs_cons{l:List GPlace}(h:CutOk l)(h0:l≠[]):pcs l=l.take (cutP l)::pcs (l.drop (cutP l)):=by
 cases l with
 |nil=>exact absurd rfl h0
 |cons p r=>
  obtain⟨c1,c2,_⟩:=cutP_ok h h0
  show(p::r).take (cutP (p::r))::pcsF r.length ((p::r).drop (cutP (p::r)))=_
  congr 1
  refine pcsF_eq _ _ _ ?_ (Nat.le_refl _) (h.drop _)
  rw[List.length_cons]at c2
  rw[List.length_drop,List.length_cons]
  omega
theorem preA_append(a b:LP)(s:ByteArray):preA (a++b) s=preA a s++preA b s:=List.filter_append ..
theorem preA_in{k v s:ByteArray}(h:preB s k=true)(r:LP):preA ((k,v)::r) s=(k,v)::preA r s:=List.filter_cons_of_pos (by simpa using h)
theorem preA_out{k v s:ByteArray}(h:preB s k=false)(r:LP):preA ((k,v)::r) s=preA r s:=List.filter_cons_of_neg (by simp[h])
theorem preA_put_in(K:LP){k s:ByteArray}(v:ByteArray)(h:preB s k=true):preA (putA K k v) s=putA (preA K s) k v:=by
 unfold putA
 rw[preA_append,preA_in h]
 unfold preA
 rw[List.filter_filter,List.filter_filter,List.filter_filter,List.filter_filter]
 congr 1
 ·exact List.filter_congr fun x _=>Bool.and_comm _ _
 ·congr 1
  exact List.filter_congr fun x _=>Bool.and_comm _ _
theorem preA_put_out{K:LP}(hs:SrtP K){k s:ByteArray}(v:ByteArray)(h:preB s k=false):preA (putA K k v) s=preA K s:=by
 obtain⟨a,r,_,_,h3,_,h4⟩:=putA_is hs k
 rw[h3 v,preA_append,preA_out h]
 rcases h4 with⟨u,e,_⟩|⟨e,_⟩
 ·rw[e,preA_append,preA_out h]
 ·rw[e,preA_append]
theorem preA_drop(K:LP)(k s:ByteArray):preA (dropA K k) s=dropA (preA K s) k:=by
 unfold preA dropA
 rw[List.filter_filter,List.filter_filter]
 exact List.filter_congr fun x _=>Bool.and_comm _ _
theorem preA_drop_out(K:LP){k s:ByteArray}(h:preB s k=false):preA (dropA K k) s=preA K s:=by
 rw[preA_drop]
 refine filter_all fun x hx=>?_
 have h1:preB s x.1=true:=by
  have:=(List.mem_filter.1 hx).2
  simpa using this
 refine decide_eq_true fun e=>?_
 rw[e,h]at h1
 cases h1
theorem getA_append(a b:LP)(k:ByteArray):getA (a++b) k=(getA a k).or (getA b k):=by
 unfold getA
 rw[List.find?_append]
 cases a.find? fun x=>decide (x.1=k)<;>rfl
theorem getA_cons_ne{k k2 v:ByteArray}(h:k2≠k)(r:LP):getA ((k2,v)::r) k=getA r k:=by
 unfold getA
 rw[List.find?_cons_of_neg (by simpa using h)]
theorem getA_cons_eq(k v:ByteArray)(r:LP):getA ((k,v)::r) k=some v:=by
 unfold getA
 rw[List.find?_cons_of_pos (by simp)]
 rfl
theorem getA_put_ne{K:LP}(hs:SrtP K){k k2:ByteArray}(v:ByteArray)(h:k2≠k):getA (putA K k2 v) k=getA K k:=by
 obtain⟨a,r,_,_,h3,_,h4⟩:=putA_is hs k2
 rw[h3 v,getA_append,getA_cons_ne h]
 rcases h4 with⟨u,e,_⟩|⟨e,_⟩
 ·rw[e,getA_append,getA_cons_ne h]
 ·rw[e,getA_append]
theorem getA_below{a:LP}{k:ByteArray}(h:∀x∈a,ltB x.1 k):getA a k=none:=by
 unfold getA
 rw[List.find?_eq_none.2 fun x hx=>?_]
 ·rfl
 ·simp only[decide_eq_true_eq]
  intro e
  have:=h x hx
  rw[e]at this
  exact ltB_irrefl _ this
theorem getA_put_eq{K:LP}(hs:SrtP K)(k v:ByteArray):getA (putA K k v) k=some v:=by
 obtain⟨a,r,h1,_,h3,_,_⟩:=putA_is hs k
 rw[h3 v,getA_append,getA_cons_eq,getA_below h1]
 rfl
theorem getA_drop_ne{K:LP}{k k2:ByteArray}(h:k2≠k):getA (dropA K k2) k=getA K k:=by
 unfold getA dropA
 rw[List.find?_filter]
 congr 2
 funext x
 by_cases e:x.1=k
 ·have h2:¬k=k2:=fun e2=>h e2.symm
  simp[e,h2]
 ·simp[e]
def pcE(n w:ByteArray)(l:List GPlace):ByteArray×ByteArray:=(keyW n w (rowOf l),baL (writeP l))
theorem rowOf_mem{l:List GPlace}(h:l≠[]):∃p∈l,p.1=rowOf l:=by
 cases l with
 |nil=>exact absurd rfl h
 |cons a r=>exact⟨a,List.mem_cons_self,rfl⟩
structure WsOk(PS:List (List GPlace)):Prop where
 pc:PcOk PS
 fine:∀l∈PS,∀p∈l,inP p=true
 up:∀l∈PS,Rising beforeB l
theorem WsOk.sub{PS QS:List (List GPlace)}(h:WsOk PS)(hs:QS.Sublist PS):WsOk QS:=⟨⟨fun l hl=>h.pc.ne l (hs.subset hl),h.pc.apart.sublist hs⟩,fun l hl=>h.fine l (hs.subset hl),fun l hl=>h.up l (hs.subset hl)⟩
theorem WsOk.flat{PS:List (List GPlace)}(h:WsOk PS):Rising beforeB PS.flatten:=
 List.pairwise_flatten.2 ⟨h.up,h.pc.apart.imp fun{a b} hab p hp q hq=>before_iff.2 (.inl (hab p hp q hq))⟩
theorem WsOk.row{PS:List (List GPlace)}(h:WsOk PS){l:List GPlace}(hl:l∈PS):1<=rowOf l/\rowOf l<=1073741824:=by
 obtain⟨p,hp,e⟩:=rowOf_mem (h.pc.ne l hl).1
 have:=inP_iff.1 (h.fine l hl p hp)
 omega
theorem rows_lt{a b:List GPlace}(ha:a≠[])(hb:b≠[])(h:∀p∈a,∀q∈b,p.1<q.1):rowOf a<rowOf b:=by
 obtain⟨p,hp,e⟩:=rowOf_mem ha
 obtain⟨q,hq,e2⟩:=rowOf_mem hb
 rw[<-e,<-e2]
 exact h p hp q hq
section
variable{n w:ByteArray}(hn:OkW n)(hw:OkW w)
include hn hw
theorem pcE_lt{a b:List GPlace}(ha:a≠[])(hb:b≠[])(h:∀p∈a,∀q∈b,p.1<q.1)(ra:1<=rowOf a/\rowOf a<=1073741824)(rb:1<=rowOf b/\rowOf b<=1073741824):ltB (pcE n w a).1 (pcE n w b).1:=(keyW_lt hn hw ra rb).2 (rows_lt ha hb h)
theorem pieces_srt:∀{PS:List (List GPlace)},WsOk PS->PS.Pairwise fun a b=>ltB (pcE n w a).1 (pcE n w b).1:=fun{PS} h=>by
 refine h.pc.apart.imp_of_mem fun{a b} ha hb hab=>?_
 exact pcE_lt hn hw (h.pc.ne a ha).1 (h.pc.ne b hb).1 hab (h.row ha) (h.row hb)
theorem pieces_put{A B:List (List GPlace)}{c:List GPlace}(h:WsOk (A++c::B)):putA ((A++B).map (pcE n w)) (pcE n w c).1 (pcE n w c).2=(A++c::B).map (pcE n w):=by
 have hs:=pieces_srt hn hw h
 obtain⟨_,h2,h3⟩:=List.pairwise_append.1 hs
 obtain⟨h4,_⟩:=List.pairwise_cons.1 h2
 have h5:=putA_mid (A.map (pcE n w)) [] (B.map (pcE n w)) (pcE n w c).1 (pcE n w c).2 (fun x hx=>by
  obtain⟨a,ha,rfl⟩:=List.mem_map.1 hx
  exact h3 a ha c List.mem_cons_self) (fun x hx=>by
  obtain⟨b,hb,rfl⟩:=List.mem_map.1 hx
  exact h4 b hb)
 rw[List.append_nil]at h5
 rw[List.map_append,h5]
 unfold putA
 simp
theorem pieces_drop{A B:List (List GPlace)}{c:List GPlace}(h:WsOk (A++c::B)):dropA ((A++c::B).map (pcE n w)) (pcE n w c).1=(A++B).map (pcE n w)/\getA ((A++c::B).map (pcE n w)) (pcE n w c).1=some (pcE n w c).2:=by
 have hs:=pieces_srt hn hw h
 obtain⟨_,h2,h3⟩:=List.pairwise_append.1 hs
 obtain⟨h4,_⟩:=List.pairwise_cons.1 h2
 have ha:∀x∈A.map (pcE n w),ltB x.1 (pcE n w c).1:=fun x hx=>by
  obtain⟨a,ha,rfl⟩:=List.mem_map.1 hx
  exact h3 a ha c List.mem_cons_self
 have hb:∀x∈B.map (pcE n w),ltB (pcE n w c).1 x.1:=fun x hx=>by
  obtain⟨b,hb,rfl⟩:=List.mem_map.1 hx
  exact h4 b hb
 have e:(A++c::B).map (pcE n w)=A.map (pcE n w)++[pcE n w c]++B.map (pcE n w):=by simp
 constructor
 ·rw[e,dropA_mid _ _ _ _ ha hb]
  unfold dropA
  simp
 ·rw[e,getA_mid _ _ _ _ ha hb]
  exact getA_cons_eq _ _ _
end
structure Rest(n w:ByteArray)(K0 K:LP):Prop where
 oth:∀w2,OkW w2->w2≠w->preA K (headW n w2)=preA K0 (headW n w2)
 cnt:getA K manyK=getA K0 manyK
 keys:∀e∈K,e∈K0\/∃r,(1<=r/\r<=1073741824)/\e.1=keyW n w r
theorem Rest.refl(n w:ByteArray)(K:LP):Rest n w K K:=⟨fun _ _ _=>rfl,rfl,fun _ h=>.inl h⟩
theorem not_pre_other{n w w2:ByteArray}(hw:OkW w)(hw2:OkW w2)(h:w2≠w)(r:Int):preB (headW n w2) (keyW n w r)=false:=by
 rw[pre_word_iff hw2 hw r]
 exact decide_eq_false h
theorem keyW_many(n w:ByteArray)(r:Int):keyW n w r≠manyK:=fun e=>by
 have h:=many_keyW n w r
 rw[e]at h
 exact ltB_irrefl _ h
theorem Rest.put{n w:ByteArray}(hw:OkW w){K0 K:LP}(h:Rest n w K0 K)(hs:SrtP K){r:Int}(hr:1<=r/\r<=1073741824)(v:ByteArray):Rest n w K0 (putA K (keyW n w r) v):=by
 refine⟨fun w2 h2 hne=>?_,?_,fun e he=>?_⟩
 ·rw[preA_put_out hs v (not_pre_other hw h2 hne r),h.oth w2 h2 hne]
 ·rw[getA_put_ne hs v (keyW_many n w r),h.cnt]
 ·rcases mem_putA he with h1|h1
  ·exact h.keys e h1
  ·rw[h1]
   exact .inr ⟨r,hr,rfl⟩
theorem Rest.drop{n w:ByteArray}(hw:OkW w){K0 K:LP}(h:Rest n w K0 K)(r:Int):Rest n w K0 (dropA K (keyW n w r)):=by
 refine⟨fun w2 h2 hne=>?_,?_,fun e he=>h.keys e (mem_dropA he)⟩
 ·rw[preA_drop_out K (not_pre_other hw h2 hne r),h.oth w2 h2 hne]
 ·rw[getA_drop_ne (keyW_many n w r),h.cnt]
def wPcs(ω:Wt)(n w:ByteArray)(ls:List (List GPlace)):Nat:=wsum ω (ls.map (pcE n w))
theorem wPcs_cons(ω:Wt)(n w:ByteArray)(l:List GPlace)(ls:List (List GPlace)):wPcs ω n w (l::ls)=ω (pcE n w l).1 (pcE n w l).2+wPcs ω n w ls:=by
 unfold wPcs
 rw[List.map_cons,wsum_cons]
theorem getA_none{K:LP}{k:ByteArray}(h:getA K k=none):∀e∈K,e.1≠k:=fun e he hk=>by
 unfold getA at h
 have h1:(K.find? fun x=>decide (x.1=k))=none:=by
  cases hf:K.find? fun x=>decide (x.1=k)with
  |none=>rfl
  |some x=>rw[hf]at h;cases h
 have:=List.find?_eq_none.1 h1 e he
 simp[hk]at this
theorem getA_pre{K:LP}{k s:ByteArray}(h:preB s k=true):getA (preA K s) k=getA K k:=by
 unfold getA preA
 rw[List.find?_filter]
 congr 2
 funext x
 by_cases e:x.1=k
 ·rw[e,h]
  simp
 ·simp[e]
section
variable{ω:Wt}{pg:Nat->ByteArray}{i:Nat}{n w:ByteArray}{c:Ch}{X:Tr}{K K0:LP}{A B todo:List (List GPlace)}{V S:Nat}{l:List GPlace}
end
structure AtRow(PS A P B:List (List GPlace))(row:Int):Prop where
 is:PS=A++(P++B)
 one:P.length<=1
 none:P=[]->A=[]
 low:∀l∈P,rowOf l<=row
 high:∀l∈B,row<rowOf l
theorem rising_rows{l:List GPlace}(h:Rising beforeB l):∀p∈l,rowOf l<=p.1:=by
 intro p hp
 cases l with
 |nil=>cases hp
 |cons a r=>
  rcases List.mem_cons.1 hp with e|hp
  ·rw[e]
   exact Int.le_refl _
  ·have:=before_iff.1 ((List.pairwise_cons.1 h).1 p hp)
   show a.1<=p.1
   omega
theorem AtRow.between{PS A P B:List (List GPlace)}{row:Int}(h:AtRow PS A P B row)(ok:WsOk PS){l:List GPlace}(hl:∀p∈l,p.1=row):
  (∀a∈A,∀p∈a,∀q∈setOf beforeB (P.flatten++l),p.1<q.1)/\(∀q∈setOf beforeB (P.flatten++l),∀b∈B,∀p∈b,q.1<p.1):=by
 have ap:=ok.pc.apart
 rw[h.is]at ap
 obtain⟨_,ap2,ap3⟩:=List.pairwise_append.1 ap
 obtain⟨_,_,ap4⟩:=List.pairwise_append.1 ap2
 constructor
 ·intro a ha p hp q hq
  rcases List.mem_append.1 ((setOf_mem _ _ _).1 hq)with hq|hq
  ·obtain⟨m,hm,hq⟩:=List.mem_flatten.1 hq
   exact ap3 a ha m (List.mem_append_left _ hm) p hp q hq
  ·rw[hl q hq]
   cases hP:P with
   |nil=>
    rw[h.none hP]at ha
    cases ha
   |cons m r=>
    have hm:m∈P:=by rw[hP];exact List.mem_cons_self
    have hmPS:m∈PS:=by rw[h.is];exact List.mem_append_right _ (List.mem_append_left _ hm)
    obtain⟨z,hz,e⟩:=rowOf_mem (ok.pc.ne m hmPS).1
    have h1:=ap3 a ha m (List.mem_append_left _ hm) p hp z hz
    have h2:=h.low m hm
    omega
 ·intro q hq b hb p hp
  rcases List.mem_append.1 ((setOf_mem _ _ _).1 hq)with hq|hq
  ·obtain⟨m,hm,hq⟩:=List.mem_flatten.1 hq
   exact ap4 m hm b hb q hq p hp
  ·rw[hl q hq]
   have h1:=h.high b hb
   have hbPS:b∈PS:=by rw[h.is];exact List.mem_append_right _ (List.mem_append_right _ hb)
   have h2:=rising_rows (ok.up b hbPS) p hp
   omega
theorem AtRow.ok{PS A P B:List (List GPlace)}{row:Int}(h:AtRow PS A P B row)(ok:WsOk PS){l:List GPlace}(hl:∀p∈l,p.1=row)(hin:∀p∈l,inP p=true)(hc:CutOk (setOf beforeB (P.flatten++l))):
  WsOk (A++(pcs (setOf beforeB (P.flatten++l))++B))/\(A++(pcs (setOf beforeB (P.flatten++l))++B)).flatten=setOf beforeB (PS.flatten++l):=by
 obtain⟨b1,b2⟩:=h.between ok hl
 obtain⟨p1,p2⟩:=pcs_ok hc
 obtain⟨C,hC⟩:∃C,pcs (setOf beforeB (P.flatten++l))=C:=⟨_,rfl⟩
 rw[hC]at p1 p2⊢
 have hmem:∀c∈C,∀p∈c,p∈setOf beforeB (P.flatten++l):=fun c hc p hp=>by
  rw[<-p1]
  exact List.mem_flatten.2 ⟨c,hc,hp⟩
 have hPS:∀m,m∈A\/m∈P\/m∈B->m∈PS:=fun m hm=>by
  rw[h.is]
  rcases hm with hm|hm|hm
  ·exact List.mem_append_left _ hm
  ·exact List.mem_append_right _ (List.mem_append_left _ hm)
  ·exact List.mem_append_right _ (List.mem_append_right _ hm)
 have ap:=ok.pc.apart
 rw[h.is]at ap
 obtain⟨ap1,ap2,ap3⟩:=List.pairwise_append.1 ap
 obtain⟨_,ap5,ap4⟩:=List.pairwise_append.1 ap2
 have key:∀m∈A++(C++B),m∈PS\/m∈C:=fun m hm=>by
  rcases List.mem_append.1 hm with hm|hm
  ·exact .inl (hPS m (.inl hm))
  ·rcases List.mem_append.1 hm with hm|hm
   ·exact .inr hm
   ·exact .inl (hPS m (.inr (.inr hm)))
 have hws:WsOk (A++(C++B)):=by
  refine⟨⟨fun m hm=>(key m hm).elim (ok.pc.ne m) (p2.ne m),?_⟩,fun m hm=>(key m hm).elim (ok.fine m) fun hmC p hp=>?_,fun m hm=>(key m hm).elim (ok.up m) fun hmC=>?_⟩
  ·refine List.pairwise_append.2 ⟨ap1,List.pairwise_append.2 ⟨p2.apart,ap5,fun c hc b hb p hp q hq=>b2 p (hmem c hc p hp) b hb q hq⟩,fun a ha m hm p hp q hq=>?_⟩
   rcases List.mem_append.1 hm with hm|hm
   ·exact b1 a ha p hp q (hmem m hm q hq)
   ·exact ap3 a ha m (List.mem_append_right _ hm) p hp q hq
  ·rcases List.mem_append.1 ((setOf_mem _ _ _).1 (hmem m hmC p hp))with hq|hq
   ·obtain⟨z,hz,hq⟩:=List.mem_flatten.1 hq
    exact ok.fine z (hPS z (.inr (.inl hz))) p hq
   ·exact hin p hq
  ·have h1:Rising beforeB C.flatten:=by rw[p1];exact setOf_rising parts_place _
   exact(List.pairwise_flatten.1 h1).1 m hmC
 refine⟨hws,setOf_eq parts_place hws.flat fun x=>?_⟩
 rw[h.is]
 simp only[List.flatten_append,List.mem_append,p1,setOf_mem]
 constructor
 ·rintro(h1|(h1|h1)|h1)
  ·exact .inl (.inl h1)
  ·exact .inl (.inr (.inl h1))
  ·exact .inr h1
  ·exact .inl (.inr (.inr h1))
 ·rintro((h1|h1|h1)|h1)
  ·exact .inl h1
  ·exact .inr (.inl (.inl h1))
  ·exact .inr (.inr h1)
  ·exact .inr (.inl (.inr h1))
section
variable{ω:Wt}{pg:Nat->ByteArray}{i:Nat}{n w:ByteArray}{c:Ch}{X:Tr}{K:LP}{PS A B:List (List GPlace)}{P l:List GPlace}{row:Int}{V:Nat}
end
def wtF:Wt:=fun k v=>max (pz k v) (match readL k.data.toList,readP v.data.toList with
 |some [_,u,_],some l=>(19+u.text.size)*l.length
 |_,_=>0)
theorem wtF_le:∀k v,pz k v<=wtF k v:=fun _ _=>Nat.le_max_left _ _
def SmallP(p:GPlace):Prop:=1<=p.1/\p.1<=8000/\0<=p.2/\p.2<=19
theorem SmallP.inP{p:GPlace}(h:SmallP p):inP p=true:=by
 unfold SmallP at h
 exact inP_iff.2 (by omega)
theorem places_of{l:List GPlace}(h:∀p∈l,inP p=true)(hr:Rising beforeB l):placesB l=true:=by
 refine placesB_true fun k hk=>?_
 unfold okAt
 have hg:l.getD k (0,0)=l[k]:=by
  rw[List.getD_eq_getElem?_getD,List.getElem?_eq_getElem hk]
  rfl
 rw[hg,h _ (List.getElem_mem hk),Bool.true_and,Bool.or_eq_true]
 cases k with
 |zero=>exact .inl rfl
 |succ k=>
  refine .inr ?_
  have h1:=(List.pairwise_iff_getElem.1 hr) k (k+1) (by omega) hk (by omega)
  show beforeB (l.getD k (0,0)) l[k+1]=true
  rw[List.getD_eq_getElem?_getD,List.getElem?_eq_getElem (by omega)]
  exact h1
theorem small_len{l:List GPlace}(h:∀p∈l,SmallP p):(writeP l).length<=3*l.length:=writeP_small fun p hp=>by
 have:=h p hp
 unfold SmallP at this
 omega
theorem wtF_pc{n w:ByteArray}(hn:OkW n)(hw:OkW w)(h1:n.size<=1){l:List GPlace}(h0:l≠[])(hs:∀p∈l,SmallP p)(hr:Rising beforeB l):wtF (pcE n w l).1 (pcE n w l).2=(19+w.size)*l.length:=by
 obtain⟨p,hp,e⟩:=rowOf_mem h0
 have hrow:1<=rowOf l/\rowOf l<=1073741824:=by
  have:=hs p hp
  unfold SmallP at this
  omega
 have e1:readL (keyW n w (rowOf l)).data.toList=some [txV n,txV w,nmV (rowOf l)]:=by
  refine read_key [txV n,txV w,nmV (rowOf l)] fun v hv=>?_
  rcases List.mem_cons.1 hv with e|hv
  ·rw[e];exact hn.fine
  rcases List.mem_cons.1 hv with e|hv
  ·rw[e];exact hw.fine
  rw[List.mem_singleton.1 hv];exact fine_num hrow
 have e2:readP (baL (writeP l)).data.toList=some l:=read_write (places_of (fun q hq=>(hs q hq).inP) hr)
 have hlen:=small_len hs
 have hL:1<=l.length:=List.length_pos_iff.2 h0
 have hz:pz (pcE n w l).1 (pcE n w l).2=2+(n.size+w.size+13)+(writeP l).length:=by
  unfold pz pcE
  simp only
  rw[keyW_size,baL_size]
 have hmul:(19+w.size)*l.length=3*l.length+(16+w.size)*l.length:=by
  rw[<-Nat.add_mul]
  congr 1
  omega
 have hge:16+w.size<=(16+w.size)*l.length:=Nat.le_mul_of_pos_right _ hL
 unfold wtF
 show max (pz (pcE n w l).1 (pcE n w l).2) (match readL (keyW n w (rowOf l)).data.toList,readP (baL (writeP l)).data.toList with
  |some [_,u,_],some l=>(19+u.text.size)*l.length
  |_,_=>0)=_
 rw[e1,e2]
 simp only
 have e3:(txV w).text.size=w.size:=rfl
 rw[e3]
 omega
theorem wPcs_is{n w:ByteArray}(hn:OkW n)(hw:OkW w)(h1:n.size<=1):∀{PS:List (List GPlace)},(∀l∈PS,l≠[]/\(∀p∈l,SmallP p)/\Rising beforeB l)->wPcs wtF n w PS=(19+w.size)*PS.flatten.length
 |[],_=>rfl
 |l::PS,h=>by
  have ih:=wPcs_is hn hw h1 (PS:=PS) fun m hm=>h m (List.mem_cons_of_mem _ hm)
  obtain⟨h2,h3,h4⟩:=h l List.mem_cons_self
  rw[wPcs_cons,ih,wtF_pc hn hw h1 h2 h3 h4,List.flatten_cons,List.length_append,Nat.mul_add]
theorem ints_few{l:List Int}(h:l.Pairwise (·<·)){n:Nat}(hb:∀x∈l,0<=x/\x<n):l.length<=n:=by
 have h1:(l.map Int.toNat).Nodup:=by
  refine List.pairwise_map.2 (h.imp_of_mem fun{a b} ha hb2 hab=>?_)
  have:=hb a ha
  have:=hb b hb2
  omega
 have:=nodup_lt n (l.map Int.toNat) h1 fun k hk=>by
  obtain⟨x,hx,rfl⟩:=List.mem_map.1 hk
  have:=hb x hx
  omega
 simpa using this
theorem cut_small{l:List GPlace}(hr:Rising beforeB l)(hs:∀p∈l,SmallP p):CutOk l:=by
 refine⟨hr,fun c m hm hc=>?_⟩
 have hsm:∀p∈m,SmallP p:=fun p hp=>hs p (hm.subset hp)
 have h1:=small_len hsm
 have h2:(m.map (·.2)).length<=20:=by
  refine ints_few (n:=20) ?_ fun x hx=>?_
  ·refine List.pairwise_map.2 ((hr.sublist hm).imp_of_mem fun{a b} ha hb hab=>?_)
   have e1:=hc a ha
   have e2:=hc b hb
   have:=before_iff.1 hab
   omega
  ·obtain⟨p,hp,rfl⟩:=List.mem_map.1 hx
   have:=hsm p hp
   unfold SmallP at this
   omega
 rw[List.length_map]at h2
 omega
