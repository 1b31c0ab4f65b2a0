/-
  Part 26 of the proof.
-/
import Derived.Test.YtldmhjbdahjhdaaGreatDoorZb24
import Derived.Test.YtldmhjbdahjhdaaGreatDoorZb22
import Derived.Test.YtldmhjbdahjhdaaGreatDoorZb18
open Go.Lib renaming hid->avJ
open Go.World renaming cell?_alloc_new->avK,ownsRow_nil->av1
open List renaming take_of_length_le->avL,length_cons->avM,length_take->avN,append_nil->avP,mem_cons_self->avS,take_succ_eq_append_getElem->avT,mem_flatMap->avU,length_append->avV,length_nil->avW,getElem_mem->avX,length_tail->avY,length_map->avZ,mem_cons_of_mem->av2,mem_singleton->av3,mem_map->av6,mem_append->av8,length_filter_le->av9,map_cons->awa,sum_cons->awb,foldl_append->awc,pairwise_map->awe,all_eq_true->awf,tail_suffix->awg
open Go.Proofs.Tryz renaming prog->avO,ntmps12->av7,func12->av_,ntmps51->awd,func51->awh
open Nat renaming le_refl->avQ,zero_le->avR,zero_add->av0,le_trans->av5
open Go.IntKind renaming wrap_i64->av4,i64->awi
open List.Pairwise renaming nil->awj
set_option maxRecDepth 100000
set_option maxHeartbeats 100000000
set_option linter.all false
namespace Go.Proofs.YtldmhjbdahjhdaaGreatDoor
section
open Go Go.RowKit
def pG{b:Type}(l:List (List b)):Nat:=(l.map fun x=>x.length+1).sum
theorem ub(p:UInt8->Bool):∀(l b:List UInt8),pG (dD p b l)<=b.length+l.length+1
 |[],b=>by
  rw[dD]
  split
  ·simp[pG]
  ·simp[pG]
 |c::l,b=>by
  rw[dD]
  split
  ·have:=ub p l (b++[c]);rw[avV]at this;simp only[avM,avW]at this⊢;omega
  ·split
   ·have:=ub p l [];simp only[avM,avW]at this⊢;omega
   ·have:=ub p l [];have e:pG (b::dD p [] l)=b.length+1+pG (dD p [] l):=by simp[pG]
    rw[e];simp only[avM,avW]at this⊢;omega
theorem EZ:∀(T:List (List UInt8×List UInt8)) (s:List UInt8),(∀e∈T,e.2.length<=e.1.length)->(ln T s).length<=s.length
 |[],s,_=>avQ _
 |( e,r)::rest,s,h=>by
   rw[ln];have b:=h (e,r) avS;simp only at b
   split
   · rename_i hs
     split
     ·exact avQ _
     ·rename_i y
      have z:e.length<=s.length:=(List.isSuffixOf_iff_suffix.1 hs).length_le;rw[avV,avN];omega
   · exact EZ rest s fun e q=>h e (av2 _ q)
theorem PF:∀e∈ll,e.2.length<=e.1.length:=by decide
theorem PG(y:List UInt8):(qM y).data.toList.length<=y.length:=by
 unfold qM xy;refine av5 (EZ ll _ PF) ?_;simp only[avN];omega
theorem JX{w:ByteArray}(h:Hb w.data.toList):bQ w/\w.size<=12/\1<=w.size:=by
 refine⟨⟨?_,by have:=h.2.1;omega⟩,by rw[size_data];exact h.2.1,?_⟩
 ·rw[awf];intro c hc;have b:=awf.1 h.2.2 c hc;have q:c≠0:=by
   intro e;subst e
   revert b
   decide
  simpa using q
 ·rw[size_data];cases s:w.data.toList with
  |nil=>exact absurd s h.1
  |cons a l=>simp
theorem JY(l:List (List UInt8)):pG (l.map fun x=>(qM (x.map dp)).data.toList)<=pG l:=by
 induction l with
 |nil=>exact avQ _
 |cons x l b=>
  have q:=PG (x.map dp);rw[avZ]at q;simp only[pG,awa,awb]at b⊢;omega
theorem PH(l:List ByteArray):pE l=18*l.length+pG (l.map fun x=>x.data.toList):=by
 induction l with
 |nil=>rfl
 |cons x l b=>
  rw[rJ,b];simp only[pG,awa,awb,avM,size_data];omega
theorem PI(l:List ByteArray)(h:∀x∈l,1<=x.size):2*l.length<=pG (l.map fun x=>x.data.toList):=by
 induction l with
 |nil=>exact avQ _
 |cons x l b=>
  have q:=h x avS;have s:=b fun y z=>h y (av2 _ z);rw[size_data]at q;simp only[pG,awa,awb,avM]at s⊢;omega
theorem nj{s:ByteArray}(hs:s.size<=40):(aB s).length<=20/\pE (aB s)<=401/\∀w∈aB s,bQ w/\w.size<=12:=by
 have hf:∀w∈aB s,bQ w/\w.size<=12/\1<=w.size:=fun w hw=>JX (xh s w hw);have q:pG ((aB s).map fun x=>x.data.toList)<=41:=by
  rw[uY,List.map_map];refine av5 (JY _) ?_;have:=ub cY s.data.toList [];rw[size_data]at hs;simp only[avW]at this;omega
 have y:=PI (aB s) fun x b=>(hf x b).2.2;refine⟨by omega,by rw[PH];omega,fun w hw=>⟨(hf w hw).1,(hf w hw).2.1⟩⟩
end
section
open Go Go.RowKit Go.Shelf Go.Lib Go.Sort
def hY(L:ByteArray->List aa)(fs:List ByteArray):List aa:=fs.foldl (fun a x=>setOf ae (a++L x)) []
theorem J0(L:ByteArray->List aa)(fs:List ByteArray)(i:Nat)(h:i<fs.length):hY L (fs.take (i+1))=setOf ae (hY L (fs.take i)++L fs[i]):=by
 unfold hY;rw[avT h,awc]
 rfl
def iU(L:ByteArray->List aa)(a:List aa)(ws:List ByteArray):List aa:=ws.foldl (fun a x=>iH a (L x)) a
theorem zI(L:ByteArray->List aa)(a:List aa)(ws:List ByteArray)(i:Nat)(h:i<ws.length):iU L a (ws.take (i+1))=iH (iU L a (ws.take i)) (L ws[i]):=by
 unfold iU;rw[avT h,awc]
 rfl
structure kY(X:Tr)(n:ByteArray)(L:ByteArray->List aa)(ls:List (ByteArray×Int×ByteArray)):Prop where
 has:∀wd,bQ wd->∃PS,xe X n wd PS/\PS.flatten=L wd
 Dr:∀wd,(L wd).length<=1000
 WJ:RV X n ls
 WK:∀e∈ls,bQ e.1
 WL:ls.length<=1000
 cap:∀fs,(hY L fs).length<=1000
section
variable{w:World}{FP TP PB DB M:Nat}{c:Ch}{sv:Head}{t:Int}{d:Dk}
theorem rN(h:fR w FP TP PB DB M c sv t d){X:Tr}(s:X.lays c d.pg 3){n:ByteArray}(hn:bQ n){L:ByteArray->List aa}{ls:List (ByteArray×Int×ByteArray)}(y:kY X n L ls){wd:ByteArray}(b:bQ wd){W:World}(g:Gr w W):
  Calls avO 21 #[.pointer (some ⟨FP,0,none⟩),.string n,.string wd] W fun e w'=>∃v,e=.returned (.tuple #[v,.nilIface])/\dj W w' v (L wd)/\Gr W w':=by
 obtain⟨G,z,B⟩:=y.has wd b;refine(ET (h.gr g) s hn b z).mono ?_;rintro e w' ⟨v,rfl,q,D⟩;rw[B]at q;exact⟨v,rfl,q.own,D⟩
theorem PM(h:fR w FP TP PB DB M c sv t d){X:Tr}(hl:X.lays c d.pg 3){n:ByteArray}(hn:bQ n){L:ByteArray->List aa}{ls:List (ByteArray×Int×ByteArray)}(hT:kY X n L ls){NB b:Nat}{y:ByteArray}{ws:List ByteArray}(hq:eQ NB w (.leaf 1 (y::ws) 0) b)(b0:∀x∈y::ws,bQ x)(i3:ws.length<=1000):
   Calls avO 51 #[.pointer (some ⟨FP,0,none⟩),.string n,.pointer (some ⟨b,0,none⟩)] w fun e w'=>∃v,e=.returned (.tuple #[v,.nilIface])/\eo w w' v (eS (iU L (setOf ae (L y)) ws))/\Gr w w':=by
 obtain⟨_,c0,⟨v,c1,ao,cc,bb,rfl,b1,b2⟩,c2,c3,c4⟩:=hq;obtain⟨rfl,_,e2⟩:=b1 (by simp);have b3:=fun(wd:ByteArray) (U:bQ wd) (W:World) (g:Gr w W)=>rN h hl hn hT U g;have b4:=avJ b3;have b5:=avJ b0;have D:=avJ hT.Dr;have h5:=avJ hT.cap;have b6:=avJ b2;have a3:(y::ws).length=ws.length+1:=rfl;rw[a3]at c1 e2;have i4:(1:Int)<=(cc:Int):=by omega
 have h6:1<=cc:=by omega
 have i5:(1:Int)<=((ws.length+1:Nat):Int):=by omega
 clear b3 b0 b2 h hl hn hT b1 a3;go_enter awh,awd;go_wp2_with fail
 go_loopw [11,51] (fun av iv w'=>∃i:Nat,i<=1/\iv=.int .i64 i/\dj w w' av (hY L ([y].take i))/\Gr w w') (fun _ iv _=>1-(intOf iv).toNat)
 case atStart=>exact⟨0,avR _,rfl,.inl ⟨rfl,rfl⟩,Gr.refl _⟩
 case round=>
  as_aux_lemma=>
   obtain⟨i,hi,rfl,B,z⟩:=hrel;by_cases V:i<1
   ·have e3:i=0:=by omega
    subst e3;have cw:=z.keeps (b6.out 0 (by simp));have e4:(y::ws)[0]'(by simp)=y:=rfl;rw[e4]at cw;rw[av0]at cw;have hp:=b4.out y (b5.out y avS) wr z;have HP:=avJ hp;have HO:=avJ B;have G:=avJ z;obtain⟨a1,b7,H⟩:=B.form;clear hp B z;subst H;go_wp2_with fail
    refine HP.out.mono ?_;rintro e w1 ⟨v1,rfl,q,s⟩;have c5:=D.out y;have c6:=wz (hY L ([y].take 0)) (L y) _ v1 w1 (HO.out.lp.gr s) q.lp (by show([]:List aa).length+_<=_;simp only[avW];omega);have e5:=avJ c6;have I:=avJ (G.out.trans s);obtain⟨a2,c7,J⟩:=q.form;clear c6 s q;subst J;go_wp2_with fail
    refine e5.out.mono ?_;rintro e w2 ⟨v2,rfl,O,Q⟩;have HR:=avJ (And.intro (O.back I.out) (I.out.trans Q));clear O Q;go_wp2_with fail
    exact⟨⟨1,avQ _,rfl,HR.out.1,HR.out.2⟩,by simp[intOf]⟩
   ·have e6:i=1:=by omega
    subst e6;have c8:hY L ([y].take 1)=setOf ae (L y):=rfl;rw[c8]at B;obtain⟨S,Y⟩:∃S,setOf ae (L y)=S:=⟨_,rfl⟩;rw[Y]at B;have a6:=avJ Y;have c9:S.length<=1000:=by
     rw[<-Y];have:=iy ae (L y);have:=D.out y;omega
    have e7:=avJ c9;have HO:=avJ B;have G:=avJ z;have d0:=z.keeps c0;have d1:=z.keeps c1;have d2:=z.keeps c2;clear B z c8 Y c9;go_wp2_with fail
    all_goals
     obtain⟨wo,d4⟩:∃wo,wr=wo:=⟨_,rfl⟩;rw[d4]at HO G⊢;clear d0 d1 d2 d4 wr;go_loopw [11,82] (fun av iv w'=>∃i:Nat,i<=ws.length/\iv=.int .i64 i/\dj w w' av (iU L S (ws.take i))/\Gr w w') (fun _ iv _=>ws.length-(intOf iv).toNat)
     case atStart=>exact⟨0,avR _,rfl,HO.out,G.out⟩
     case round=>
      as_aux_lemma=>
       obtain⟨i,hi,rfl,B,z⟩:=hrel;have d5:(iU L S (ws.take i)).length<=1000:=by
        cases i with
        |zero=>exact e7.out
        |succ j=>
          rw[zI L S ws j (by omega)];unfold iH;have h1:=av9 (fun x=>!!mT (iU L S (ws.take j)) x) (L (ws[j]'(by omega)));have h2:=D.out (ws[j]'(by omega));omega
       by_cases V:i<ws.length
       ·first
         |(exfalso;omega)
         |skip
        all_goals
          have e8:(i:Int)<(ws.length:Int):=by omega
          have cw:=z.keeps (b6.out (i+1) (by rw[avM];omega));rw[List.getElem_cons_succ,show 0+(i+1)=1+i by omega]at cw;have Z:=zI L S ws i V;have hp:=b4.out ws[i] (b5.out _ (av2 _ (avX V))) wr z;have c5:=D.out ws[i];obtain⟨wd,U⟩:∃wd,ws[i]=wd:=⟨_,rfl⟩;obtain⟨FA,d6⟩:∃FA,iU L S (ws.take i)=FA:=⟨_,rfl⟩;rw[U]at cw Z hp c5;rw[d6]at Z B d5;have d0:=z.keeps c0;have HP:=avJ hp;have HO:=avJ B;have G:=avJ z;have e9:=avJ Z;obtain⟨a1,b7,H⟩:=B.form;clear hp B z Z U d6;subst H;go_wp2_with fail
          refine HP.out.mono ?_;rintro e w1 ⟨v1,rfl,q,s⟩;have d7:=Oz FA (L wd) _ v1 w1 (HO.out.lp.gr s) q.lp (by omega) (by omega);have g0:=avJ d7;have I:=avJ (G.out.trans s);have d1:=s.keeps d0;obtain⟨a2,c7,J⟩:=q.form;clear d7 s q d0;subst J;go_wp2_with fail
          refine g0.out.mono ?_;rintro e w2 ⟨v2,rfl,O,Q⟩;have HR:=avJ (And.intro (O.back I.out) (I.out.trans Q));clear O Q;go_wp2_with fail
          exact⟨⟨i+1,V,by go_num,by rw[e9.out];exact HR.out.1,HR.out.2⟩,by simp[intOf];omega⟩
       ·have e8:¬(i:Int)<(ws.length:Int):=by omega
        have g3:ws.take i=ws:=avL (by omega);rw[g3]at B d5;have hh:=NP _ _ wr B.lp (by omega);rw[<-a6.out]at hh;have HH:=avJ hh;have G:=avJ z;obtain⟨a1,b7,H⟩:=B.form;clear hh B z;subst H;rw[a6.out]at HH;go_wp2_with fail
        refine HH.out.mono ?_;rintro e w1 ⟨v1,rfl,q,s⟩;rw[<-a6.out]at q;have HR:=avJ (And.intro (q.back G.out) (G.out.trans s));obtain⟨a2,c7,J⟩:=q.own.form;clear q s;subst J;go_wp2_with fail
        go_ret2;exact⟨_,rfl,HR.out.1,HR.out.2⟩
end
section
variable{w:World}{FP TP PB DB M:Nat}{c:Ch}{sv:Head}{t:Int}{d:Dk}
theorem PN(h:fR w FP TP PB DB M c sv t d)(a6:jj w){X:Tr}(hl:X.lays c d.pg 3){n:ByteArray}(hn:bQ n){L:ByteArray->List aa}{ls:List (ByteArray×Int×ByteArray)}(H:kY X n L ls){NB b:Nat}{s:ByteArray}(hq:eQ NB w (.leaf 2 [s] 0) b):
   Calls avO 51 #[.pointer (some ⟨FP,0,none⟩),.string n,.pointer (some ⟨b,0,none⟩)] w fun e w'=>∃v,e=.returned (.tuple #[v,.nilIface])/\eo w w' v (eS (hY L (aw (mR s ls))))/\Gr w w':=by
 obtain⟨_,c0,⟨v,c1,ao,cc,bb,rfl,a7,a8⟩,c2,c3,c4⟩:=hq;obtain⟨rfl,_,d6⟩:=a7 (by simp);have a9:=fun(wd:ByteArray) (B:bQ wd) (W:World) (g:Gr w W)=>rN h hl hn H B g;have b0:=RW h a6 hl hn H.WJ s;have cw:=a8 0 (by simp);rw[av0]at cw;have b2:[s][0]'(by simp)=s:=rfl;rw[b2]at cw;have I:∀x∈aw (mR s ls),bQ x:=fun x hx=>by
   have h1:=(ig x _).1 hx;obtain⟨e,he,rfl⟩:=av6.1 (List.mem_filter.1 h1).1;exact H.WK e he
 have c9:(aw (mR s ls)).length<=1000:=by
   have h1:=jq (mR s ls);have h2:=Cr s ls;have h3:=H.WL;omega
 have d7:=avJ a9;have b3:=avJ b0;have b4:=avJ I;have d1:=avJ H.Dr;have J:=avJ H.cap;have O:([s]:List ByteArray).length=1:=rfl;rw[O]at c1 d6;have i3:(1:Int)<=(cc:Int):=by omega
 obtain⟨fs,U⟩:∃fs,aw (mR s ls)=fs:=⟨_,rfl⟩;simp only[U]at b3 b4 c9;have d8:=avJ U;clear a9 b0 I a8 h hl hn H a7 O a6 b2 U;go_enter awh,awd;go_wp2_with fail
 refine b3.out.mono ?_;rintro e w1 ⟨v1,rfl,d9,b5⟩;obtain⟨a1,i4,b1,e0,b6,Q⟩:=d9;subst e0;have e1:=avJ b6;have e2:=avJ Q;have V:=avJ b5;clear b6 Q b5;go_wp2_with fail
 go_loopw [11,51] (fun av iv w'=>∃i:Nat,i<=fs.length/\iv=.int .i64 i/\dj w w' av (hY L (fs.take i))/\Gr w1 w') (fun _ iv _=>fs.length-(intOf iv).toNat)
 case atStart=>exact⟨0,avR _,rfl,.inl ⟨rfl,rfl⟩,Gr.refl _⟩
 case round=>
  as_aux_lemma=>
   obtain⟨i,hi,rfl,z,S⟩:=hrel;by_cases D:i<fs.length
   ·have e3:(i:Int)<(fs.length:Int):=by omega
    obtain⟨rfl,i5⟩:=e1.out (by omega);have cw:=S.keeps (e2.out i D);rw[av0]at cw;have G:=J0 L fs i D;have hp:=d7.out fs[i] (b4.out _ (avX D)) wr (V.out.trans S);have e4:=d1.out fs[i];have b7:=J.out (fs.take i);obtain⟨wd,B⟩:∃wd,fs[i]=wd:=⟨_,rfl⟩;obtain⟨FA,b8⟩:∃FA,hY L (fs.take i)=FA:=⟨_,rfl⟩;rw[B]at cw G hp e4;rw[b8]at G z b7;have HP:=avJ hp;have HO:=avJ z;have HG:=avJ S;have e5:=avJ G;obtain⟨a3,e6,Y⟩:=z.form;clear hp z S G B b8;subst Y;go_wp2_with fail
    refine HP.out.mono ?_;rintro e w3 ⟨v3,rfl,q,y⟩;have c5:=wz FA (L wd) _ v3 w3 (HO.out.lp.gr y) q.lp (by omega);have e7:=avJ c5;have c6:=avJ (HG.out.trans y);obtain⟨a2,e8,Z⟩:=q.form;clear c5 y q;subst Z;go_wp2_with fail
    refine e7.out.mono ?_;rintro e w4 ⟨v4,rfl,c7,c8⟩;have HR:=avJ (And.intro (c7.back (V.out.trans c6.out)) (c6.out.trans c8));clear c7 c8;go_wp2_with fail
    exact⟨⟨i+1,D,by go_num,by rw[e5.out];exact HR.out.1,HR.out.2⟩,by simp[intOf];omega⟩
   ·have e3:¬(i:Int)<(fs.length:Int):=by omega
    have e9:fs.take i=fs:=avL (by omega);rw[e9]at z;have b7:=J.out fs;have a0:=V.out.trans S;have d0:=a0.keeps c0;have hh:=NP _ _ wr z.lp (by omega);have HH:=avJ hh;have HG:=avJ a0;obtain⟨a3,e6,Y⟩:=z.form;clear hh z S a0;subst Y;go_wp2_with fail
    refine HH.out.mono ?_;rintro e w3 ⟨v3,rfl,q,y⟩;have HR:=avJ (And.intro (q.back HG.out) (HG.out.trans y));obtain⟨a2,e8,Z⟩:=q.own.form;rw[<-d8.out]at HR;clear q y;subst Z;go_wp2_with fail
    go_ret2;exact⟨_,rfl,HR.out.1,HR.out.2⟩
def oH(b:List Int):List bh:=b.map fun r=>(r,1)
theorem PO(h:fR w FP TP PB DB M c sv t d){X:Tr}(hl:X.lays c d.pg 3){n:ByteArray}(hn:bQ n){L:ByteArray->List aa}{ls:List (ByteArray×Int×ByteArray)}(hT:kY X n L ls){NB b:Nat}{q G:ByteArray}(hq:eQ NB w (.leaf 3 [q,G] 3) b)(c5:bQ q/\bQ G):
   Calls avO 51 #[.pointer (some ⟨FP,0,none⟩),.string n,.pointer (some ⟨b,0,none⟩)] w fun e w'=>∃v,e=.returned (.tuple #[v,.nilIface])/\eo w w' v (oH (setOf bU (bY 3 (setOf ae (L q)) (L G))))/\Gr w w':=by
 obtain⟨_,c0,⟨v,c1,ao,cc,bb,rfl,c6,b1⟩,c2,c3,c4⟩:=hq;obtain⟨rfl,_,g4⟩:=c6 (by simp);have c7:=fun(wd:ByteArray) (g5:bQ wd) (W:World) (g:Gr w W)=>rN h hl hn hT g5 g;have cw:=b1 0 (by simp);rw[av0]at cw;have c8:[q,G][0]'(by simp)=q:=rfl;rw[c8]at cw;have cv:=b1 1 (by simp);rw[av0]at cv;have d3:[q,G][1]'(by simp)=G:=rfl;rw[d3]at cv;have d4:=avJ c7;have d5:=avJ c5;have V:=avJ hT.Dr;have HC:=avJ (And.intro cw cv);have a9:([q,G]:List ByteArray).length=2:=rfl;rw[a9]at c1 g4;have l0:(1:Int)<=(cc:Int):=by omega
 have j8:1<=cc:=by omega
 have l1:¬cc=1:=by omega
 clear c7 c5 b1 h hl hn hT c6 a9 c8 d3 cw cv;go_enter awh,awd;go_wp2_with fail
 go_loopw [11,51] (fun av O w'=>∃i:Nat,i<=1/\O=.int .i64 i/\dj w w' av (hY L ([q].take i))/\Gr w w') (fun _ O _=>1-(intOf O).toNat)
 case atStart=>exact⟨0,avR _,rfl,.inl ⟨rfl,rfl⟩,Gr.refl _⟩
 case round=>
  as_aux_lemma=>
   obtain⟨i,hi,rfl,s,z⟩:=hrel;by_cases H:i<1
   ·have g6:i=0:=by omega
    subst g6;have cw:=z.keeps HC.out.1;have hp:=d4.out q d5.out.1 wr z;have HP:=avJ hp;have Y:=avJ s;have HG:=avJ z;obtain⟨a1,g7,b2⟩:=s.form;clear hp s z;subst b2;go_wp2_with fail
    refine HP.out.mono ?_;rintro e w1 ⟨v1,rfl,I,D⟩;have g8:=V.out q;have d6:=wz (hY L ([q].take 0)) (L q) _ v1 w1 (Y.out.lp.gr D) I.lp (by show([]:List aa).length+_<=_;simp only[avW];omega);have g9:=avJ d6;have a5:=avJ (HG.out.trans D);obtain⟨a2,h0,b3⟩:=I.form;clear d6 D I;subst b3;go_wp2_with fail
    refine g9.out.mono ?_;rintro e w2 ⟨v2,rfl,J,Q⟩;have HR:=avJ (And.intro (J.back a5.out) (a5.out.trans Q));clear J Q;go_wp2_with fail
    exact⟨⟨1,avQ _,rfl,HR.out.1,HR.out.2⟩,by simp[intOf]⟩
   ·have h4:i=1:=by omega
    subst h4;have d7:hY L ([q].take 1)=setOf ae (L q):=rfl;rw[d7]at s;obtain⟨S,a6⟩:∃S,setOf ae (L q)=S:=⟨_,rfl⟩;rw[a6]at s;have h5:=avJ a6;have d8:S.length<=1000:=by
      rw[<-a6];have:=iy ae (L q);have:=V.out q;omega
    have d9:=avJ d8;have Y:=avJ s;have HG:=avJ z;have d0:=z.keeps c0;have d1:=z.keeps c1;have d2:=z.keeps c2;clear s z d7 a6 d8;go_wp2_with fail
    obtain⟨wo,e0⟩:∃wo,wr=wo:=⟨_,rfl⟩;rw[e0]at Y HG⊢;clear d0 d1 d2 e0 wr;go_loopw [11,82] (fun av O w'=>O=.int .i64 0/\dj w w' av S/\Gr w w') (fun _ _ _=>1)
    case atStart=>exact⟨rfl,Y.out,HG.out⟩
    case round=>
     as_aux_lemma=>
      obtain⟨rfl,s,z⟩:=hrel;have cw:=z.keeps HC.out.2;have hp:=d4.out G d5.out.2 wr z;have g8:=V.out G;have d0:=z.keeps c0;have d2:=z.keeps c2;have HP:=avJ hp;have Y:=avJ s;have HG:=avJ z;obtain⟨a1,g7,b2⟩:=s.form;clear hp s z;subst b2;go_wp2_with fail
      refine HP.out.mono ?_;rintro e w1 ⟨v1,rfl,I,D⟩;have b4:=S_ S (L G) _ v1 3 w1 (Y.out.lp.gr D) I.lp (by have:=d9.out;omega) (by omega);obtain⟨y,a7⟩:∃y,setOf bU (bY 3 S (L G))=y:=⟨_,rfl⟩;have l2:y.length<=1000:=by
        rw[<-a7];have h1:=iy bU (bY 3 S (L G));have h2:(bY 3 S (L G)).length<=S.length:=by
         unfold bY;rw[avZ];exact av9 _ _
        have h3:=d9.out;omega
      rw[a7]at b4;have h6:=avJ a7;have h8:=avJ b4;have a5:=avJ (HG.out.trans D);have d0:=D.keeps d0;have d2:=D.keeps d2;obtain⟨a2,h0,b3⟩:=I.form;clear b4 D I a7;subst b3;go_wp2_with fail
      refine h8.out.mono ?_;rintro e w2 ⟨v2,rfl,J,Q⟩;have h9:=avJ J;have e1:=avJ (a5.out.trans Q);obtain⟨a3,l3,i0⟩:=J.form;clear J Q d0 d2;subst i0;go_wp2_with fail
      go_loopw [20,109] (fun ov O w'=>∃j:Nat,j<=y.length/\O=.int .i64 j/\eo w2 w' ov (oH (y.take j))/\Gr w2 w') (fun _ O _=>y.length-(intOf O).toNat)
      case atStart=>exact⟨0,avR _,rfl,av1 _ _ _ _,Gr.refl _⟩
      case round=>
       as_aux_lemma=>
        obtain⟨j,hj,rfl,s,U⟩:=hrel;by_cases H:j<y.length
        ·have i1:(j:Int)<(y.length:Int):=by omega
         obtain⟨B3,rfl,Z⟩:∃B3,a3=some ⟨B3,0,none⟩/\w2.cell? ⟨B3,j,none⟩=some (.int .i64 y[j]):=by
          rcases h9.out with⟨_,e2⟩|⟨B,cap,e,_,_,_,hh⟩
          ·rw[e2]at H;exact absurd H (by simp)
          ·cases e;have h7:=(hh j (by simpa using H)).1;rw[av0]at h7;exact⟨B,rfl,by simpa[H]using h7⟩
         have i2:=U.keeps Z;have b5:oH (y.take (j+1))=oH (y.take j)++[(y[j],1)]:=by
          unfold oH;rw[avT H,List.map_append]
          rfl
         have e3:(oH (y.take j)).length+1<=1000000:=by
          unfold oH;rw[avZ,avN];omega
         obtain⟨r,hr⟩:∃r,y[j]=r:=⟨_,rfl⟩;rw[hr]at i2 b5;have i3:=avJ b5;have Y:=avJ s;have i4:=avJ U;have i5:=avJ e3;clear s U b5 hr Z e3;go_wp2_with(at_builtin;refine jl (a0:=w2) rfl _ _ rfl _ (oH (y.take j)) rfl Y.out (r,1) rfl i5.out i4.out ?_;intro v8 w8 i6 i7)
         exact⟨⟨j+1,H,by go_num,by rw[i3.out];exact i6,i7⟩,by simp[intOf];omega⟩
        ·have i1:¬(j:Int)<(y.length:Int):=by omega
         have e4:y.take j=y:=avL (by omega);rw[e4]at s;have HR:Hid (eo w wr u20 (oH (setOf bU (bY 3 (setOf ae (L q)) (L G))))/\Gr w wr):=avJ ⟨by rw[h5.out,h6.out];exact s.back e1.out,e1.out.trans U⟩;obtain⟨a4,l4,i9⟩:=s.own.form;clear s U e4;subst i9;go_wp2_with fail
         go_ret2;exact⟨_,rfl,HR.out.1,HR.out.2⟩
end
def pR(L:ByteArray->List aa)(ls:List (ByteArray×Int×ByteArray))(kind:Int)(ws:List ByteArray)(r:Int):Nat:=
 if kind=1 then de (iU L (setOf ae (L (ws.headD ⟨#[]⟩))) ws.tail) r
 else if kind=2 then de (hY L (aw (mR (ws.headD ⟨#[]⟩) ls))) r
 else if r∈setOf bU (bY 3 (setOf ae (L (ws.headD ⟨#[]⟩))) (L (ws.tail.headD ⟨#[]⟩)))then 1 else 0
def HN(L:ByteArray->List aa)(ls:List (ByteArray×Int×ByteArray)):Qy->Int->Nat
 | .leaf kind ws _,r=>pR L ls kind ws r
 | .node kind a b,r=>cf kind (HN L ls a r) (HN L ls b r)
def oI:Qy->Prop
 | .leaf kind ws dT=>(kind=1/\dT=0/\∃q r,ws=q::r/\(∀x∈q::r,bQ x)/\r.length<=1000)\/(kind=2/\dT=0/\∃q,ws=[q])\/(kind=3/\dT=3/\∃a b,ws=[a,b]/\bQ a/\bQ b)
 | .node kind a b=>(kind=4\/kind=5\/kind=6)/\oI a/\oI b
structure pH(L:ByteArray->List aa)(ls:List (ByteArray×Int×ByteArray)):Prop where
 row:∀kind ws r,0<pR L ls kind ws r->1<=r/\r<=8000
 xg:∀kind ws r,pR L ls kind ws r<=1000
 WM:∀w0,bH ae (L w0)
theorem Cv{L:ByteArray->List aa}{ls:List (ByteArray×Int×ByteArray)}{kind:Int}{a b:Qy}:HN L ls (.node kind a b)=fun r=>cf kind (HN L ls a r) (HN L ls b r):=rfl
theorem Hi{L:ByteArray->List aa}{ls:List (ByteArray×Int×ByteArray)}(h:pH L ls):∀(q:Qy) (r:Int),0<HN L ls q r->1<=r/\r<=8000
 | .leaf kind ws dT,r,s=>h.row kind ws r s
 | .node kind a b,r,s=>by
  have y:=D3 kind (HN L ls a r) (HN L ls b r);have z:0<cf kind (HN L ls a r) (HN L ls b r):=s;rcases Nat.eq_zero_or_pos (HN L ls a r)with e|e
  ·exact Hi h b r (by omega)
  ·exact Hi h a r e
theorem xk{L:ByteArray->List aa}{ls:List (ByteArray×Int×ByteArray)}(h:pH L ls):∀(q:Qy) (r:Int),HN L ls q r<=1000*kC q
 | .leaf kind ws dT,r=>h.xg kind ws r
 | .node kind a b,r=>by
  have s:=D3 kind (HN L ls a r) (HN L ls b r);have y:=xk h a r;have z:=xk h b r;show cf kind (HN L ls a r) (HN L ls b r)<=1000*(kC a+kC b);omega
structure gw(L:ByteArray->List aa)(ls:List (ByteArray×Int×ByteArray))(q:Qy)(out:List bh):Prop where
 zJ:jR out (HN L ls q)
 row:∀x∈out,1<=x.1/\x.1<=8000
 xg:∀x∈out,0<=x.2/\x.2<=1000*(kC q:Int)
 len:out.length<=8001
theorem rO{L:ByteArray->List aa}{ls:List (ByteArray×Int×ByteArray)}(h:pH L ls){q:Qy}{out:List bh}(z:jR out (HN L ls q)):gw L ls q out:=by
 have b:∀x∈out,1<=x.1/\x.1<=8000:=fun x s=>Hi h q x.1 (z.val x s).2;refine⟨z,b,fun x s=>?_,?_⟩
 ·have B:=(z.val x s).1;have G:=xk h q x.1;omega
 ·have B:(out.map (·.1)).length<=8001:=EX (awe.2 z.up) fun x s=>by
   obtain⟨y,D,rfl⟩:=av6.1 s;have:=b y D;omega
  rw[avZ]at B;exact B
theorem rP{L:ByteArray->List aa}{ls:List (ByteArray×Int×ByteArray)}(h:pH L ls){q:Qy}{out:List bh}(b:gw L ls q out)(r:Int):0<=dq out r/\dq out r<=1000*(kC q:Int):=by
 rw[nn b.zJ];have:=xk h q r;omega
theorem Mo(q:List Int)(s:bH bU q):jR (oH q) (fun r=>if r∈q then 1 else 0):=by
 refine⟨?_,fun x y=>?_,fun r z=>?_⟩
 ·unfold oH;refine awe.2 (s.imp fun{a b} h=>?_);simpa[bU]using h
 ·obtain⟨r,B,rfl⟩:=av6.1 y;simp only[if_pos B];exact⟨rfl,Nat.one_pos⟩
 ·by_cases h:r∈q
  ·exact⟨(r,1),av6.2 ⟨r,h,rfl⟩,rfl⟩
  ·simp only[if_neg h]at z;omega
theorem xl{l:List aa}(h:bH ae l):l.Pairwise fun a b=>a.1<=b.1:=h.imp fun{a b} q=>by
 rw[dL]at q;omega
theorem uR(L:ByteArray->List aa)(b:∀x,bH ae (L x)):∀(ws:List ByteArray) (a:List aa),bH ae a->bH ae (iU L a ws)
 |[],_,h=>h
 |x::ws,a,_=>uR L b ws (iH a (L x)) ((b x).sublist List.filter_sublist)
theorem Dx(L:ByteArray->List aa)(fs:List ByteArray):bH ae (hY L fs):=by
 unfold hY;suffices h:∀(fs:List ByteArray) (a:List aa),bH ae a->bH ae (fs.foldl (fun a x=>setOf ae (a++L x)) a)from h fs [] awj
 intro fs
 induction fs with
 |nil=>intro a h;exact h
 |cons x fs b=>intro a _;exact b _ (bT bw _)
theorem R3{lb:List bh}{b x2 N:Int}(h:dq lb b=N):fh 4 lb (b,x2)=if 0<N then[(b,x2+N)]else[]:=by
 unfold fh;simp only[h];by_cases q:0<N
 ·rw[if_pos (.inl ⟨trivial,q⟩),if_pos q]
 ·rw[if_neg (by omega),if_neg (by omega),if_neg q]
theorem R4{lb:List bh}{b x2 N:Int}(h:dq lb b=N):fh 5 lb (b,x2)=[(b,x2+N)]:=by
 unfold fh;simp only[h];rw[if_pos (.inr trivial)]
theorem R5{lb:List bh}{b x2 N:Int}(h:dq lb b=N):fh 6 lb (b,x2)=if N=0 then[(b,x2)]else[]:=by
 unfold fh;simp only[h];rw[if_neg (by omega)];by_cases q:N=0
 ·rw[if_pos ⟨trivial,q⟩,if_pos q]
 ·rw[if_neg (by omega),if_neg q]
theorem vR{kind:Int}{lb:List bh}{h x:bh}(b:x∈fh kind lb h):x.1=h.1:=by
 unfold fh at b
 split at b
 ·rw[av3.1 b]
 ·split at b
  ·rw[av3.1 b]
  ·cases b
theorem vS{kind:Int}{q:List bh}{h x:bh}(b:x∈gZ kind q h):x.1=h.1:=by
 unfold gZ at b
 split at b
 ·rw[av3.1 b]
 ·cases b
theorem R6{b:List bh}{q x2 N:Int}(_:dq b q=N):gZ 4 b (q,x2)=[]:=by
 unfold gZ;rw[if_neg (by omega)]
theorem R7{b:List bh}{q x2 N:Int}(_:dq b q=N):gZ 6 b (q,x2)=[]:=by
 unfold gZ;rw[if_neg (by omega)]
theorem R9{s:List bh}{b x2 N:Int}(h:dq s b=N):gZ 5 s (b,x2)=if N=0 then[(b,x2)]else[]:=by
 unfold gZ;simp only[h];by_cases q:N=0
 ·rw[if_pos ⟨trivial,q⟩,if_pos q]
 ·rw[if_neg (by omega),if_neg q]
section
variable{w:World}{FP TP PB DB M:Nat}{c:Ch}{sv:Head}{t:Int}{d:Dk}
theorem Hj{s:Nat}{w w':World}(g:Gr w w')(q:Qy)(b:Nat)(h:eQ s w q b):eQ s w' q b:=eQ.jz (ag.ak g) q b h
theorem Mp(h:fR w FP TP PB DB M c sv t d)(y:jj w){X:Tr}(z:X.lays c d.pg 3){n:ByteArray}(hn:bQ n){L:ByteArray->List aa}{ls:List (ByteArray×Int×ByteArray)}(B:kY X n L ls)(I:pH L ls){Q b:Nat}{kind dT:Int}{ws:List ByteArray}(D:eQ Q w (.leaf kind ws dT) b)(G:oI (.leaf kind ws dT)):
  Calls avO 12 #[.pointer (some ⟨FP,0,none⟩),.string n,.pointer (some ⟨b,0,none⟩)] w fun e w'=>∃v out,e=.returned (.tuple #[v,.nilIface])/\dj w w' v out/\gw L ls (.leaf kind ws dT) out/\Gr w w':=by
 have q:∀(out:List bh),jR out (HN L ls (.leaf kind ws dT))->(kind=1\/kind=2\/kind=3)->
   Calls avO 51 #[.pointer (some ⟨FP,0,none⟩),.string n,.pointer (some ⟨b,0,none⟩)] w (fun e w'=>∃v,e=.returned (.tuple #[v,.nilIface])/\eo w w' v out/\Gr w w')->
   Calls avO 12 #[.pointer (some ⟨FP,0,none⟩),.string n,.pointer (some ⟨b,0,none⟩)] w fun e w'=>∃v out,e=.returned (.tuple #[v,.nilIface])/\dj w w' v out/\gw L ls (.leaf kind ws dT) out/\Gr w w':=by
  intro out O S hc;have U:=avJ (rO I O);have V:=avJ hc;obtain⟨_,c0,_⟩:=D;clear O hc h y z hn B I G;rcases S with rfl|rfl|rfl
  all_goals
   go_enter av_,av7;go_wp2_with fail
   refine V.out.mono ?_;rintro e w1 ⟨v1,rfl,s,H⟩;have HR:=avJ (And.intro s.own H);obtain⟨a1,c1,J⟩:=s.own.form;clear s H;subst J;go_wp2_with fail
   go_ret2;exact⟨_,out,rfl,HR.out.1,U.out,HR.out.2⟩
 rcases G with⟨rfl,rfl,Y,r,rfl,hw,Z⟩|⟨rfl,rfl,Y,rfl⟩|⟨rfl,rfl,wa,wb,rfl,ha,hb⟩
 ·refine q _ ?_ (.inl rfl) (PM h z hn B D hw Z);exact(IM (xl (uR L I.WM r _ (bT bw _)))).1
 ·refine q _ ?_ (.inr (.inl rfl)) (PN h y z hn B D);exact(IM (xl (Dx L _))).1
 ·refine q _ ?_ (.inr (.inr rfl)) (PO h z hn B D ⟨ha,hb⟩);exact Mo _ (bT qS _)
end
end
section
open Go Go.RowKit
def fP(l:List ByteArray):Prop:=∀p∈l,p.size<=300
theorem fP.less{l r:List ByteArray}(h:fP l)(b:r<:+l):fP r:=fun p q=>h p (b.subset q)
def Dy(q:Qy)(l r:List ByteArray):Prop:=oI q/\kC q+r.length<=l.length
theorem vU(s:ByteArray):∀x∈aB s,bQ x:=fun x b=>(JX (xh s x b)).1
theorem MG(s:ByteArray):(aB s).length<=s.size+1:=by
 rw[uY,avZ,size_data];exact FE _ _ _
theorem J5{kind:Int}{a b:Qy}(q:kind=4\/kind=5\/kind=6)(ha:oI a)(s:oI b):oI (.node kind a b):=⟨q,ha,s⟩
theorem Tz(y:List ByteArray->Rd)(ha:∀l q r,fP l->y l=.ok q r->Dy q l r)(l:List ByteArray)(L:fP l)(q:Qy)(r:List ByteArray)(h:jJ y l=.ok q r):Dy q l r:=by
 unfold jJ at h
 dsimp only at h
 split at h
 ·cases h
 ·rename_i M
  have hn:aS l≠gC:=fun e=>M (.inl e);obtain⟨s,t,rfl,O⟩:=jc hn;rw[O]at h;have hs:=L s avS
  split at h
  ·split at h
   ·cases h
   ·rename_i U r1 Q
    split at h
    ·cases h;have z:=ha t q r1 (L.less (List.suffix_cons s t)) Q;have V:r1.tail.length<=r1.length:=by simp
     have Y:=z.2;exact⟨z.1,by rw[avM];omega⟩
    ·cases h
  ·split at h
   ·split at h
    ·cases h
    ·rename_i G
     cases h;obtain⟨S,ws,hw⟩:=List.exists_cons_of_ne_nil G;refine⟨.inl ⟨rfl,rfl,S,ws,hw,?_,?_⟩,?_⟩
     ·rw[<-hw];exact vU _
     ·have z:=MG (iX s.data.toList.tail);rw[hw,size_data,fX,avY,avM]at z;rw[size_data]at hs;omega
     ·show 1+t.length<=(s::t).length;rw[avM];omega
   ·split at h
    ·split at h
     ·cases h;refine⟨.inr (.inl ⟨rfl,rfl,_,rfl⟩),?_⟩;show 1+t.tail.length<=(s::t).length;rw[avM,avY];omega
     ·cases h
    ·split at h
     ·rename_i a H
      have B:bQ a:=vU s a (by rw[H];exact avS)
      split at h
      ·split at h
       ·cases h
       ·split at h
        ·rename_i b I
         cases h;have J:bQ b:=vU _ b (by rw[I];exact avS);refine⟨.inr (.inr ⟨rfl,rfl,a,b,rfl,B,J⟩),?_⟩;show 1+t.tail.tail.length<=(s::t).length;rw[avM,avY,avY];omega
        ·cases h
      ·cases h;refine⟨.inl ⟨rfl,rfl,a,[],rfl,fun x D=>?_,by simp⟩,?_⟩
       ·rcases List.mem_cons.1 D with e|D
        ·rw[e];exact B
        ·cases D
       ·show 1+t.length<=(s::t).length;rw[avM];omega
     ·cases h
theorem Sg(b:List ByteArray->Rd)(L:∀l q r,fP l->b l=.ok q r->Dy q l r)(y:∀l q r,b l=.ok q r->fI r l):∀(n:Nat) (q:Qy) (l:List ByteArray) (z:Qy) (r:List ByteArray),fP l->oI q->e_ b n q l=.ok z r->oI z/\kC z+r.length<=kC q+l.length:=by
 intro n
 induction n with
 |zero=>
  intro q l z r D B h;unfold e_ at h
  split at h
  ·cases h;exact⟨B,avQ _⟩
  ·cases h
 |succ n M=>
  intro q l z r D B h;unfold e_ at h
  split at h
  ·cases h;exact⟨B,avQ _⟩
  ·dsimp only at h
   split at h
   ·cases h
   ·rename_i G r1 H
    have s:fP (if aS l=ez\/aS l=fp then l.tail else l)/\(if aS l=ez\/aS l=fp then l.tail else l).length<=l.length:=by
     split
     ·exact⟨D.less (awg l),by simp⟩
     ·exact⟨D,avQ _⟩
    have I:=L _ _ _ s.1 H;have J:=M _ _ _ _ (s.1.less (y _ _ _ H).1) (J5 (by split<;>simp) B I.1) h;have O:=J.2;have S:=I.2;have Q:∀k:Int,kC (.node k q G)=kC q+kC G:=fun _=>rfl;rw[Q]at O;exact⟨J.1,by have:=s.2;omega⟩
theorem NR(b:List ByteArray->Rd)(y:∀l q r,fP l->b l=.ok q r->Dy q l r)(s:∀l q r,b l=.ok q r->fI r l)(l:List ByteArray)(q:Qy)(r:List ByteArray)(z:fP l)(h:iB b l=.ok q r):Dy q l r:=by
 unfold iB at h
 split at h
 ·cases h
 ·rename_i H r1 B
  have D:=y _ _ _ z B;have G:=Sg b y s _ _ _ _ _ (z.less (s _ _ _ B).1) D.1 h;exact⟨G.1,av5 G.2 D.2⟩
theorem Sh(b:List ByteArray->Rd)(L:∀l q r,fP l->b l=.ok q r->Dy q l r)(s:∀l q r,b l=.ok q r->fI r l):∀(n:Nat) (q:Qy) (l:List ByteArray) (y:Qy) (r:List ByteArray),fP l->oI q->fq b n q l=.ok y r->oI y/\kC y+r.length<=kC q+l.length:=by
 intro n
 induction n with
 |zero=>
  intro q l y r D z h;unfold fq at h
  split at h
  ·cases h
  ·cases h;exact⟨z,avQ _⟩
 |succ n M=>
  intro q l y r D z h;unfold fq at h
  split at h
  ·dsimp only at h
   split at h
   ·cases h
   ·rename_i G r1 H
    have B:fP l.tail:=D.less (awg l);have I:=L _ _ _ B H;have J:=M _ _ _ _ (B.less (s _ _ _ H).1) (J5 (by simp) z I.1) h;have O:=J.2;have Q:=I.2;have S:kC (.node 5 q G)=kC q+kC G:=rfl;rw[S]at O;rw[avY]at Q;exact⟨J.1,by omega⟩
  ·cases h;exact⟨z,avQ _⟩
theorem NS(b:List ByteArray->Rd)(y:∀l q r,fP l->b l=.ok q r->Dy q l r)(s:∀l q r,b l=.ok q r->fI r l)(l:List ByteArray)(q:Qy)(r:List ByteArray)(z:fP l)(h:iC b l=.ok q r):Dy q l r:=by
 unfold iC at h
 split at h
 ·cases h
 ·rename_i H r1 B
  have D:=y _ _ _ z B;have G:=Sh b y s _ _ _ _ _ (z.less (s _ _ _ B).1) D.1 h;exact⟨G.1,av5 G.2 D.2⟩
theorem Si:∀(k:Nat) (l:List ByteArray) (q:Qy) (r:List ByteArray),fP l->jb k l=.ok q r->Dy q l r:=by
 intro k
 induction k with
 |zero=>intro l q r _ h;cases h
 |succ k s=>exact fun l q r b h=>Tz _ (fun l q r b h=>NS _ (fun l q r b h=>NR _ s (nP k) l q r b h) (nQ k) l q r b h) l b q r h
theorem Sj(k:Nat)(l:List ByteArray)(q:Qy)(r:List ByteArray)(b:fP l)(h:dX k l=.ok q r):Dy q l r:=
 NS _ (fun l q r b h=>NR _ (Si k) (nP k) l q r b h) (nQ k) l q r b h
theorem NT(s:ByteArray)(hs:s.size<=300)(q:Qy)(n:Int)(h:fH s=(some q,n)):oI q/\kC q<=300:=by
 unfold fH at h;cases hc:bB s.size s.data.toList with
 |none=>rw[hc]at h;cases h
 |some y=>
  rw[hc]at h;have b:=J4 _ _ _ hc;have z:fP y:=fun p D=>by
   have:=b.2 p D;rw[<-size_data]at this;omega
  cases hA:dX 13 y with
  |bad m=>simp only[hA]at h;cases h
  |ok H r=>
   simp only[hA]at h
   split at h
   ·cases h;have B:=Sj 13 y q r z hA;have I:=B.2;have G:=b.1;rw[<-size_data]at G;exact⟨B.1,by omega⟩
   ·cases h
end
section
open Go Go.RowKit Go.Shelf Go.Lib Go.Sort
section
variable{w:World}{FP TP PB DB M:Nat}{c:Ch}{sv:Head}{t:Int}{d:Dk}
theorem J6(_:fR w FP TP PB DB M c sv t d){n:ByteArray}{L:ByteArray->List aa}{ls:List (ByteArray×Int×ByteArray)}(hF:pH L ls){NB b:Nat}{ql qr:Qy}(hq:eQ NB w (.node 4 ql qr) b)(n2:kC ql+kC qr<=100000)
   (hL:∀(W:World) (bl:Nat),Gr w W->eQ NB W ql bl->Calls avO 12 #[.pointer (some ⟨FP,0,none⟩),.string n,.pointer (some ⟨bl,0,none⟩)] W fun e w'=>∃v out,e=.returned (.tuple #[v,.nilIface])/\dj W w' v out/\gw L ls ql out/\Gr W w')
   (hR:∀(W:World) (br:Nat),Gr w W->eQ NB W qr br->Calls avO 12 #[.pointer (some ⟨FP,0,none⟩),.string n,.pointer (some ⟨br,0,none⟩)] W fun e w'=>∃v out,e=.returned (.tuple #[v,.nilIface])/\dj W w' v out/\gw L ls qr out/\Gr W w'):
   Calls avO 12 #[.pointer (some ⟨FP,0,none⟩),.string n,.pointer (some ⟨b,0,none⟩)] w fun e w'=>∃v out,e=.returned (.tuple #[v,.nilIface])/\dj w w' v out/\gw L ls (.node 4 ql qr) out/\Gr w w':=by
 obtain⟨_,c0,_,_,bl,br,c3,c4,d9,e1⟩:=hq;have e3:=hL w bl (Gr.refl w) d9;have c5:=avJ e3;have j8:=avJ e1;have HR:=avJ hR;have HF:=avJ hF;clear e3 e1 hR hL d9 hF;go_enter av_,av7;go_wp2_with fail
 refine c5.out.mono ?_;rintro e w1 ⟨v1,q,rfl,c6,e4,V⟩;have e5:=HR.out w1 br V (Hj V qr br j8.out);have d0:=V.keeps c0;have d4:=V.keeps c4;have j9:=avJ e5;have k2:=avJ c6;have Y:=avJ e4;have k3:=avJ V;obtain⟨a1,k4,k5⟩:=c6.form;clear e5 c6 e4 V;subst k5;go_wp2_with fail
 refine j9.out.mono ?_;rintro e I ⟨v2,lb,rfl,a9,e6,a5⟩;have n3:=avJ a9;have Z:=avJ e6;have n4:=avJ a5;have e7:=avJ ((k2.out.gr a5).lp);have e8:=avJ (a9.lp);have e0:=a5.keeps d0;have e9:=avJ (k3.out.trans a5);obtain⟨a2,k6,k7⟩:=a9.form;clear a9 e6 a5 d0 d4;subst k7;go_wp2_with fail
 go_loopw [11,59] (fun ov iv w'=>∃i:Nat,i<=q.length/\iv=.int .i64 i/\eo I w' ov (iF 4 (q.take i) lb)/\Gr I w') (fun _ iv _=>q.length-(intOf iv).toNat)
 case atStart=>exact⟨0,avR _,rfl,av1 _ _ _ _,Gr.refl _⟩
 case round=>
  as_aux_lemma=>
   obtain⟨i,hi,rfl,z,J⟩:=hrel;by_cases s:i<q.length
   ·have c7:(i:Int)<(q.length:Int):=by omega
    obtain⟨B1,m2,rfl,n5,g0⟩:∃b G,a1=some ⟨b,G,none⟩/\b<I.heap.size/\bC I b G q:=by
      rcases e7.out with⟨_,e2⟩|⟨b,G,c,e,hb,hp⟩
      ·rw[e2]at s;exact absurd s (by simp)
      ·cases e;exact⟨b,G,rfl,hb,hp⟩
    have k0:=J.keeps (g0 i s).1;have k1:=J.keeps (g0 i s).2;have O:=vj 4 q lb i s;have c8:=Y.out.xg q[i] (avX s);have c1:=jN (fh 4 lb) (jW 4 lb) (q.take i);rw[avN]at c1;have n6:=Y.out.len;have H:(iF 4 (q.take i) lb).length+1<=1000000:=by
      unfold iF;omega
    obtain⟨⟨B,x2⟩,D⟩:∃x,q[i]=x:=⟨_,rfl⟩;rw[D]at k0 k1 O c8;simp only at k0 k1 c8;have g3:=rP HF.out Z.out B;have Q:=fun(W:World) (g:Gr I W)=>ud lb (.slice a2 lb.length k6) B W (e8.out.gr g) (by have:=Z.out.len;omega);obtain⟨N,hN⟩:∃N,dq lb B=N:=⟨_,rfl⟩;simp only[hN]at g3 Q;have n7:awi.wrap (x2+N)=x2+N:=by
      rw[av4];omega
    have m3:wrap64 (x2+N)=x2+N:=by
      unfold wrap64;omega
    have gA:Gr wr (wr.alloc (.cells #[.int .i64 B,.int .i64 x2] 47)):=(Gr.refl wr).alloc _;have b0:(wr.alloc (.cells #[.int .i64 B,.int .i64 x2] 47)).cell? ⟨wr.heap.size,0,none⟩=some (.int .i64 B):=by
      rw[avK]
      rfl
    have b1:(wr.alloc (.cells #[.int .i64 B,.int .i64 x2] 47)).cell? ⟨wr.heap.size,1,none⟩=some (.int .i64 x2):=by
      rw[avK]
      rfl
    have q0:=(J.trans gA).keeps e0;have g4:=avJ Q;have b2:=avJ O;have n8:=avJ hN;have HO:=avJ (z.gr gA);have HG:=avJ (J.trans gA);have g5:=avJ H;have a6:=R3 (x2:=x2) hN;have a3:=avJ a6;obtain⟨b8,b3,S⟩:=z.own.form;clear z J Q O hN c1 H D c8 g3 gA a6;subst S;go_wp2_with fail
    generalize hW:wr.alloc (.cells #[.int .i64 B,.int .i64 x2] 47)=wa at*;refine(g4.out _ HG.out).mono ?_;rintro e w3 ⟨rfl,a4⟩;have b0:=a4.keeps b0;have b1:=a4.keeps b1;have q0:=a4.keeps q0;have g7:=avJ (HO.out.gr a4);have g8:=avJ (HG.out.trans a4);clear a4 hW;by_cases hc:0<N
    · rw[if_pos hc]at a3
      go_wp2_with(at_builtin;refine jl (a0:=I) rfl _ _ rfl _ (iF 4 (q.take i) lb) rfl g7.out (B,x2+N) rfl g5.out g8.out ?_;intro v8 w8 k8 k9)
      exact⟨⟨i+1,s,by go_num,by rw[b2.out,a3.out];exact k8,k9⟩,by simp[intOf];omega⟩
    · rw[if_neg hc]at a3
      go_wp2_with fail
      exact⟨⟨i+1,s,by go_num,by rw[b2.out,a3.out,avP];exact g7.out,g8.out⟩,by simp[intOf];omega⟩
   ·have c7:¬(i:Int)<(q.length:Int):=by omega
    have g9:q.take i=q:=avL (by omega);rw[g9]at z;obtain⟨OA,b4⟩:∃OA,iF 4 q lb=OA:=⟨_,rfl⟩;have h0:OA.length<=8001:=by
      rw[<-b4];have h1:=jN (fh 4 lb) (jW 4 lb) q;have h2:=Y.out.len;unfold iF;omega
    rw[b4]at z;have h3:=avJ b4;have i2:=avJ h0;have HO:=avJ z;have HG:=avJ J;obtain⟨b8,b3,S⟩:=z.own.form;clear z J g9 b4 h0;subst S;go_wp2_with fail
    obtain⟨wo,h4⟩:∃wo,wr=wo:=⟨_,rfl⟩;rw[h4]at HO HG⊢;clear h4 wr;go_loopw [11,109] (fun ov iv w'=>∃j:Nat,j<=lb.length/\iv=.int .i64 j/\eo I w' ov (OA++iG 4 q (lb.take j))/\Gr I w') (fun _ iv _=>lb.length-(intOf iv).toNat)
    case atStart=>exact⟨0,avR _,rfl,by show eo I wo _ (OA++[]);rw[avP];exact HO.out,HG.out⟩
    case round=>
     as_aux_lemma=>
      obtain⟨j,hj,rfl,z,J⟩:=hrel;have U:=jN (gZ 4 q) (qY 4 q) (lb.take j);rw[avN]at U;have H:(OA++iG 4 q (lb.take j)).length+1<=1000000:=by
       have h1:=Z.out.len;have h2:=i2.out;rw[avV];unfold iG;omega
      by_cases s:j<lb.length
      ·have c7:(j:Int)<(lb.length:Int):=by omega
       obtain⟨B2,m4,rfl,n9,h6⟩:∃b G,a2=some ⟨b,G,none⟩/\b<I.heap.size/\bC I b G lb:=by
        rcases e8.out with⟨_,e2⟩|⟨b,G,c,e,hb,hp⟩
        ·rw[e2]at s;exact absurd s (by simp)
        ·cases e;exact⟨b,G,rfl,hb,hp⟩
       have k0:=J.keeps (h6 j s).1;have k1:=J.keeps (h6 j s).2;have O:=vl 4 q lb j s;have o0:=Z.out.len;obtain⟨CL,c9⟩:∃CL,OA++iG 4 q (lb.take j)=CL:=⟨_,rfl⟩;rw[c9]at z H;have c5:=avJ c9;clear c9;obtain⟨⟨B,x2⟩,D⟩:∃x,lb[j]=x:=⟨_,rfl⟩;rw[D]at k0 k1 O;simp only at k0 k1;have Q:=fun(W:World) (g:Gr I W)=>ud q (.slice a1 q.length k4) B W (e7.out.gr g) (by have:=Y.out.len;omega);obtain⟨N,hN⟩:∃N,dq q B=N:=⟨_,rfl⟩;simp only[hN]at Q;have gA:Gr wr (wr.alloc (.cells #[.int .i64 B,.int .i64 x2] 47)):=(Gr.refl wr).alloc _;have b0:(wr.alloc (.cells #[.int .i64 B,.int .i64 x2] 47)).cell? ⟨wr.heap.size,0,none⟩=some (.int .i64 B):=by
        rw[avK]
        rfl
       have b1:(wr.alloc (.cells #[.int .i64 B,.int .i64 x2] 47)).cell? ⟨wr.heap.size,1,none⟩=some (.int .i64 x2):=by
        rw[avK]
        rfl
       have q0:=(J.trans gA).keeps e0;have g4:=avJ Q;have b2:=avJ O;have HO:=avJ (z.gr gA);have HG:=avJ (J.trans gA);have g5:=avJ H;have a6:=R6 (x2:=x2) hN;have a3:=avJ a6;obtain⟨b8,b3,S⟩:=z.own.form;clear z J Q O hN U H D gA a6;subst S;go_wp2_with fail
       exact⟨⟨j+1,s,by go_num,by rw[b2.out,a3.out,avP,c5.out];exact HO.out,HG.out⟩,by simp[intOf];omega⟩
      ·have c7:¬(j:Int)<(lb.length:Int):=by omega
       have h7:lb.take j=lb:=avL (by omega);rw[h7]at z H;have d1:∀x∈OA++iG 4 q lb,0<=x.1/\x.1<=2147483648:=fun x D=>by
        rw[<-h3.out]at D;rcases av8.1 D with D|D
        ·obtain⟨y,hy,D⟩:=avU.1 D;have h1:=Y.out.row y hy;have h2:=vR D;omega
        ·obtain⟨y,hy,D⟩:=avU.1 D;have h1:=Z.out.row y hy;have h2:=vS D;omega
       obtain⟨AL,d2⟩:∃AL,OA++iG 4 q lb=AL:=⟨_,rfl⟩;rw[d2]at z d1 H;have l0:=avJ d2;clear d2;have h8:=rL I wr _ _ z.own J (by omega) d1;have l1:=avJ h8;obtain⟨b8,b3,S⟩:=z.own.form;clear z J h8 h7 d1 U H;subst S;go_wp2_with fail
       refine l1.out.mono ?_;rintro e w9 ⟨rfl,ys,d3,h9,i0,i1⟩;rw[<-l0.out,<-h3.out]at d3;have hj:=vm (kind:=4) (by decide) Y.out.zJ Z.out.zJ d3 h9;rw[<-Cv]at hj;have HR:Hid (dj I w9 (.slice b8 AL.length b3) ys/\gw L ls (.node 4 ql qr) ys/\Gr I w9):=avJ ⟨i0,rO HF.out hj,i1⟩;clear d3 h9 i0 i1 hj;go_wp2_with fail
       go_ret2;exact⟨_,ys,rfl,HR.out.1.back e9.out,HR.out.2.1,e9.out.trans HR.out.2.2⟩
end
section
variable{w:World}{FP TP PB DB M:Nat}{c:Ch}{sv:Head}{t:Int}{d:Dk}
theorem J8(_:fR w FP TP PB DB M c sv t d){n:ByteArray}{L:ByteArray->List aa}{ls:List (ByteArray×Int×ByteArray)}(hF:pH L ls){NB b:Nat}{ql qr:Qy}(hq:eQ NB w (.node 5 ql qr) b)(n5:kC ql+kC qr<=100000)
   (hL:∀(W:World) (bl:Nat),Gr w W->eQ NB W ql bl->Calls avO 12 #[.pointer (some ⟨FP,0,none⟩),.string n,.pointer (some ⟨bl,0,none⟩)] W fun e w'=>∃v out,e=.returned (.tuple #[v,.nilIface])/\dj W w' v out/\gw L ls ql out/\Gr W w')
   (hR:∀(W:World) (br:Nat),Gr w W->eQ NB W qr br->Calls avO 12 #[.pointer (some ⟨FP,0,none⟩),.string n,.pointer (some ⟨br,0,none⟩)] W fun e w'=>∃v out,e=.returned (.tuple #[v,.nilIface])/\dj W w' v out/\gw L ls qr out/\Gr W w'):
   Calls avO 12 #[.pointer (some ⟨FP,0,none⟩),.string n,.pointer (some ⟨b,0,none⟩)] w fun e w'=>∃v out,e=.returned (.tuple #[v,.nilIface])/\dj w w' v out/\gw L ls (.node 5 ql qr) out/\Gr w w':=by
 obtain⟨_,c0,_,_,bl,br,c3,c4,e9,g0⟩:=hq;have g3:=hL w bl (Gr.refl w) e9;have b2:=avJ g3;have k4:=avJ g0;have HR:=avJ hR;have HF:=avJ hF;clear g3 g0 hR hL e9 hF;go_enter av_,av7;go_wp2_with fail
 refine b2.out.mono ?_;rintro e w1 ⟨v1,q,rfl,c8,g4,Y⟩;have g5:=HR.out w1 br Y (Hj Y qr br k4.out);have d0:=Y.keeps c0;have d4:=Y.keeps c4;have k5:=avJ g5;have k6:=avJ c8;have Z:=avJ g4;have k7:=avJ Y;obtain⟨a1,k8,k9⟩:=c8.form;clear g5 c8 g4 Y;subst k9;go_wp2_with fail
 refine k5.out.mono ?_;rintro e G ⟨v2,lb,rfl,b3,g6,a5⟩;have n6:=avJ b3;have a3:=avJ g6;have n7:=avJ a5;have g7:=avJ ((k6.out.gr a5).lp);have g8:=avJ (b3.lp);have e0:=a5.keeps d0;have g9:=avJ (k7.out.trans a5);obtain⟨a2,l0,l1⟩:=b3.form;clear b3 g6 a5 d0 d4;subst l1;go_wp2_with fail
 go_loopw [11,59] (fun ov iv w'=>∃i:Nat,i<=q.length/\iv=.int .i64 i/\eo G w' ov (iF 5 (q.take i) lb)/\Gr G w') (fun _ iv _=>q.length-(intOf iv).toNat)
 case atStart=>exact⟨0,avR _,rfl,av1 _ _ _ _,Gr.refl _⟩
 case round=>
  as_aux_lemma=>
   obtain⟨i,hi,rfl,B,O⟩:=hrel;by_cases s:i<q.length
   ·have c9:(i:Int)<(q.length:Int):=by omega
    obtain⟨B1,m3,rfl,n8,h0⟩:∃b I,a1=some ⟨b,I,none⟩/\b<G.heap.size/\bC G b I q:=by
      rcases g7.out with⟨_,e2⟩|⟨b,I,c,e,hb,hp⟩
      ·rw[e2]at s;exact absurd s (by simp)
      ·cases e;exact⟨b,I,rfl,hb,hp⟩
    have k0:=O.keeps (h0 i s).1;have k1:=O.keeps (h0 i s).2;have Q:=vj 5 q lb i s;have d1:=Z.out.xg q[i] (avX s);have c6:=jN (fh 5 lb) (jW 5 lb) (q.take i);rw[avN]at c6;have n9:=Z.out.len;have J:(iF 5 (q.take i) lb).length+1<=1000000:=by
      unfold iF;omega
    obtain⟨⟨D,x2⟩,H⟩:∃x,q[i]=x:=⟨_,rfl⟩;rw[H]at k0 k1 Q d1;simp only at k0 k1 d1;have h3:=rP HF.out a3.out D;have S:=fun(W:World) (g:Gr G W)=>ud lb (.slice a2 lb.length l0) D W (g8.out.gr g) (by have:=a3.out.len;omega);obtain⟨N,hN⟩:∃N,dq lb D=N:=⟨_,rfl⟩;simp only[hN]at h3 S;have o0:awi.wrap (x2+N)=x2+N:=by
      rw[av4];omega
    have m4:wrap64 (x2+N)=x2+N:=by
      unfold wrap64;omega
    have gA:Gr wr (wr.alloc (.cells #[.int .i64 D,.int .i64 x2] 47)):=(Gr.refl wr).alloc _;have b0:(wr.alloc (.cells #[.int .i64 D,.int .i64 x2] 47)).cell? ⟨wr.heap.size,0,none⟩=some (.int .i64 D):=by
      rw[avK]
      rfl
    have b1:(wr.alloc (.cells #[.int .i64 D,.int .i64 x2] 47)).cell? ⟨wr.heap.size,1,none⟩=some (.int .i64 x2):=by
      rw[avK]
      rfl
    have q0:=(O.trans gA).keeps e0;have d2:=avJ S;have b4:=avJ Q;have o1:=avJ hN;have HO:=avJ (B.gr gA);have HG:=avJ (O.trans gA);have d3:=avJ J;have a6:=R4 (x2:=x2) hN;have a4:=avJ a6;obtain⟨b8,b5,U⟩:=B.own.form;clear B O S Q hN c6 J H d1 h3 gA a6;subst U;go_wp2_with fail
    generalize hW:wr.alloc (.cells #[.int .i64 D,.int .i64 x2] 47)=wa at*;refine(d2.out _ HG.out).mono ?_;rintro e w3 ⟨rfl,z⟩;have b0:=z.keeps b0;have b1:=z.keeps b1;have q0:=z.keeps q0;have b6:=avJ (HO.out.gr z);have b7:=avJ (HG.out.trans z);clear z hW;go_wp2_with(at_builtin;refine jl (a0:=G) rfl _ _ rfl _ (iF 5 (q.take i) lb) rfl b6.out (D,x2+N) rfl d3.out b7.out ?_;intro v8 w8 d5 d6)
    exact⟨⟨i+1,s,by go_num,by rw[b4.out,a4.out];exact d5,d6⟩,by simp[intOf];omega⟩
   ·have c9:¬(i:Int)<(q.length:Int):=by omega
    have h5:q.take i=q:=avL (by omega);rw[h5]at B;obtain⟨OA,b9⟩:∃OA,iF 5 q lb=OA:=⟨_,rfl⟩;have h6:OA.length<=8001:=by
      rw[<-b9];have h1:=jN (fh 5 lb) (jW 5 lb) q;have h2:=Z.out.len;unfold iF;omega
    rw[b9]at B;have h7:=avJ b9;have i6:=avJ h6;have HO:=avJ B;have HG:=avJ O;obtain⟨b8,b5,U⟩:=B.own.form;clear B O h5 b9 h6;subst U;go_wp2_with fail
    obtain⟨wo,h8⟩:∃wo,wr=wo:=⟨_,rfl⟩;rw[h8]at HO HG⊢;clear h8 wr;go_loopw [11,109] (fun ov iv w'=>∃j:Nat,j<=lb.length/\iv=.int .i64 j/\eo G w' ov (OA++iG 5 q (lb.take j))/\Gr G w') (fun _ iv _=>lb.length-(intOf iv).toNat)
    case atStart=>exact⟨0,avR _,rfl,by show eo G wo _ (OA++[]);rw[avP];exact HO.out,HG.out⟩
    case round=>
     as_aux_lemma=>
      obtain⟨j,hj,rfl,B,O⟩:=hrel;have V:=jN (gZ 5 q) (qY 5 q) (lb.take j);rw[avN]at V;have J:(OA++iG 5 q (lb.take j)).length+1<=1000000:=by
       have h1:=a3.out.len;have h2:=i6.out;rw[avV];unfold iG;omega
      by_cases s:j<lb.length
      ·have c9:(j:Int)<(lb.length:Int):=by omega
       obtain⟨B2,m5,rfl,o2,i0⟩:∃b I,a2=some ⟨b,I,none⟩/\b<G.heap.size/\bC G b I lb:=by
        rcases g8.out with⟨_,e2⟩|⟨b,I,c,e,hb,hp⟩
        ·rw[e2]at s;exact absurd s (by simp)
        ·cases e;exact⟨b,I,rfl,hb,hp⟩
       have k0:=O.keeps (i0 j s).1;have k1:=O.keeps (i0 j s).2;have Q:=vl 5 q lb j s;have o3:=a3.out.len;obtain⟨CL,d7⟩:∃CL,OA++iG 5 q (lb.take j)=CL:=⟨_,rfl⟩;rw[d7]at B J;have b2:=avJ d7;clear d7;obtain⟨⟨D,x2⟩,H⟩:∃x,lb[j]=x:=⟨_,rfl⟩;rw[H]at k0 k1 Q;simp only at k0 k1;have S:=fun(W:World) (g:Gr G W)=>ud q (.slice a1 q.length k8) D W (g7.out.gr g) (by have:=Z.out.len;omega);obtain⟨N,hN⟩:∃N,dq q D=N:=⟨_,rfl⟩;simp only[hN]at S;have gA:Gr wr (wr.alloc (.cells #[.int .i64 D,.int .i64 x2] 47)):=(Gr.refl wr).alloc _;have b0:(wr.alloc (.cells #[.int .i64 D,.int .i64 x2] 47)).cell? ⟨wr.heap.size,0,none⟩=some (.int .i64 D):=by
        rw[avK]
        rfl
       have b1:(wr.alloc (.cells #[.int .i64 D,.int .i64 x2] 47)).cell? ⟨wr.heap.size,1,none⟩=some (.int .i64 x2):=by
        rw[avK]
        rfl
       have q0:=(O.trans gA).keeps e0;have d2:=avJ S;have b4:=avJ Q;have HO:=avJ (B.gr gA);have HG:=avJ (O.trans gA);have d3:=avJ J;have a6:=R9 (x2:=x2) hN;have a4:=avJ a6;obtain⟨b8,b5,U⟩:=B.own.form;clear B O S Q hN V J H gA a6;subst U;go_wp2_with fail
       generalize hW:wr.alloc (.cells #[.int .i64 D,.int .i64 x2] 47)=wa at*;refine(d2.out _ HG.out).mono ?_;rintro e w3 ⟨rfl,z⟩;have b0:=z.keeps b0;have b1:=z.keeps b1;have b6:=avJ (HO.out.gr z);have b7:=avJ (HG.out.trans z);clear z hW;by_cases hc:N=0
       ·rw[if_pos hc]at a4;subst hc;go_wp2_with(at_builtin;refine jl (a0:=G) rfl _ _ rfl _ CL rfl b6.out (D,x2) rfl d3.out b7.out ?_;intro v8 w8 d5 d6)
        exact⟨⟨j+1,s,by go_num,by rw[b4.out,a4.out,<-List.append_assoc,b2.out];exact d5,d6⟩,by simp[intOf];omega⟩
       ·rw[if_neg hc]at a4;have o4:(N==0)=false:=by simpa using hc
        go_wp2_with fail
        exact⟨⟨j+1,s,by go_num,by rw[b4.out,a4.out,avP,b2.out];exact b6.out,b7.out⟩,by simp[intOf];omega⟩
      ·have c9:¬(j:Int)<(lb.length:Int):=by omega
       have i1:lb.take j=lb:=avL (by omega);rw[i1]at B J;have d8:∀x∈OA++iG 5 q lb,0<=x.1/\x.1<=2147483648:=fun x H=>by
        rw[<-h7.out]at H;rcases av8.1 H with H|H
        ·obtain⟨y,hy,H⟩:=avU.1 H;have h1:=Z.out.row y hy;have h2:=vR H;omega
        ·obtain⟨y,hy,H⟩:=avU.1 H;have h1:=a3.out.row y hy;have h2:=vS H;omega
       obtain⟨AL,d9⟩:∃AL,OA++iG 5 q lb=AL:=⟨_,rfl⟩;rw[d9]at B d8 J;have l2:=avJ d9;clear d9;have i2:=rL G wr _ _ B.own O (by omega) d8;have l3:=avJ i2;obtain⟨b8,b5,U⟩:=B.own.form;clear B O i2 i1 d8 V J;subst U;go_wp2_with fail
       refine l3.out.mono ?_;rintro e w9 ⟨rfl,ys,e1,i3,i4,i5⟩;rw[<-l2.out,<-h7.out]at e1;have hj:=vm (kind:=5) (by decide) Z.out.zJ a3.out.zJ e1 i3;rw[<-Cv]at hj;have HR:Hid (dj G w9 (.slice b8 AL.length b5) ys/\gw L ls (.node 5 ql qr) ys/\Gr G w9):=avJ ⟨i4,rO HF.out hj,i5⟩;clear e1 i3 i4 i5 hj;go_wp2_with fail
       go_ret2;exact⟨_,ys,rfl,HR.out.1.back g9.out,HR.out.2.1,g9.out.trans HR.out.2.2⟩
end
section
variable{w:World}{FP TP PB DB M:Nat}{c:Ch}{sv:Head}{t:Int}{d:Dk}
theorem J9(_:fR w FP TP PB DB M c sv t d){n:ByteArray}{L:ByteArray->List aa}{ls:List (ByteArray×Int×ByteArray)}(hF:pH L ls){NB b:Nat}{ql qr:Qy}(hq:eQ NB w (.node 6 ql qr) b)(n2:kC ql+kC qr<=100000)
   (hL:∀(W:World) (bl:Nat),Gr w W->eQ NB W ql bl->Calls avO 12 #[.pointer (some ⟨FP,0,none⟩),.string n,.pointer (some ⟨bl,0,none⟩)] W fun e w'=>∃v out,e=.returned (.tuple #[v,.nilIface])/\dj W w' v out/\gw L ls ql out/\Gr W w')
   (hR:∀(W:World) (br:Nat),Gr w W->eQ NB W qr br->Calls avO 12 #[.pointer (some ⟨FP,0,none⟩),.string n,.pointer (some ⟨br,0,none⟩)] W fun e w'=>∃v out,e=.returned (.tuple #[v,.nilIface])/\dj W w' v out/\gw L ls qr out/\Gr W w'):
   Calls avO 12 #[.pointer (some ⟨FP,0,none⟩),.string n,.pointer (some ⟨b,0,none⟩)] w fun e w'=>∃v out,e=.returned (.tuple #[v,.nilIface])/\dj w w' v out/\gw L ls (.node 6 ql qr) out/\Gr w w':=by
 obtain⟨_,c0,_,_,bl,br,c3,c4,d9,e1⟩:=hq;have e3:=hL w bl (Gr.refl w) d9;have c5:=avJ e3;have j8:=avJ e1;have HR:=avJ hR;have HF:=avJ hF;clear e3 e1 hR hL d9 hF;go_enter av_,av7;go_wp2_with fail
 refine c5.out.mono ?_;rintro e w1 ⟨v1,q,rfl,c6,e4,V⟩;have e5:=HR.out w1 br V (Hj V qr br j8.out);have d0:=V.keeps c0;have d4:=V.keeps c4;have j9:=avJ e5;have k2:=avJ c6;have Y:=avJ e4;have k3:=avJ V;obtain⟨a1,k4,k5⟩:=c6.form;clear e5 c6 e4 V;subst k5;go_wp2_with fail
 refine j9.out.mono ?_;rintro e I ⟨v2,lb,rfl,a9,e6,a5⟩;have n3:=avJ a9;have Z:=avJ e6;have n4:=avJ a5;have e7:=avJ ((k2.out.gr a5).lp);have e8:=avJ (a9.lp);have e0:=a5.keeps d0;have e9:=avJ (k3.out.trans a5);obtain⟨a2,k6,k7⟩:=a9.form;clear a9 e6 a5 d0 d4;subst k7;go_wp2_with fail
 go_loopw [11,59] (fun ov iv w'=>∃i:Nat,i<=q.length/\iv=.int .i64 i/\eo I w' ov (iF 6 (q.take i) lb)/\Gr I w') (fun _ iv _=>q.length-(intOf iv).toNat)
 case atStart=>exact⟨0,avR _,rfl,av1 _ _ _ _,Gr.refl _⟩
 case round=>
  as_aux_lemma=>
   obtain⟨i,hi,rfl,z,J⟩:=hrel;by_cases s:i<q.length
   ·have c7:(i:Int)<(q.length:Int):=by omega
    obtain⟨B1,m2,rfl,n5,g0⟩:∃b G,a1=some ⟨b,G,none⟩/\b<I.heap.size/\bC I b G q:=by
      rcases e7.out with⟨_,e2⟩|⟨b,G,c,e,hb,hp⟩
      ·rw[e2]at s;exact absurd s (by simp)
      ·cases e;exact⟨b,G,rfl,hb,hp⟩
    have k0:=J.keeps (g0 i s).1;have k1:=J.keeps (g0 i s).2;have O:=vj 6 q lb i s;have c8:=Y.out.xg q[i] (avX s);have c1:=jN (fh 6 lb) (jW 6 lb) (q.take i);rw[avN]at c1;have n6:=Y.out.len;have H:(iF 6 (q.take i) lb).length+1<=1000000:=by
      unfold iF;omega
    obtain⟨⟨B,x2⟩,D⟩:∃x,q[i]=x:=⟨_,rfl⟩;rw[D]at k0 k1 O c8;simp only at k0 k1 c8;have g3:=rP HF.out Z.out B;have Q:=fun(W:World) (g:Gr I W)=>ud lb (.slice a2 lb.length k6) B W (e8.out.gr g) (by have:=Z.out.len;omega);obtain⟨N,hN⟩:∃N,dq lb B=N:=⟨_,rfl⟩;simp only[hN]at g3 Q;have n7:awi.wrap (x2+N)=x2+N:=by
      rw[av4];omega
    have m3:wrap64 (x2+N)=x2+N:=by
      unfold wrap64;omega
    have gA:Gr wr (wr.alloc (.cells #[.int .i64 B,.int .i64 x2] 47)):=(Gr.refl wr).alloc _;have b0:(wr.alloc (.cells #[.int .i64 B,.int .i64 x2] 47)).cell? ⟨wr.heap.size,0,none⟩=some (.int .i64 B):=by
      rw[avK]
      rfl
    have b1:(wr.alloc (.cells #[.int .i64 B,.int .i64 x2] 47)).cell? ⟨wr.heap.size,1,none⟩=some (.int .i64 x2):=by
      rw[avK]
      rfl
    have q0:=(J.trans gA).keeps e0;have g4:=avJ Q;have b2:=avJ O;have n8:=avJ hN;have HO:=avJ (z.gr gA);have HG:=avJ (J.trans gA);have g5:=avJ H;have a6:=R5 (x2:=x2) hN;have a3:=avJ a6;obtain⟨b8,b3,S⟩:=z.own.form;clear z J Q O hN c1 H D c8 g3 gA a6;subst S;go_wp2_with fail
    generalize hW:wr.alloc (.cells #[.int .i64 B,.int .i64 x2] 47)=wa at*;refine(g4.out _ HG.out).mono ?_;rintro e w3 ⟨rfl,a4⟩;have b0:=a4.keeps b0;have b1:=a4.keeps b1;have q0:=a4.keeps q0;have g7:=avJ (HO.out.gr a4);have g8:=avJ (HG.out.trans a4);clear a4 hW;by_cases hc:N=0
    · rw[if_pos hc]at a3
      subst hc;go_wp2_with(at_builtin;refine jl (a0:=I) rfl _ _ rfl _ (iF 6 (q.take i) lb) rfl g7.out (B,x2) rfl g5.out g8.out ?_;intro v8 w8 k8 k9)
      exact⟨⟨i+1,s,by go_num,by rw[b2.out,a3.out];exact k8,k9⟩,by simp[intOf];omega⟩
    · rw[if_neg hc]at a3
      have n9:(N==0)=false:=by simpa using hc
      go_wp2_with fail
      exact⟨⟨i+1,s,by go_num,by rw[b2.out,a3.out,avP];exact g7.out,g8.out⟩,by simp[intOf];omega⟩
   ·have c7:¬(i:Int)<(q.length:Int):=by omega
    have g9:q.take i=q:=avL (by omega);rw[g9]at z;obtain⟨OA,b4⟩:∃OA,iF 6 q lb=OA:=⟨_,rfl⟩;have h0:OA.length<=8001:=by
      rw[<-b4];have h1:=jN (fh 6 lb) (jW 6 lb) q;have h2:=Y.out.len;unfold iF;omega
    rw[b4]at z;have h3:=avJ b4;have i2:=avJ h0;have HO:=avJ z;have HG:=avJ J;obtain⟨b8,b3,S⟩:=z.own.form;clear z J g9 b4 h0;subst S;go_wp2_with fail
    obtain⟨wo,h4⟩:∃wo,wr=wo:=⟨_,rfl⟩;rw[h4]at HO HG⊢;clear h4 wr;go_loopw [11,109] (fun ov iv w'=>∃j:Nat,j<=lb.length/\iv=.int .i64 j/\eo I w' ov (OA++iG 6 q (lb.take j))/\Gr I w') (fun _ iv _=>lb.length-(intOf iv).toNat)
    case atStart=>exact⟨0,avR _,rfl,by show eo I wo _ (OA++[]);rw[avP];exact HO.out,HG.out⟩
    case round=>
     as_aux_lemma=>
      obtain⟨j,hj,rfl,z,J⟩:=hrel;have U:=jN (gZ 6 q) (qY 6 q) (lb.take j);rw[avN]at U;have H:(OA++iG 6 q (lb.take j)).length+1<=1000000:=by
       have h1:=Z.out.len;have h2:=i2.out;rw[avV];unfold iG;omega
      by_cases s:j<lb.length
      ·have c7:(j:Int)<(lb.length:Int):=by omega
       obtain⟨B2,m4,rfl,o0,h6⟩:∃b G,a2=some ⟨b,G,none⟩/\b<I.heap.size/\bC I b G lb:=by
        rcases e8.out with⟨_,e2⟩|⟨b,G,c,e,hb,hp⟩
        ·rw[e2]at s;exact absurd s (by simp)
        ·cases e;exact⟨b,G,rfl,hb,hp⟩
       have k0:=J.keeps (h6 j s).1;have k1:=J.keeps (h6 j s).2;have O:=vl 6 q lb j s;have o1:=Z.out.len;obtain⟨CL,c9⟩:∃CL,OA++iG 6 q (lb.take j)=CL:=⟨_,rfl⟩;rw[c9]at z H;have c5:=avJ c9;clear c9;obtain⟨⟨B,x2⟩,D⟩:∃x,lb[j]=x:=⟨_,rfl⟩;rw[D]at k0 k1 O;simp only at k0 k1;have Q:=fun(W:World) (g:Gr I W)=>ud q (.slice a1 q.length k4) B W (e7.out.gr g) (by have:=Y.out.len;omega);obtain⟨N,hN⟩:∃N,dq q B=N:=⟨_,rfl⟩;simp only[hN]at Q;have gA:Gr wr (wr.alloc (.cells #[.int .i64 B,.int .i64 x2] 47)):=(Gr.refl wr).alloc _;have b0:(wr.alloc (.cells #[.int .i64 B,.int .i64 x2] 47)).cell? ⟨wr.heap.size,0,none⟩=some (.int .i64 B):=by
        rw[avK]
        rfl
       have b1:(wr.alloc (.cells #[.int .i64 B,.int .i64 x2] 47)).cell? ⟨wr.heap.size,1,none⟩=some (.int .i64 x2):=by
        rw[avK]
        rfl
       have q0:=(J.trans gA).keeps e0;have g4:=avJ Q;have b2:=avJ O;have HO:=avJ (z.gr gA);have HG:=avJ (J.trans gA);have g5:=avJ H;have a6:=R7 (x2:=x2) hN;have a3:=avJ a6;obtain⟨b8,b3,S⟩:=z.own.form;clear z J Q O hN U H D gA a6;subst S;go_wp2_with fail
       exact⟨⟨j+1,s,by go_num,by rw[b2.out,a3.out,avP,c5.out];exact HO.out,HG.out⟩,by simp[intOf];omega⟩
      ·have c7:¬(j:Int)<(lb.length:Int):=by omega
       have h7:lb.take j=lb:=avL (by omega);rw[h7]at z H;have d1:∀x∈OA++iG 6 q lb,0<=x.1/\x.1<=2147483648:=fun x D=>by
        rw[<-h3.out]at D;rcases av8.1 D with D|D
        ·obtain⟨y,hy,D⟩:=avU.1 D;have h1:=Y.out.row y hy;have h2:=vR D;omega
        ·obtain⟨y,hy,D⟩:=avU.1 D;have h1:=Z.out.row y hy;have h2:=vS D;omega
       obtain⟨AL,d2⟩:∃AL,OA++iG 6 q lb=AL:=⟨_,rfl⟩;rw[d2]at z d1 H;have l0:=avJ d2;clear d2;have h8:=rL I wr _ _ z.own J (by omega) d1;have l1:=avJ h8;obtain⟨b8,b3,S⟩:=z.own.form;clear z J h8 h7 d1 U H;subst S;go_wp2_with fail
       refine l1.out.mono ?_;rintro e w9 ⟨rfl,ys,d3,h9,i0,i1⟩;rw[<-l0.out,<-h3.out]at d3;have hj:=vm (kind:=6) (by decide) Y.out.zJ Z.out.zJ d3 h9;rw[<-Cv]at hj;have HR:Hid (dj I w9 (.slice b8 AL.length b3) ys/\gw L ls (.node 6 ql qr) ys/\Gr I w9):=avJ ⟨i0,rO HF.out hj,i1⟩;clear d3 h9 i0 i1 hj;go_wp2_with fail
       go_ret2;exact⟨_,ys,rfl,HR.out.1.back e9.out,HR.out.2.1,e9.out.trans HR.out.2.2⟩
end
end
section
open Go Go.RowKit
section
variable{w:World}{FP TP PB DB M:Nat}{c:Ch}{sv:Head}{t:Int}{d:Dk}
theorem Hm(h:fR w FP TP PB DB M c sv t d)(z:jj w){X:Tr}(H:X.lays c d.pg 3){n:ByteArray}(hn:bQ n){L:ByteArray->List aa}{ls:List (ByteArray×Int×ByteArray)}(I:kY X n L ls)(y:pH L ls){J:Nat}:
  ∀(q:Qy) (W:World) (b:Nat),Gr w W->eQ J W q b->oI q->kC q<=100000->Calls avO 12 #[.pointer (some ⟨FP,0,none⟩),.string n,.pointer (some ⟨b,0,none⟩)] W fun e w'=>∃v out,e=.returned (.tuple #[v,.nilIface])/\dj W w' v out/\gw L ls q out/\Gr W w'
 | .leaf kind ws dT,W,b,g,G,B,_=>Mp (h.gr g) (z.gr g) H hn I y G B
 | .node kind O Q,W,b,g,G,B,V=>by
  obtain⟨hk,Y,Z⟩:=B;have hs:kC O+kC Q<=100000:=V;have S:=fun(s:World) (bl:Nat) (g2:Gr W s) (D:eQ J s O bl)=>Hm h z H hn I y O s bl (g.trans g2) D Y (by omega);have U:=fun(s:World) (br:Nat) (g2:Gr W s) (D:eQ J s Q br)=>Hm h z H hn I y Q s br (g.trans g2) D Z (by omega);rcases hk with rfl|rfl|rfl
  ·exact J6 (h.gr g) y G hs S U
  ·exact J8 (h.gr g) y G hs S U
  ·exact J9 (h.gr g) y G hs S U
end
