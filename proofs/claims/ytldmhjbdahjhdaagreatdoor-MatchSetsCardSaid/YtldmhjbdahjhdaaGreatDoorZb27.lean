/-
  Part 28 of the proof.
-/
import Derived.Test.YtldmhjbdahjhdaaGreatDoorZb25
import Derived.Test.YtldmhjbdahjhdaaGreatDoorZb26
open Go.Lib renaming hid->awl
open List renaming mem_filter->awm,length_cons->awp,mem_map->awr,getElem_mem->aws,exists_cons_of_ne_nil->awu,mem_cons->aww,mem_cons_self->awx,length_filter_le->awy,mem_cons_of_mem->awz,mem_append->awB,getElem_cons_zero->awG,getElem_cons_succ->awH,length_map->awK,map_cons->awM,length_append->awN,append_nil->awP
open ByteArray renaming data_append->awn,size_append->awo
open Go.IntKind renaming wrap_i64->awq,i64->awt
open Go.Proofs.Tryz renaming prog->awv,ntmps5->awF,func5->awJ,ntmps25->awQ,func25->awS
open Nat renaming zero_le->awA,le_trans->awC,le_refl->awD,zero_add->awI,not_lt_zero->awL,lt_or_ge->awR
open List.Pairwise renaming nil->awE
open Bool renaming and_eq_true->awO
set_option maxRecDepth 100000
set_option maxHeartbeats 100000000
set_option linter.all false
namespace Go.Proofs.YtldmhjbdahjhdaaGreatDoor
section
open Go Go.RowKit Go.Shelf Go.Lib
abbrev fM:Type:=ByteArray×aa
def gW(r:Int):List ByteArray->Nat->List fM
 |[],_=>[]
 |x::xs,i=>(x,(r,(i:Int)))::gW r xs (i+1)
theorem tE(r:Int):∀(xs:List ByteArray) (i:Nat),(gW r xs i).length=xs.length
 |[],_=>rfl
 |x::xs,i=>by
  unfold gW;rw[awp,awp,tE]
theorem zK{r:Int}:∀{xs:List ByteArray} {i:Nat} {p:fM},p∈gW r xs i->p.2.1=r/\p.1∈xs
 |[],_,_,h=>by cases h
 |x::xs,i,p,h=>by
  unfold gW at h;rcases aww.1 h with e|h
  ·subst e;exact⟨rfl,awx⟩
  ·have:=zK h;exact⟨this.1,awz _ this.2⟩
theorem zL(r:Int)(wd:ByteArray):∀(xs:List ByteArray) (i:Nat),((gW r xs i).filter fun x=>decide (x.1=wd)).map (·.2)=eP r wd xs i
 |[],_=>rfl
 |x::xs,i=>by
  have b:=zL r wd xs (i+1);unfold gW eP;by_cases e:x=wd
  ·subst e;rw[List.filter_cons_of_pos (by simp),awM,b,if_pos rfl]
  ·rw[List.filter_cons_of_neg (by simpa using e),b,if_neg e]
end
section
open Go Go.RowKit Go.Shelf Go.Lib Go.Sort
def uw(b:List fM)(p:ByteArray->Bool):List aa:=(b.filter fun x=>p x.1).map (·.2)
theorem NV(b:List fM)(p:ByteArray->Bool):(uw b p).length<=b.length:=by
 unfold uw;rw[awK];exact awy _ _
def cI(NL:List fM):ByteArray->List aa:=fun wd=>setOf ae (uw NL fun y=>decide (y=wd))
theorem St(NL:List fM)(wd:ByteArray):(cI NL wd).length<=NL.length:=awC (iy _ _) (NV _ _)
def tG(N:Nat)(a:List aa):Prop:=(∀p∈a,jL p=true)/\bH ae a/\a.length<=N
theorem CH{NL:List fM}(s:∀x∈NL,jL x.2=true)(p:ByteArray->Bool):tG NL.length (setOf ae (uw NL p)):=by
 refine⟨fun q b=>?_,bT bw _,awC (iy _ _) (NV _ _)⟩;rw[bm]at b;unfold uw at b;obtain⟨y,z,rfl⟩:=awr.1 b;exact s y (awm.1 z).1
theorem zO{NL:List fM}(b:∀x∈NL,jL x.2=true)(wd:ByteArray):tG NL.length (cI NL wd):=CH b _
theorem tG.iH{N:Nat}{a b:List aa}(h:tG N b):tG N (iH a b):=
 ⟨fun p q=>h.1 p (awm.1 q).1,h.2.1.filter _,awC (awy _ _) h.2.2⟩
theorem zP{N:Nat}{L:ByteArray->List aa}(b:∀x,tG N (L x)):∀(ws:List ByteArray) (a:List aa),tG N a->tG N (iU L a ws)
 |[],_,h=>h
 |x::ws,_,_=>zP b ws _ (b x).iH
theorem oS.TF{w:World}{M n:Nat}{H:Int->Nat}(h:oS w M n H){b o:Nat}{v:Value}(hc:w.cell? ⟨b,o,none⟩=some v):b≠M:=by
 obtain⟨D,⟨y,q,s,z⟩,B⟩:=h;intro e;subst e;simp[World.cell?,s]at hc
section
variable{lo:Nat}{w:World}{XB:Nat}{n:ByteArray}{NL:List fM}
end
def Kc(b:List Int)(r:Int):Nat:=if r∈b then 1 else 0
section
variable{lo:Nat}{w:World}{XB:Nat}{n:ByteArray}{NL:List fM}
end
end
section
open Go Go.RowKit Go.Shelf Go.Lib Go.Sort Go.Maps
theorem Xb{k:Int}(h:ke.ok k):-9223372036854775808<=k/\k<=9223372036854775807:=by
 have h:(Lit.int .i64 k).wf=true:=h;simp[Lit.wf,IntKind.min,IntKind.max,IntKind.bits,IntKind.signed]at h;omega
theorem MR{H:Int->Nat}{k:Int}{v:Value}(h:cntF H k=some v):0<H k/\v=.int .i64 (H k:Int):=by
 unfold cntF at h
 split at h
 ·cases h
 ·cases h;exact⟨by omega,rfl⟩
def U6(kind:Int)(a b:Nat):Nat:=if(kind=4/\0<b)\/kind=5 then a+b else if kind=6/\b=0 then a else 0
def gA(kind:Int)(b q:Int->Nat)(left:Int->Bool)(r:Int):Nat:=if left r=true\/b r=0 then 0 else U6 kind (b r) (q r)
def MS(left:Int->Bool)(k:Int):Int->Bool:=fun x=>left x&&!decide (x=k)
def gB(q b G:Int->Nat)(left:Int->Bool)(r:Int):Nat:=if left r=true\/b r=0 then G r else q r+b r
end
section
open Go Go.RowKit Go.Shelf Go.Lib Go.Sort
def vW(b:List fM)(kind:Int)(ws:List ByteArray)(r:Int):Nat:=
 if kind=1 then de (iU (cI b) (cI b (ws.headD ⟨#[]⟩)) ws.tail) r
 else if kind=2 then de (setOf ae (uw b (preB (ws.headD ⟨#[]⟩)))) r
 else Kc (setOf bU (bY 3 (cI b (ws.headD ⟨#[]⟩)) (cI b (ws.tail.headD ⟨#[]⟩)))) r
def HR(q:List fM):Qy->Int->Nat
 | .leaf kind ws _,r=>vW q kind ws r
 | .node kind a b,r=>cf kind (HR q a r) (HR q b r)
theorem Sv(b:List Int)(r:Int):Kc b r<=1:=by
 unfold Kc
 split<;>omega
theorem Qb{b:List fM}(s:b.length<=1000)(q:∀x∈b,jL x.2=true)(kind:Int)(ws:List ByteArray)(r:Int):vW b kind ws r<=1000:=by
 unfold vW
 split
 ·have y:=Bg (iU (cI b) (cI b (ws.headD ⟨#[]⟩)) ws.tail) r;have z:=(zP (fun x=>zO q x) ws.tail _ (zO q (ws.headD ⟨#[]⟩))).2.2;omega
 ·split
  ·have y:=Bg (setOf ae (uw b (preB (ws.headD ⟨#[]⟩)))) r;have z:=(CH q (preB (ws.headD ⟨#[]⟩))).2.2;omega
  ·have:=Sv (setOf bU (bY 3 (cI b (ws.headD ⟨#[]⟩)) (cI b (ws.tail.headD ⟨#[]⟩)))) r;omega
end
section
open Go Go.RowKit Go.Shelf Go.Lib Go.Sort Go.Maps
def tH:ByteArray:=⟨#[110]⟩
theorem qG:bQ tH:=⟨by decide,by decide⟩
def ui(w:World)(L:ByteArray->List aa)(ls:List (ByteArray×Int×ByteArray))(r:Option Qy×Int)(e:Ending)(w':World):Prop:=
 match r with
 |(some q,_)=>∃M m,e=.returned (.tuple #[.map (some M),.bool true])/\w.heap.size<=M/\m<=8001/\oS w' M m (HN L ls q)/\Gr w w'
 |(none,_)=>e=.returned (.tuple #[.map none,.bool false])/\Gr w w'
section
variable{w:World}{FP TP PB DB M:Nat}{c:Ch}{sv:Head}{t:Int}{d:Dk}
theorem xp(h:fR w FP TP PB DB M c sv t d)(b0:jj w)(he:dO w){X:Tr}(hl:X.lays c d.pg 3){L:ByteArray->List aa}{ls:List (ByteArray×Int×ByteArray)}(hT:kY X tH L ls)(hF:pH L ls)(s:ByteArray)(hs:s.size<=300){W:World}(g:Gr w W):
  Calls awv 25 #[.pointer (some ⟨FP,0,none⟩),.string s] W (ui W L ls (fH s)):=by
 have b2:=CB s (by omega) W (he.gr g);have D:=awl b2;obtain⟨oq,n,hR⟩:∃oq n,fH s=(oq,n):=⟨_,_,rfl⟩;have V:Hid (∀q m,(oq,n)=(some q,m)->oI q/\kC q<=300):=awl (fun q m h=>NT s hs q m (hR.trans h));rw[hR]at D⊢;clear b2 hR;have b4:=@run_makeMap awv;have HE:=awl (fun(W2:World) (b:Nat) (NB:Nat) (q:Qy) (g2:Gr W W2) (hq:eQ NB W2 q b) (h1:oI q) (h2:kC q<=100000)=>Hm h b0 hl qG hT hF q W2 b (g.trans g2) hq h1 h2);clear h b0 hl hT hF he g;cases oq with
 |none=>
  clear HE V b4;show Calls _ _ _ _ fun e w'=>e=.returned (.tuple #[.map none,.bool false])/\Gr W w';go_enter awS,awQ;go_wp2_with fail
  refine D.out.mono ?_;rintro e w1 ⟨rfl,B⟩;go_wp2_with fail
  go_ret2;exact⟨rfl,B⟩
 |some q=>
  obtain⟨b5,b6⟩:=V.out q n rfl;have HV:=awl (And.intro b5 b6);clear V b5 b6;show Calls _ _ _ _ fun e w'=>∃M m,e=.returned (.tuple #[.map (some M),.bool true])/\W.heap.size<=M/\m<=8001/\oS w' M m (HN L ls q)/\Gr W w';obtain⟨H,HH⟩:∃H,Hid (H=HN L ls q):=⟨_,awl rfl⟩;rw[<-HH.out];go_enter awS,awQ;go_wp2_with fail
  refine D.out.mono ?_;rintro e w1 ⟨N1,b1,rfl,b7,B⟩;have Q:=awl (HE.out w1 b1 N1 q B b7 HV.out.1 (by have:=HV.out.2;omega));have b8:=awl B;clear b7 B HE HV D;go_wp2_with fail
  refine Q.out.mono ?_;rintro e w2 ⟨v2,out,rfl,Y,c3,c4⟩;have c5:=awl Y;have G:=awl c3;have c6:=awl (b8.out.trans c4);obtain⟨a2,c2,e3⟩:=Y.form;subst e3;have Z:=awl (lg.made w2);have a0:=awl ((Gr.refl w2).alloc (.map #[] 0));clear Y c3 c4 Q b8;go_wp2_with fail
  obtain⟨S,c7⟩:∃S,Hid (S=w2.alloc (.map #[] 0)):=⟨_,awl rfl⟩;obtain⟨MB,a1⟩:∃MB,Hid (MB=w2.heap.size):=⟨_,awl rfl⟩;rw[<-c7.out,<-a1.out]at Z;rw[<-c7.out]at a0⊢;rw[<-a1.out];have e4:=awl (c5.out.gr a0.out);have e5:=awl G.out.len;have I:=awl G.out.zJ;have e6:=awl G.out.row;rw[<-HH.out]at I;clear b4 c5 G;have d4:=e5.out;go_loopw [9] (fun iv w'=>∃i:Nat,i<=out.length/\iv=.int .i64 i/\lg w' MB i (yS (out.take i))/\ag (fun k=>k=MB) S w') (fun iv _=>out.length-(intOf iv).toNat)
  case atStart=>exact⟨0,awA _,rfl,Z.out,ag.refl _ _⟩
  case round=>
   as_aux_lemma=>
    obtain⟨i,hi,rfl,hm,U⟩:=hrel;by_cases y:i<out.length
    ·have e7:(i:Int)<(out.length:Int):=by omega
     obtain⟨b9,z,rfl,c1,a3⟩:∃b9 z,a2=some ⟨b9,z,none⟩/\S.cell? ⟨b9,z+i*2,none⟩=some (.int .i64 out[i].1)/\S.cell? ⟨b9,z+i*2+1,none⟩=some (.int .i64 out[i].2):=by
      rcases e4.out.lp with⟨_,e9⟩|⟨b,e8,c,e,hb,hp⟩
      ·rw[e9]at y;exact absurd y (by simp)
      ·cases e;exact⟨b,e8,rfl,(hp i y).1,(hp i y).2⟩
     have a4:=fun{x:Nat} {v:Value} (hc:S.cell? ⟨b9,x,none⟩=some v)=>oS.TF Z.out.map hc;have d1:=U.keeps (a4 c1) c1;have d2:=U.keeps (a4 a3) a3;obtain⟨c8,a5⟩:=I.out.val _ (aws y);obtain⟨J,c9⟩:=Ld I.out i y;have d0:=e6.out _ (aws y);rw[c8]at d2;obtain⟨r,hr⟩:∃r,out[i].1=r:=⟨_,rfl⟩;rw[hr]at d1 d2 J c9 d0 a5;obtain⟨hh,d3⟩:∃hh,H r=hh:=⟨_,rfl⟩;rw[d3]at d2 J a5;have O:=awl hm;have a6:=awl U;have g0:=awl J;have g3:i<1000000:=by omega
     have d5:-9223372036854775808<=r/\r<=9223372036854775807:=by omega
     clear hm U J c8 c1 a3 a4 d0 hr d3;have g4:=awl (O.out.gr ((Gr.refl wr).drew));go_wp2_with fail
     obtain⟨w8,j1,h8,g8⟩:=lg.store g4.out g3 d5 a5 c9;go_region
     go_wp2_with fail
     all_goals exact⟨⟨i+1,y,by go_num,by rw[g0.out];exact h8,a6.out.trans ((ag.drew _).trans (ag.fY g8 rfl))⟩,by simp[intOf];omega⟩
    ·have e7:¬(i:Int)<(out.length:Int):=by omega
     have g5:i=out.length:=by omega
     subst g5;rw[List.take_length,OC I.out]at hm;have O:=awl hm;have a6:=awl U;have j2:(((out.length:Nat):Int)==((out.length:Nat):Int))=true:=by simp
     clear hm U;go_wp2_with(at_len;refine F_ rfl _ rfl O.out rfl ?_)
     go_ret2;have h1:=a1.out;have h2:=c6.out.size;exact⟨MB,rfl,by omega,_,d4,O.out.map,a6.out.gr (c6.out.trans a0.out) (fun k e=>by omega)⟩
end
end
section
open Go Go.RowKit
theorem Hr(a b:List aa):setOf ae (setOf ae a++b)=setOf ae (a++b):=
 (qe bw (bT bw _) fun x=>by simp only[bm,awB]).symm
theorem zQ{a:List aa}(h:bH ae a):setOf ae a=a:=(qe bw h fun _=>Iff.rfl).symm
theorem Kb(a b:List fM)(p:ByteArray->Bool):uw (a++b) p=uw a p++uw b p:=by
 unfold uw;rw[List.filter_append,List.map_append]
theorem Su(r:Int)(wd:ByteArray)(ws:List ByteArray):uw (gW r ws 0) (fun y=>decide (y=wd))=eP r wd ws 0:=zL r wd ws 0
theorem P8(s:List fM)(row:Int){ws b:List ByteArray}(q:∀w,w∈b↔w∈ws):qF (cI s) row ws b=cI (s++gW row ws 0):=by
 funext wd
 unfold qF cI;rw[Kb,Su];by_cases h:wd∈b
 ·rw[if_pos h,Hr]
 ·rw[if_neg h,tu.2 (fun y=>h ((q wd).2 y)),awP]
theorem P_(L:Ct)(row:Int)(ws:List ByteArray):qF L row ws []=L:=by
 funext wd
 unfold qF;rw[if_neg (by simp)]
theorem zR{r:Int}:∀{xs:List ByteArray} {i:Nat} {p:fM},p∈gW r xs i->(i:Int)<=p.2.2/\p.2.2<(i:Int)+xs.length
 |[],_,_,h=>by cases h
 |x::xs,i,p,h=>by
  unfold gW at h;rcases aww.1 h with e|h
  ·subst e;simp only[awp];omega
  ·have:=zR h;simp only[awp];omega
def mN(ts:List ByteArray):Nat->List fM
 |0=>[]
 |k+1=>mN ts k++if(ts.getD k ⟨#[]⟩).size<=40 then gW ((k:Int)+1) (aB (ts.getD k ⟨#[]⟩)) 0 else[]
theorem Fe{ts:List ByteArray}{k:Nat}(h:¬(ts.getD k ⟨#[]⟩).size<=40):mN ts (k+1)=mN ts k:=by
 show mN ts k++_=_;rw[if_neg h,awP]
theorem uj{ts:List ByteArray}{k:Nat}(h:(ts.getD k ⟨#[]⟩).size<=40):mN ts (k+1)=mN ts k++gW ((k:Int)+1) (aB (ts.getD k ⟨#[]⟩)) 0:=by
 show mN ts k++_=_;rw[if_pos h]
theorem xq{ts:List ByteArray}:∀{k:Nat} {x:fM},x∈mN ts k->(1<=x.2.1/\x.2.1<=(k:Int))/\bQ x.1/\x.1.size<=12/\0<=x.2.2/\x.2.2<=19
 |0,_,h=>by cases h
 |k+1,x,h=>by
  by_cases hs:(ts.getD k ⟨#[]⟩).size<=40
  ·rw[uj hs]at h;rcases awB.1 h with h|h
   ·have:=xq h;exact⟨⟨this.1.1,by have:=this.1.2;omega⟩,this.2⟩
   ·have q:=zK h;have y:=zR h;obtain⟨z,_,s⟩:=nj hs;have b:=s _ q.2;refine⟨?_,b.1,b.2,?_⟩<;>omega
  ·rw[Fe hs]at h;have:=xq h;exact⟨⟨this.1.1,by have:=this.1.2;omega⟩,this.2⟩
theorem CI(ts:List ByteArray):∀k,(mN ts k).length<=20*k
 |0=>awD _
 |k+1=>by
  have b:=CI ts k;by_cases hs:(ts.getD k ⟨#[]⟩).size<=40
  ·rw[uj hs,awN,tE];have:=(nj hs).1;omega
  ·rw[Fe hs];omega
theorem lG.mono{pg:Nat->ByteArray}{n:ByteArray}{V V' N:Nat}{L:Ct}{K:LP}{c:Ch}{X:Tr}(h:lG pg n V L N K c X)(b:V<=V'):lG pg n V' L N K c X:=
 ⟨h.tg.less (awD _) b (fun _ q=>q),h.xg,h.has,h.small,h.keys⟩
theorem ni.mono{pg:Nat->ByteArray}{n:ByteArray}{row:Int}{ws:List ByteArray}{Q Q':Ch->Tr->Prop}(b:∀c X,Q c X->Q' c X):∀{rest q:List ByteArray} {c:Ch} {X:Tr},ni pg n row ws Q q rest c X->ni pg n row ws Q' q rest c X
 |[],_,_,_,h=>b _ _ h
 |_::_,_,_,_,h=>⟨fun hd=>(h.1 hd).mono b,fun hd=>⟨(h.2 hd).1,(h.2 hd).2.imp fun _ s=>⟨s.1,s.2.mono fun _ _ y=>y.mono b⟩⟩⟩
def xr(pg:Nat->ByteArray)(n:ByteArray)(ts:List ByteArray)(k:Nat)(c:Ch)(X:Tr):Prop:=
 ∃K V,lG pg n V (cI (mN ts k)) (mN ts k).length K c X/\((K=[]/\V=347+401*k)\/(K≠[]/\V=359+401*k))
theorem Ff(wd:ByteArray):cI [] wd=[]:=zQ awE
theorem MQ(n:ByteArray)(ts:List ByteArray):xr rF.pg n ts 0 (Ch.new fV) none:=by
 refine⟨[],347,⟨(TG.empty oP).less (awD _) (awD _) (fun _ h=>h.elim),.inl ⟨rfl,rfl⟩,fun b _=>⟨[],rfl,⟨⟨(fun l h=>by cases h),awE⟩,(fun l h=>by cases h),(fun l h=>by cases h)⟩,(Ff b).symm⟩,(fun b p h=>by rw[show mN ts 0=[]from rfl,Ff]at h;cases h),(fun e h=>by cases h)⟩,.inl ⟨rfl,rfl⟩⟩
theorem xr.lays{pg:Nat->ByteArray}{n:ByteArray}{ts:List ByteArray}{k:Nat}{c:Ch}{X:Tr}(h:xr pg n ts k c X):X.lays c pg 3:=by
 obtain⟨K,V,b,_⟩:=h;exact b.tg.lays
theorem xr.vF{pg:Nat->ByteArray}{n:ByteArray}{ts:List ByteArray}{k:Nat}{c:Ch}{X:Tr}(h:xr pg n ts k c X)(q:k<=25):∃K V,lG pg n V (cI (mN ts k)) (mN ts k).length K c X/\V<12145:=by
 obtain⟨K,V,b,s⟩:=h;exact⟨K,V,b,by omega⟩
theorem Qa{pg:Nat->ByteArray}{n:ByteArray}(hn:bQ n)(B:n.size<=1){ts:List ByteArray}{k:Nat}{c:Ch}{X:Tr}(h:xr pg n ts k c X)(hk:k<25)(hs:(ts.getD k ⟨#[]⟩).size<=40):
  (∀wd∈aB (ts.getD k ⟨#[]⟩),bQ wd/\∃PS,xe X n wd PS/\∀p∈PS.flatten,p.1≠(k:Int)+1)/\
  ((X.get aW=none/\(mN ts k).length=0)\/X.get aW=some (gQ (mN ts k).length))/\
  (mN ts k).length+(aB (ts.getD k ⟨#[]⟩)).length<=500/\
  ∃D G,jC c 3 X aW (gQ ((mN ts k).length+(aB (ts.getD k ⟨#[]⟩)).length))=(D,G,0)/\ni pg n ((k:Int)+1) (aB (ts.getD k ⟨#[]⟩)) (xr pg n ts (k+1)) [] (aB (ts.getD k ⟨#[]⟩)) D G:=by
 obtain⟨K,V,H,h2⟩:=h;obtain⟨U,Y,s⟩:=nj hs;have Z:=CI ts k;have b:=uj hs;obtain⟨ws,O⟩:∃ws,aB (ts.getD k ⟨#[]⟩)=ws:=⟨_,rfl⟩;rw[O]at U Y s b⊢;refine⟨fun wd q=>⟨(s wd q).1,?_⟩,H.get,by omega,?_⟩
 ·obtain⟨PS,J,L,I⟩:=H.has wd (s wd q).1;refine⟨PS,H.RU hn B (by omega) (s wd q).1 J L I,fun p y=>?_⟩;rw[I]at y;unfold cI at y;rw[bm]at y;unfold uw at y;obtain⟨x,hx,rfl⟩:=awr.1 y;have:=(xq (awm.1 hx).1).1;omega
 ·obtain⟨z,Q,S,a5⟩:∃z,((K=[]/\z=V+12)\/(K≠[]/\z=V))/\z<12145/\z=359+401*k:=by
   rcases h2 with⟨M,h4⟩|⟨M,h4⟩
   ·exact⟨V+12,.inl ⟨M,rfl⟩,by omega,by omega⟩
   ·exact⟨V,.inr ⟨M,rfl⟩,by omega,by omega⟩
  obtain⟨D,G,K1,J,L,I⟩:=H.VF Q S ((mN ts k).length+ws.length);refine⟨D,G,J,?_⟩;have hb:qE ws [] ws<=401:=by
   rw[Py];exact Y
  have h5:=lG.Cp (row:=(k:Int)+1) hn B (by omega) U s ws [] (fun w hw=>hw) (by rw[P_];exact L) I (by omega);refine h5.mono fun c' X' ⟨K',a6,f1,f2,f3⟩=>?_;refine⟨K',359+401*(k+1),?_,.inr ⟨fun e=>?_,rfl⟩⟩
  ·rw[P8 (mN ts k) ((k:Int)+1) (fun w=>by rw[f1 w];simp),<-b]at f2;rw[show(mN ts k).length+ws.length=(mN ts (k+1)).length by rw[b,awN,tE]]at f2;exact f2.mono (by omega)
  ·rw[e]at f3;cases f3
theorem CJ{P:aa->Prop}{L:ByteArray->List aa}(b:∀x,∀p∈L x,P p):∀(ws:List ByteArray) (a:List aa),(∀p∈a,P p)->∀p∈iU L a ws,P p
 |[],_,h=>h
 |x::ws,a,_=>CJ b ws (iH a (L x)) fun p q=>b x p (awm.1 q).1
theorem Fg(L:ByteArray->List aa):∀(fs:List ByteArray) (a:List aa),bH ae a->bH ae (fs.foldl (fun a x=>setOf ae (a++L x)) a)/\∀p,p∈fs.foldl (fun a x=>setOf ae (a++L x)) a↔p∈a\/∃x∈fs,p∈L x
 |[],a,h=>⟨h,fun p=>by simp⟩
 |x::fs,a,_=>by
  have b:=Fg L fs (setOf ae (a++L x)) (bT bw _);refine⟨b.1,fun p=>?_⟩;rw[List.foldl_cons,b.2 p,bm,awB];simp only[aww,exists_eq_or_imp,or_assoc]
theorem yB(L:ByteArray->List aa)(fs:List ByteArray):bH ae (hY L fs)/\∀p,p∈hY L fs↔∃x∈fs,p∈L x:=by
 have:=Fg L fs [] awE;exact⟨this.1,fun p=>by rw[show hY L fs=fs.foldl (fun a x=>setOf ae (a++L x)) []from rfl,this.2 p];simp⟩
theorem nK{NL:List fM}{wd:ByteArray}{p:aa}:p∈cI NL wd↔(wd,p)∈NL:=by
 unfold cI;rw[bm];unfold uw;rw[awr]
 constructor
 ·rintro⟨⟨a,b⟩,s,rfl⟩;obtain⟨y,q⟩:=awm.1 s;have q:a=wd:=by simpa using q
  rw[<-q];exact y
 ·exact fun h=>⟨(wd,p),awm.2 ⟨h,by simp⟩,rfl⟩
section
variable{pg:Nat->ByteArray}{n:ByteArray}{V N:Nat}{NL:List fM}{K:LP}{c:Ch}{X:Tr}
theorem CK(n:ByteArray):∀(l:LP),(∀e∈l,∃b r,bQ b/\b.size<=12/\(1<=r/\r<=1073741824)/\e.1=bS n b r)->∃ls:List (ByteArray×Int×ByteArray),l=ls.map (fun e=>(bS n e.1 e.2.1,e.2.2))/\∀e∈ls,bQ e.1/\(1<=e.2.1/\e.2.1<=1073741824)
 |[],_=>⟨[],rfl,fun e h=>by cases h⟩
 |( k,v)::l,h=>by
   obtain⟨ls,y,z⟩:=CK n l fun e q=>h e (awz _ q);obtain⟨b,r,B,_,D,s⟩:=h (k,v) awx;refine⟨(b,r,v)::ls,?_,fun e q=>?_⟩
   · rw[awM,<-y]
     simp only at s⊢;rw[s]
   · rcases aww.1 q with G|q
     ·subst G;exact⟨B,D⟩
     ·exact z e q
theorem Kd{n:ByteArray}:∀ls:List (ByteArray×Int×ByteArray),13*ls.length<=aN oP (ls.map fun e=>(bS n e.1 e.2.1,e.2.2))
 |[]=>awA _
 |e::ls=>by
  have q:=Kd (n:=n) ls;have b:=tZ (bS n e.1 e.2.1) e.2.2;unfold pz at b;rw[oD]at b;unfold aN at q⊢;simp only[awM,List.sum_cons,awp];omega
theorem U7(hn:bQ n)(b1:n.size<=1)(h:lG pg n V (cI NL) N K c X)(hV:V<12145)(hl:NL.length<=500)(J:∀x∈NL,bQ x.1/\jL x.2=true/\x.2.1<=8000):
  ∃ls,kY X n (cI NL) ls/\pH (cI NL) ls/\∀kind ws r,pR (cI NL) ls kind ws r=vW NL kind ws r:=by
 have a4:∀x∈NL,jL x.2=true:=fun x G=>(J x G).2.1;have a5:∀e∈eF K (ji n),∃b r,bQ b/\b.size<=12/\(1<=r/\r<=1073741824)/\e.1=bS n b r:=by
  intro e I;obtain⟨b2,U⟩:=awm.1 I;rcases h.keys e b2 with D|D
  ·rw[D,B_]at U;cases U
  ·exact D
 obtain⟨ls,L,M⟩:=CK n _ a5;have Y:=h.tg.walk (s:=ji n) (di (zx n));have b6:13*ls.length<=V:=by
  refine awC (Kd (n:=n) ls) ?_;rw[<-L];exact awC (rK _ K) h.tg.aN
 have a6:RV X n ls:=by
  refine⟨by rw[Y,EJ h.tg.GY,L],M,?_⟩;rw[Y];have H:(iT K (ji n)).length<=K.length:=awy _ _;have S:=yv K;have h4:=h.tg.aN;omega
 have Z:∀b,bH ae (cI NL b):=fun b=>bT bw _;have z:∀b p,p∈cI NL b->1<=p.1/\p.1<=8000:=by
  intro b p y;have H:=J _ (nK.1 y);have S:=H.2.1;have h4:p.1<=8000:=H.2.2;simp only[jL,awO,decide_eq_true_eq]at S;omega
 have a0:∀s,setOf ae (uw NL (preB s))=hY (cI NL) (aw (mR s ls)):=by
  intro s;obtain⟨f1,f2⟩:=yB (cI NL) (aw (mR s ls));refine(qe bw f1 fun p=>?_).symm;rw[f2 p]
  constructor
  ·rintro⟨x,G,y⟩;rw[ig]at G;obtain⟨_,b3⟩:=awm.1 G;exact awr.2 ⟨(x,p),awm.2 ⟨nK.1 y,b3⟩,rfl⟩
  ·intro y;unfold uw at y;obtain⟨⟨b,q⟩,H,rfl⟩:=awr.1 y;obtain⟨S,h4⟩:=awm.1 H;have O:q∈cI NL b:=nK.2 S;refine⟨b,?_,O⟩;rw[ig];have a1:=(J _ S).1;obtain⟨PS,e1,e2,D⟩:=h.has b a1;have b4:PS≠[]:=by
    intro e;rw[e]at D;rw[<-D]at O;cases O
   obtain⟨l,c2,rfl⟩:=awu b4;have hk:aV n b l∈eF K (cN n b):=by
    rw[e1];exact awx
   have a2:aV n b l∈eF K (ji n):=awm.2 ⟨(awm.1 hk).1,BX n b (rowOf l)⟩;rw[L]at a2;obtain⟨e,I,e4⟩:=awr.1 a2;have e5:bS n e.1 e.2.1=bS n b (rowOf l):=congrArg Prod.fst e4;have e6:b=e.1:=EK a1 (M e I).1 (n:=n) (r:=e.2.1) (by rw[e5];exact kq n b (rowOf l));exact awm.2 ⟨awr.2 ⟨e,I,e6.symm⟩,h4⟩
 have Q:∀kind ws r,pR (cI NL) ls kind ws r=vW NL kind ws r:=by
  intro kind ws r;unfold pR vW Kc;rw[zQ (Z _),a0]
 refine⟨ls,⟨fun b a3=>?_,fun b=>?_,a6,fun e I=>(M e I).1,by omega,fun fs=>?_⟩,⟨fun kind ws r y=>?_,fun kind ws r=>?_,Z⟩,Q⟩
 ·obtain⟨PS,e1,e2,D⟩:=h.has b a3;exact⟨PS,h.RU hn b1 hV a3 e1 e2 D,D⟩
 ·have:=St NL b;omega
 ·obtain⟨f1,f2⟩:=yB (cI NL) fs;have H:=vQ (m:=NL.map (·.2)) (uQ f1) fun p y=>by
   obtain⟨x,_,G⟩:=(f2 p).1 y;exact awr.2 ⟨(x,p),nK.1 G,rfl⟩
  rw[awK]at H;omega
 ·rw[Q]at y;unfold vW at y
  split at y
  ·obtain⟨p,B,rfl⟩:=lX.1 y;exact CJ (P:=fun p=>1<=p.1/\p.1<=8000) z _ _ (z _) p B
  ·split at y
   ·obtain⟨p,B,rfl⟩:=lX.1 y;rw[a0]at B;obtain⟨x,_,G⟩:=((yB (cI NL) _).2 p).1 B;exact z x p G
   ·unfold Kc at y
    split at y
    ·rename_i hr
     rw[bm]at hr;unfold bY at hr;obtain⟨p,B,rfl⟩:=awr.1 hr;exact z _ p (awm.1 B).1
    ·omega
 ·rw[Q];exact Qb (by omega) a4 kind ws r
end
theorem zS(L:ByteArray->List aa):∀(ws:List ByteArray) (a:List aa) (p:aa),p∈iU L a ws->(∃q∈a,q.1=p.1)/\∀x∈ws,∃q∈L x,q.1=p.1
 |[],a,p,h=>⟨⟨p,h,rfl⟩,fun x s=>by cases s⟩
 |x::ws,a,p,h=>by
  obtain⟨⟨q,z,e⟩,B⟩:=zS L ws (iH a (L x)) p h;obtain⟨D,G⟩:=awm.1 z;have H:(q.1,awt.wrap (q.2-1))∈a:=by simpa[mT]using G
  refine⟨⟨_,H,e⟩,fun y b=>?_⟩;rcases aww.1 b with I|b
  ·rw[I];exact⟨q,D,e⟩
  ·exact B y b
theorem zT(L:ByteArray->List aa)(r:Int):∀(ws:List ByteArray) (a:List aa) (i:Nat),(r,(i:Int))∈a->(∀j (h:j<ws.length),(r,((i+1+j:Nat):Int))∈L ws[j])->i+ws.length<=1000->(r,((i+ws.length:Nat):Int))∈iU L a ws
 |[],a,i,h,_,_=>h
 |x::ws,a,i,h,b,s=>by
  rw[awp]at s;have q:=b 0 (by simp);rw[awG]at q;have hw:awt.wrap (((i+1+0:Nat):Int)-1)=(i:Int):=by
   rw[awq];omega
  have y:(r,((i+1:Nat):Int))∈iH a (L x):=awm.2 ⟨q,by
   simp only[Bool.not_not,mT,decide_eq_true_eq];rw[Nat.add_zero]at hw;rw[hw];exact h⟩
  have z:=zT L r ws (iH a (L x)) (i+1) y (fun j B=>by
   have:=b (j+1) (by simp;omega);rw[awH]at this;rw[show i+1+1+j=i+1+(j+1)by omega];exact this) (by omega)
  rw[awp,show i+(ws.length+1)=i+1+ws.length by omega];exact z
theorem zU(r:Int):∀(xs:List ByteArray) (i j:Nat) (h:j<xs.length),(xs[j],(r,((i+j:Nat):Int)))∈gW r xs i
 |[],_,_,h=>absurd h (awL _)
 |x::xs,i,j,h=>by
  unfold gW;cases j with
  |zero=>exact awx
  |succ j=>
   have:=zU r xs (i+1) j (by simpa using h);rw[show i+1+j=i+(j+1)by omega]at this;exact awz _ this
theorem Ke{ts:List ByteArray}{i:Nat}(hs:(ts.getD i ⟨#[]⟩).size<=40){x:fM}(b:x∈gW ((i:Int)+1) (aB (ts.getD i ⟨#[]⟩)) 0):∀{k:Nat},i<k->x∈mN ts k
 |0,h=>absurd h (awL _)
 |k+1,h=>by
  rcases awR i k with q|q
  ·exact List.mem_append_left _ (Ke hs b q)
  ·have e:i=k:=by omega
   subst e;rw[uj hs];exact List.mem_append_right _ b
section
variable{NL:List fM}{ls:List (ByteArray×Int×ByteArray)}{r:Int}{ws:List ByteArray}
theorem Fh(L:ByteArray->List aa)(ls:List (ByteArray×Int×ByteArray))(ws:List ByteArray)(r:Int):pR L ls 1 ws r=de (iU L (setOf ae (L (ws.headD ⟨#[]⟩))) ws.tail) r:=by
 unfold pR;rw[if_pos rfl]
theorem MU(q:ws≠[])(z:ws.length<=1000)(b:∀j (h:j<ws.length),(ws[j],(r,(j:Int)))∈NL):0<pR (cI NL) ls 1 ws r:=by
 obtain⟨s,rest,rfl⟩:=awu q;rw[Fh];show 0<de (iU (cI NL) (setOf ae (cI NL s)) rest) r;rw[awp]at z;have y:=b 0 (by simp);rw[awG]at y;have B:=zT (cI NL) r rest (setOf ae (cI NL s)) 0 ((bm _ _ _).2 (nK.2 y)) (fun j D=>by
  have:=b (j+1) (by simp;omega);rw[awH]at this;rw[show 0+1+j=j+1 by omega];exact nK.2 this) (by omega)
 exact lX.2 ⟨_,B,rfl⟩
theorem Kf(s:ws≠[])(z:0<pR (cI NL) ls 1 ws r):∀x∈ws,∃q∈cI NL x,q.1=r:=by
 obtain⟨B,rest,rfl⟩:=awu s;rw[Fh]at z;obtain⟨p,y,e⟩:=lX.1 z;obtain⟨⟨q,D,G⟩,H⟩:=zS (cI NL) rest (setOf ae (cI NL B)) p y;intro x b;rcases aww.1 b with I|b
 ·rw[I];exact⟨q,(bm _ _ _).1 D,G.trans e⟩
 ·obtain⟨J,L,M⟩:=H x b;exact⟨J,L,M.trans e⟩
end
end
section
open Go Go.RowKit Go.Shelf Go.Lib Go.Sort Go.Maps
def Fi(w:World)(q:Option Addr)(ts:List ByteArray):Prop:=∀i (h:i<ts.length),∃B b,q=some ⟨B,b,none⟩/\w.cell? ⟨B,b+i,none⟩=some (.string ts[i])
theorem Fi.gr{w w':World}{q:Option Addr}{ts:List ByteArray}(h:Fi w q ts)(g:Gr w w'):Fi w' q ts:=fun i hi=>by
 obtain⟨B,b,s,y⟩:=h i hi;exact⟨B,b,s,g.keeps y⟩
theorem CM{l:List Int}{r:Int}{j:Nat}(h:j<l.length):r∈l.take (j+1)↔r∈l.take j\/l[j]=r:=by
 rw[List.take_succ_eq_append_getElem h,awB,List.mem_singleton];exact or_congr Iff.rfl eq_comm
section
variable{w:World}{FP TP PB DB M:Nat}{c:Ch}{sv:Head}{t:Int}{d:Dk}
theorem Qc(h:fR w FP TP PB DB M c sv t d)(h4:jj w)(he:dO w){X:Tr}(hl:X.lays c d.pg 3){D:List fM}{ls:List (ByteArray×Int×ByteArray)}(hT:kY X tH (cI D) ls)(hF:pH (cI D) ls){ts:List ByteArray}{ao:Option Addr}{cap:Nat}(t4:ts.length<=20)(ht:Fi w ao ts)(h6:∀y∈ts,y.size<=40)
   (h9:∀i (hi:i<ts.length),∀j (hj:j<(aB ts[i]).length),((aB ts[i])[j],((i:Int)+1,(j:Int)))∈D) {W:World} (g:Gr w W):
   Calls awv 26 #[.pointer (some ⟨FP,0,none⟩),.slice ao ts.length cap] W (ar W (.bool true)):=by
 have n5:=awl (ht.gr g);have n6:=awl h6;have n7:=awl h9;have n8:=awl (he.gr g);have n9:=awl (fun(s:ByteArray) (hs:s.size<=300) (W2:World) (g2:Gr W W2)=>xp h h4 he hl hT hF s hs (g.trans g2));have o0:=awl (fun(wd:ByteArray) (o1:bQ wd) (W2:World) (g2:Gr W W2)=>rN h hl qG hT o1 (g.trans g2));have l7:=awl hT.Dr;clear h h4 he hl hT hF ht h6 h9 g;go_enter Tryz.func26,Tryz.ntmps26;go_wp2_with fail
 go_loopw [5] (fun iv w'=>∃i:Nat,i<=ts.length/\iv=.int .i64 i/\Gr W w') (fun iv _=>ts.length-(intOf iv).toNat)
 case atStart=>exact⟨0,awA _,rfl,Gr.refl _⟩
 case round=>
  as_aux_lemma=>
   obtain⟨i,hi,rfl,z⟩:=hrel;by_cases S:i<ts.length
   ·have o2:(i:Int)<(ts.length:Int):=by omega
    obtain⟨B,t5,rfl,hc⟩:=n5.out i S;have k1:=z.keeps hc;have t6:awt.wrap ((i:Int)+1)=(i:Int)+1:=by
     rw[awq];omega
    have b2:=n6.out _ (aws S);obtain⟨y,i0,b3⟩:∃y,ts[i]=y/\∀j (hj:j<(aB y).length),((aB y)[j],((i:Int)+1,(j:Int)))∈D:=⟨_,rfl,n7.out i S⟩;rw[i0]at k1 b2;have c8:=(nj b2);obtain⟨ws,c9,i1⟩:∃ws,aB y=ws/\∀j (hj:j<ws.length),(ws[j],((i:Int)+1,(j:Int)))∈D:=⟨_,rfl,b3⟩;have d0:=ss y (by omega) wr (n8.out.gr z);rw[c9]at d0 c8;have d1:=awl c9;have i2:=awl c8;have o3:=awl i1;have O:=awl z;have i3:=awl d0;have K1:=awl k1;clear c9 c8 i1 b3 z hc i0 d0;go_wp2_with fail
    refine i3.out.mono ?_;rintro e w1 ⟨v1,rfl,i5,d2⟩;obtain⟨ro,rc,rb,rfl,i6,i7⟩:=iP i5;have o4:=awl i6;have o5:=awl i7;have a7:=awl (O.out.trans d2);have k2:=d2.keeps K1.out;clear i5 i6 i7 d2 i3 O k1 K1;have t7:=i2.out.1;by_cases h2:ws.length<2
    ·have g2:decide ((ws.length:Int)<2)=true:=by simp;omega
     have o6:(ws.length:Int)<2:=by omega
     go_wp2_with fail
     exact⟨⟨i+1,S,by go_num,a7.out⟩,by simp[intOf];omega⟩
    ·have g2:decide ((ws.length:Int)<2)=false:=by simp;omega
     have o6:¬(ws.length:Int)<2:=by omega
     have d3:∀W2,Calls awv 72 #[.string y,.int .u8 34] W2 fun e w'=>e=.returned (.int .i64 (if y.data.toList.all (·!=34)=true then-1 else((y.data.toList.takeWhile (·!=34)).length:Int)))/\w'=W2:=fun W2=>by
      have h:=Tryz.strings_IndexByte y 34 W2;have e:Lib.indexByte y.data.toList (Int.toNat 34).toUInt8=if y.data.toList.all (·!=34)=true then-1 else((y.data.toList.takeWhile (·!=34)).length:Int):=uB _ 34
      rw[<-e];exact h
     obtain⟨I,Y⟩:∃I:Int,(if y.data.toList.all (·!=34)=true then-1 else((y.data.toList.takeWhile (·!=34)).length:Int))=I:=⟨_,rfl⟩;rw[Y]at d3;have d4:=awl d3;have b4:=awl Y;clear d3 Y;by_cases t8:0<=I
     ·have g4:decide (I>=0)=true:=by simp;omega
      have j0:decide (0<=I)=true:=by simp;omega
      go_wp2_with(go_at_call 72;refine(d4.out _).mono ?_;rintro e w2 ⟨rfl,rfl⟩)
      exact⟨⟨i+1,S,by go_num,a7.out⟩,by simp[intOf];omega⟩
     ·have g4:decide (I>=0)=false:=by simp;omega
      have j0:decide (0<=I)=false:=by simp;omega
      have b5:y.data.toList.all (·!=34)=true:=by
        have:=b4.out
        split at this
        ·assumption
        ·omega
      have d5:aB y≠[]:=fun e=>by
        have:=d1.out;rw[e]at this;rw[<-this]at h2;exact h2 (by simp)
      have b6:=KY (s:=⟨#[34]⟩++y++⟨#[34]⟩) b5 d5 (by simp[awn]);have j1:(⟨#[34]⟩++y++⟨#[34]⟩:ByteArray).size<=300:=by
        simp only[awo];show 1+y.size+1<=300;omega
      have U:=n9.out _ j1 w1 a7.out;rw[b6,d1.out]at U;have U:Calls awv 25 #[.pointer (some ⟨FP,0,none⟩),.string (⟨#[34]⟩++y++⟨#[34]⟩)] w1 fun e w'=>∃M m,e=.returned (.tuple #[.map (some M),.bool true])/\w1.heap.size<=M/\m<=8001/\oS w' M m (HN (cI D) ls (.leaf 1 ws 0))/\Gr w1 w':=U;have Z:ws≠[]:=by rw[<-d1.out];exact d5
      have a0:0<HN (cI D) ls (.leaf 1 ws 0) ((i:Int)+1):=MU Z (by omega) o3.out;have Q:∀r,0<HN (cI D) ls (.leaf 1 ws 0) r->∀x∈ws,∃q∈cI D x,q.1=r:=fun r hp=>Kf Z hp;obtain⟨H,HH⟩:∃H,Hid (H=HN (cI D) ls (.leaf 1 ws 0)):=⟨_,awl rfl⟩;rw[<-HH.out]at U a0 Q;have b7:=awl U;have g3:=awl Q;have b8:=awl a0;clear U a0 Q b6 j1 b5 d5 Z;go_wp2_with(go_at_call 72;refine(d4.out _).mono ?_;rintro e w2 ⟨rfl,rfl⟩)
      refine b7.out.mono ?_;rintro e w3 ⟨MZ,m,rfl,j2,hm,d6,d7⟩;have o7:=d6.look (r:=(i:Int)+1) (by omega);obtain⟨hv,d8⟩:∃hv,H ((i:Int)+1)=hv:=⟨_,rfl⟩;have hz:((hv:Int)==0)=false:=by
        have:=b8.out;rw[d8]at this;simp;omega
      rw[d8]at o7;have o8:=awl d6;have j3:=awl (a7.out.trans d7);have l8:=awl (o5.out.gr d7);have t9:=awl (And.intro j2 hm);clear d6 d7 d8 b7 b8 d4 b4 g4 j0 j2 hm;go_wp2_with fail
      go_loopw [9] (fun kv w'=>∃k:Nat,k<=ws.length/\kv=.int .i64 k/\Gr w3 w') (fun kv _=>ws.length-(intOf kv).toNat)
      case atStart=>exact⟨0,awA _,rfl,Gr.refl _⟩
      case round=>
       as_aux_lemma=>
        obtain⟨k,hk,rfl,z⟩:=hrel;by_cases a8:k<ws.length
        ·have l9:(k:Int)<(ws.length:Int):=by omega
         obtain rfl:=o4.out (by omega);have c1:=z.keeps (l8.out k a8);rw[awI]at c1;have j4:=i2.out.2.2 _ (aws a8);obtain⟨x,hx,j5⟩:∃x,ws[k]=x/\∀r,0<H r->∃q∈cI D x,q.1=r:=⟨_,rfl,fun r hp=>g3.out r hp _ (aws a8)⟩;rw[hx]at c1 j4;have j6:=o0.out x j4.1 wr (j3.out.trans z);have v0:=l7.out x;have v2:awt.wrap ((k:Int)+1)=(k:Int)+1:=by
           rw[awq];omega
         have HP:=awl j6;have j7:=awl j5;have O:=awl z;clear j6 j5 z hx;go_wp2_with fail
         refine HP.out.mono ?_;rintro e w4 ⟨v4,rfl,d9,j8⟩;have e0:=Na (cI D x) v4 w4 d9.lp (by omega);obtain⟨J,e1⟩:∃J,setOf bU ((cI D x).map (·.1))=J:=⟨_,rfl⟩;rw[e1]at e0;have j9:=awl e0;have a1:=awl e1;have k0:=awl (O.out.trans j8);obtain⟨a4,c4,o9⟩:=d9.form;clear e0 e1 j8 d9 HP O;subst o9;go_wp2_with fail
         refine j9.out.mono ?_;rintro e w5 ⟨v5,rfl,e3,k3⟩;have p0:=awl e3;have e4:=awl (k0.out.trans k3);have b9:J.length<=1000:=by
           rw[<-a1.out];have:=iy bU ((cI D x).map (·.1));rw[awK]at this;omega
         have m0:=awl b9;have m1:Hid (∀r,0<H r->r∈J):=awl (fun r hp=>by
           obtain⟨q,hq,e⟩:=j7.out r hp;rw[<-a1.out,bm,awr];exact⟨q,hq,e⟩)
         obtain⟨a5,c5,p1⟩:=e3.form;have p2:Hid (oS w5 MZ m H):=awl (o8.out.gr e4.out);clear e3 k3 j9 k0 j7 a1 b9;subst p1;obtain⟨L,e5⟩:∃L,Hid (L=w5.heap.size):=⟨_,awl rfl⟩;go_wp2_with(at_range;refine AY qP rfl _ rfl p2.out rfl ?_;intro w6 s2 e6 V p3 p4)
         rw[<-e5.out]at e6⊢;have c0:Gr w5 w6:=⟨V.os,V.tape,V.output,V.size,fun k hk=>V.block k hk (by simp)⟩;have p5:=awl (show ag (fun b=>b=L) w5 w6 from ag.ak c0);have p6:=awl e6;clear e6 V p3 c0 p4;go_frame;go_loopw [13] (fun _ w'=>∃left k4,dG ke w' MZ L m (cntF H) left k4/\ag (fun b=>b=L) w5 w') (fun _ w'=>w'.rangeLeft MZ L)
         case atStart=>exact⟨_,_,p6.out,p5.out⟩
         case round=>
          as_aux_lemma=>
           obtain⟨left,k4,a9,hx⟩:=hrel;have p7:=awl a9;have k5:=awl hx;clear hx;go_wp2_with(at_next;refine uD (kk:=ke) rfl _ rfl rfl a9 ?_ ?_)
           ·intro _ _;clear a9;have k6:Gr w3 wr:=k5.out.gr e4.out (fun j e=>by
              have e:j=L:=e;have h1:=e5.out;have h2:=e4.out.size;omega)
            have p8:=awl k6;clear k6;go_wp2_with fail
            exact⟨⟨k+1,a8,by go_num,p8.out⟩,by simp[intOf];omega⟩
           ·intro r v wn a2 k7 v3 k8 k9 c2 l0 m2 l1;obtain⟨l2,rfl⟩:=MR k8;have r9:=Xb k7;have l3:ag (fun b=>b=L) wr wn:=ag.fY l0 rfl;have l4:=awl (k5.out.trans l3);have p9:Hid (dG ke wn MZ L m (cntF H) (MS left r) a2):=awl k9;have m3:=awl (m1.out r l2);replace l1:(Instr.entry (.pointer (some ⟨L,0,none⟩))).run awv wn=.ok (.tuple #[.int .i64 r,.int .i64 (H r:Int)]) wn:=l1;rw[show ke.kv r=Value.int .i64 r from rfl];have m4:=awl c2;clear a9 k8 k9 l0 l3 k7 m2 c2 l2;go_wp2_with fail
            have s0:=m0.out;go_loopw [14,15] (fun hv jv w'=>∃(j:Nat) (hb:Bool),j<=J.length/\jv=.int .i64 j/\hv=.bool hb/\(hb=true↔r∈J.take j)/\Gr wn w') (fun _ jv _=>J.length-(intOf jv).toNat)
            case atStart=>exact⟨0,false,awA _,rfl,rfl,by simp,Gr.refl _⟩
            case round=>
             as_aux_lemma=>
              obtain⟨j,hb,hj,rfl,rfl,l5,z⟩:=hrel;have e7:=awl l5;have O:=awl z;clear l5;by_cases G:j<J.length
              ·have m5:(j:Int)<(J.length:Int):=by omega
               have v6:awt.wrap ((j:Int)+1)=(j:Int)+1:=by
                rw[awq];omega
               obtain⟨B7,rfl,q0,a6⟩:∃B7,a5=some ⟨B7,0,none⟩/\B7<w5.heap.size/\w5.cell? ⟨B7,j,none⟩=some (.int .i64 J[j]):=by
                rcases p0.out with⟨_,e2⟩|⟨B,cap,e,_,_,q1,hh⟩
                ·rw[e2]at G;exact absurd G (by simp)
                ·cases e;have h7:=(hh j (by simpa using G)).1;rw[awI]at h7;exact⟨B,rfl,q1,by simpa[G]using h7⟩
               have c7:=z.keeps (l4.out.keeps (fun e=>by
                have e:B7=L:=e;have:=e5.out;omega) a6)
               have e8:=CM (r:=r) G;obtain⟨r7,l6⟩:∃r7,J[j]=r7:=⟨_,rfl⟩;rw[l6]at c7 e8;have e9:=awl e8;clear e8 l6 a6 q0 z;cases hb with
               |true=>
                go_wp2_with fail
                exact⟨⟨j+1,true,G,by go_num,rfl,by
                 rw[e9.out];exact⟨fun _=>.inl (e7.out.1 rfl),fun _=>rfl⟩,O.out⟩,by simp[intOf];omega⟩
               |false=>
                by_cases b0:r7=r
                ·have q2:(r7==r)=true:=by simp[b0]
                 go_wp2_with fail
                 exact⟨⟨j+1,true,G,by go_num,rfl,by
                  rw[e9.out];exact⟨fun _=>.inr b0,fun _=>rfl⟩,O.out⟩,by simp[intOf];omega⟩
                ·have q2:(r7==r)=false:=by simp[b0]
                 go_wp2_with fail
                 exact⟨⟨j+1,false,G,by go_num,rfl,by
                  rw[e9.out];exact⟨(fun h=>by cases h),fun h=>h.elim (fun h8=>e7.out.2 h8) (fun h8=>absurd h8 b0)⟩,O.out⟩,by simp[intOf];omega⟩
              ·have m5:¬(j:Int)<(J.length:Int):=by omega
               have q3:hb=true:=e7.out.2 (by rw[List.take_of_length_le (by omega)];exact m3.out);subst q3;have c3:dG ke wr MZ L m (cntF H) (MS left r) a2:=p9.out.gr z;have c6:=awl c3;have q4:=awl (l4.out.trans (ag.ak z));clear z c3;go_wp2_with fail
               refine⟨⟨MS left r,a2,c6.out,q4.out⟩,?_⟩;have h1:=c6.out.left_eq;have h2:=p7.out.left_eq;have h3:=m4.out;omega
        ·have l9:¬(k:Int)<(ws.length:Int):=by omega
         have O:=awl z;clear z;go_wp2_with fail
         exact⟨⟨i+1,S,by go_num,j3.out.trans O.out⟩,by simp[intOf];omega⟩
   ·have o2:¬(i:Int)<(ts.length:Int):=by omega
    go_wp2_with fail
    go_ret;exact ar.mk rfl z
end
theorem Sw:fH ⟨#[97,32,65,78,68,32,34,98,32,99,34,32,79,82,32,100,42]⟩=(some (.node 5 (.node 4 (.leaf 1 [⟨#[97]⟩] 0) (.leaf 1 [⟨#[98]⟩,⟨#[99]⟩] 0)) (.leaf 2 [⟨#[100]⟩] 0)),0):=by kernel_rfl
theorem Sx(w:World)(I:dO w):Calls awv 24 #[] w (ar w (.bool true)):=by
 have s:=CB ⟨#[97,32,65,78,68,32,34,98,32,99,34,32,79,82,32,100,42]⟩ (by decide) w I;rw[Sw]at s;have y:=awl s;clear s I;go_enter Tryz.func24,Tryz.ntmps24;go_wp2_with fail
 refine y.out.mono ?_;rintro e L ⟨N,b,rfl,M,J⟩;obtain⟨_,S,_,_,U,V,Y,Z,D,G⟩:=M;obtain⟨_,d0,_,_,_,_,_,_,_,_⟩:=D;obtain⟨_,f0,⟨v,f1,ao,cc,O,rfl,z,B⟩,_,_,_⟩:=G;obtain⟨rfl,_,H⟩:=z (by simp);have f2:=B 0 (by simp);rw[awI]at f2;have f3:L.cell? ⟨O,0,none⟩=some (.string ⟨#[100]⟩):=f2;have q:[(⟨#[100]⟩:ByteArray)].length=1:=rfl;rw[q]at f1 H;have Q:=awl J;clear B z f2 J q y;go_wp2_with fail
 go_ret;exact ar.mk rfl Q.out
theorem ui.any{w:World}{L:ByteArray->List aa}{ls:List (ByteArray×Int×ByteArray)}{r:Option Qy×Int}{e:Ending}{w':World}(h:ui w L ls r e w'):∃b s,e=.returned (.tuple #[.map b,.bool s])/\Gr w w':=by
 obtain⟨y,n⟩:=r;cases y with
 |none=>exact⟨none,false,h.1,h.2⟩
 |some q=>
  obtain⟨M,m,z,_,_,_,g⟩:=h;exact⟨some M,true,z,g⟩
def Hu:ByteArray:=⟨#[41,32,65,78,68,32,40]⟩
def yC:ByteArray:=⟨#[41,32,79,82,32,40]⟩
def Hv:ByteArray:=⟨#[41,32,78,79,84,32,40]⟩
def CN:ByteArray:=⟨#[41,32,40]⟩
section
variable{w:World}{FP TP PB DB M:Nat}{c:Ch}{sv:Head}{t:Int}{d:Dk}
theorem M1(h:fR w FP TP PB DB M c sv t d)(b:jj w)(y:dO w){X:Tr}(z:X.lays c d.pg 3){L:ByteArray->List aa}{ls:List (ByteArray×Int×ByteArray)}(B:kY X tH L ls)(D:pH L ls){s:ByteArray}(hs:s.size<=300){q:Qy}{n:Int}(ha:fH s=(some q,n)){W:World}(g:Gr w W):
  Calls awv 25 #[.pointer (some ⟨FP,0,none⟩),.string s] W fun e w'=>∃M m,e=.returned (.tuple #[.map (some M),.bool true])/\oS w' M m (HN L ls q)/\Gr W w':=by
 have:=xp h b y z B D s hs g;rw[ha]at this;refine this.mono ?_;rintro e w' ⟨M,m,G,_,_,H,I⟩;exact⟨M,m,G,H,I⟩
theorem M3(h:fR w FP TP PB DB M c sv t d)(b:jj w)(q:dO w){X:Tr}(y:X.lays c d.pg 3){L:ByteArray->List aa}{ls:List (ByteArray×Int×ByteArray)}(z:kY X tH L ls)(B:pH L ls){s:ByteArray}(hs:s.size<=300){n:Int}(ha:fH s=(none,n)){W:World}(g:Gr w W):
  Calls awv 25 #[.pointer (some ⟨FP,0,none⟩),.string s] W fun e w'=>e=.returned (.tuple #[.map none,.bool false])/\Gr W w':=by
 have:=xp h b q y z B s hs g;rw[ha]at this;exact this
theorem Ai(ts:List ByteArray)(ao:Option Addr)(cap:Nat)(a b:ByteArray)(B1:ts.length<=9223372036854775807)(has:a.size<=9223372036854775807)(B2:b.size<=9223372036854775807)(w:World)(ht:Fi w ao ts)(i9:∀t∈ts,t.size<=9223372036854775807)(he:dO w)(hE:eG w)(hM:jj w):
  Calls awv 5 #[.slice ao ts.length cap,.string a,.string b] w (ar w (.bool true)):=by
 by_cases s6:ts.length<=20
 ·have s7:decide ((20:Int)<(ts.length:Int))=false:=by simp;omega
  have y7:¬(20:Int)<(ts.length:Int):=by omega
  by_cases hA:a.size<=200
  ·have gA:decide ((200:Int)<(a.size:Int))=false:=by simp;omega
   by_cases hB:b.size<=200
   ·have gB:decide ((200:Int)<(b.size:Int))=false:=by simp;omega
    have y8:awt.wrap ((a.size:Int)+(b.size:Int))=(a.size:Int)+(b.size:Int):=by
     rw[awq];omega
    by_cases B3:a.size+b.size<=200
    ·have s8:decide ((200:Int)<(a.size:Int)+(b.size:Int))=false:=by simp;omega
     have e6:=awl he;have j0:=awl hE;have j1:=awl hM;have j2:=awl ht;have j3:=awl i9;clear he hE hM ht i9;go_enter awJ,awF;go_wp2_with fail
     refine(Sx w e6.out).mono ?_;rintro e w1 ⟨rfl,j8⟩;have a2:=awl j8;clear j8;go_wp2_with fail
     refine(RE w1).mono ?_;rintro e w2 ⟨FP,TP,PB,DB,M,rfl,hF,d3,j9⟩;have k0:=awl hF;have k2:=awl j9;have c1:Hid (Av w1 PB DB M):=awl ⟨e6.out.gr a2.out,j0.out.gr a2.out,j1.out.gr a2.out,⟨d3.2.2.1,d3.2.2.2.1,d3.2.2.2.2⟩⟩;have c8:=awl (j2.out.gr a2.out);clear hF j9 d3 j2;go_wp2_with fail
     go_loopw [8] (fun iv w'=>∃i:Nat,i<=ts.length/\iv=.int .i64 i/\∃c X,fR w' FP TP PB DB M c fV 0 rF/\xr rF.pg tH ts i c X/\Gr w1 w'/\∀j (h:j<ts.length),j<i->ts[j].size<=40) (fun iv _=>ts.length-(intOf iv).toNat)
     case atStart=>exact⟨0,awA _,rfl,_,_,k0.out,MQ tH ts,k2.out,fun j _ h=>absurd h (awL _)⟩
     case round=>
      as_aux_lemma=>
       obtain⟨i,hi,rfl,c,X,hF,hT,I,k3⟩:=hrel;have HF:=awl hF;have HT:=awl hT;have HG:=awl I;have e7:=awl k3;clear hF hT k3;by_cases d4:i<ts.length
       ·have s9:(i:Int)<(ts.length:Int):=by omega
        obtain⟨B,B4,rfl,hc⟩:=c8.out i d4;have k1:=I.keeps hc;have B5:awt.wrap ((i:Int)+1)=(i:Int)+1:=by
         rw[awq];omega
        have b4:ts.getD i ⟨#[]⟩=ts[i]:=by simp[d4]
        have p4:=j3.out _ (aws d4);have e8:∀j (h:j<ts.length),j<i+1->ts[i].size<=40->ts[j].size<=40:=fun j hj k4 h4=>by
         rcases awR j i with h5|h5
         ·exact e7.out j hj h5
         ·have e:j=i:=by omega
          subst e;exact h4
        obtain⟨tx,e9⟩:∃tx,ts[i]=tx:=⟨_,rfl⟩;rw[e9]at k1 b4 p4;simp only[e9]at e8;have k5:=awl b4;have t0:=awl e8;clear e9 hc I b4 e8;by_cases a3:tx.size<=40
        ·have t1:decide ((40:Int)<(tx.size:Int))=false:=by simp;omega
         have p5:¬(40:Int)<(tx.size:Int):=by omega
         have b5:=Qa qG (by decide) HT.out (by omega) (by rw[k5.out];exact a3);rw[k5.out]at b5;have k6:=U8 (Q:=xr rF.pg tH ts (i+1)) c1.out HG.out HF.out HT.out.lays qG (by decide) (row:=(i:Int)+1) (by omega) a3 b5.1 b5.2.1 b5.2.2.1 b5.2.2.2;have t2:=awl k6;clear b5 k6;go_wp2_with fail
         refine t2.out.mono ?_;rintro e w6 ⟨rfl,c6,X6,k7,k8,k9⟩;have HE:=awl (And.intro k7 (And.intro k8 (c1.out.pg HG.out k9)));clear k7 k8 k9;go_wp2_with fail
         exact⟨⟨i+1,d4,by go_num,c6,X6,HE.out.1,HE.out.2.1,HE.out.2.2,fun j hj k4=>t0.out j hj k4 a3⟩,by simp[intOf];omega⟩
        ·have t1:decide ((40:Int)<(tx.size:Int))=true:=by simp;omega
         have p5:(40:Int)<(tx.size:Int):=by omega
         go_wp2_with fail
         go_ret;exact ar.mk rfl (a2.out.trans HG.out)
       ·have s9:¬(i:Int)<(ts.length:Int):=by omega
        have t3:i=ts.length:=by omega
        subst t3;obtain⟨K,V,l0,hV⟩:=HT.out.vF (by omega);have t4:=CI ts ts.length;obtain⟨ls,b6,a4,_⟩:=U7 qG (by decide) l0 hV (by omega) (fun x hx=>by
         have h1:=xq hx;refine⟨h1.2.1,?_,by have:=h1.1;omega⟩;simp only[jL,awO,decide_eq_true_eq];have:=h1.1;have:=h1.2.2.2;omega)
        have a3:∀tx∈ts,tx.size<=40:=fun tx hx=>by
         obtain⟨j,hj,rfl⟩:=List.getElem_of_mem hx;exact e7.out j hj hj
        have g0:∀i (hi:i<ts.length),∀j (hj:j<(aB ts[i]).length),((aB ts[i])[j],((i:Int)+1,(j:Int)))∈mN ts ts.length:=fun i hi j hj=>by
         have b4:ts.getD i ⟨#[]⟩=ts[i]:=by simp[hi]
         refine Ke (i:=i) (by rw[b4];exact a3 _ (aws hi)) ?_ hi;rw[b4];have:=zU ((i:Int)+1) (aB ts[i]) 0 j hj;rw[awI]at this;exact this
        have c3:=c1.out.max.gr HG.out;have b7:=c1.out.ends.gr HG.out;obtain⟨NL,p6⟩:∃NL,mN ts ts.length=NL:=⟨_,rfl⟩;rw[p6]at b6 a4 g0;have t5:=awl (fun(W:World) (g:Gr wr W)=>Qc (cap:=cap) HF.out c3 b7 HT.out.lays b6 a4 s6 (c8.out.gr HG.out) a3 g0 g);have HS:=awl (fun(s:ByteArray) (hs:s.size<=300) (q:Qy) (n:Int) (ha:fH s=(some q,n)) (W:World) (g:Gr wr W)=>M1 HF.out c3 b7 HT.out.lays b6 a4 hs ha g);have U:=awl (fun(s:ByteArray) (hs:s.size<=300) (n:Int) (ha:fH s=(none,n)) (W:World) (g:Gr wr W)=>M3 HF.out c3 b7 HT.out.lays b6 a4 hs ha g);have g3:=awl (fun(s:ByteArray) (hs:s.size<=300) (W:World) (g:Gr wr W)=>(xp HF.out c3 b7 HT.out.lays b6 a4 s hs g).mono fun e w' h=>ui.any h);have g4:=awl (fun(s:ByteArray) (hs:s.size<=1000) (W:World) (g:Gr wr W)=>CB s hs W (b7.gr g));have g5:=awl (fun(q:Qy) (r:Int)=>xk a4 q r);have d5:=awl (fun(s:ByteArray) (hs:s.size<=300) (q:Qy) (n:Int) (h:fH s=(some q,n))=>(NT s hs q n h).2);clear l0 b6 a4 g0 c3 b7 a3 t4 I HT HF e7 c1 k0 k2 c8 j3 j1 j0 e6;have d6:=awl (a2.out.trans HG.out);clear HG a2;obtain⟨z,c4⟩:∃z:Qy->Int->Nat,Hid (z=HN (cI NL) ls):=⟨_,awl rfl⟩;rw[<-c4.out]at HS g5;rcases ea:fH a with⟨oa,na⟩
        cases oa with
        |none=>
         go_wp2_with fail
         refine(U.out a (by omega) na ea wr (Gr.refl _)).mono ?_;rintro e w6 ⟨rfl,D⟩;go_wp2_with fail
         refine(g3.out b (by omega) w6 D).mono ?_;rintro e w7 ⟨mv,bo,rfl,L⟩;have HZ:=awl (d6.out.trans (D.trans L));clear D L;go_wp2_with fail
         go_ret;exact ar.mk rfl HZ.out
        |some Y=>
         rcases eb:fH b with⟨ob,nb⟩
         cases ob with
         |none=>
          go_wp2_with fail
          refine(HS.out a (by omega) Y na ea wr (Gr.refl _)).mono ?_;rintro e w6 ⟨MX,mx,rfl,_,D⟩;go_wp2_with fail
          refine(U.out b (by omega) nb eb w6 D).mono ?_;rintro e w7 ⟨rfl,L⟩;have HZ:=awl (d6.out.trans (D.trans L));clear D L;go_wp2_with fail
          go_ret;exact ar.mk rfl HZ.out
         |some qb=>
          have e1:(⟨#[40]⟩++a++Hu++b++⟨#[41]⟩:ByteArray).data.toList=jE a.data.toList [32,65,78,68,32] b.data.toList:=by simp[awn,jE,Hu]
          have e2:(⟨#[40]⟩++a++yC++b++⟨#[41]⟩:ByteArray).data.toList=jE a.data.toList [32,79,82,32] b.data.toList:=by simp[awn,jE,yC]
          have e3:(⟨#[40]⟩++a++Hv++b++⟨#[41]⟩:ByteArray).data.toList=jE a.data.toList [32,78,79,84,32] b.data.toList:=by simp[awn,jE,Hv]
          have e4:(⟨#[40]⟩++b++CN++a++⟨#[41]⟩:ByteArray).data.toList=jE b.data.toList [32] a.data.toList:=by simp[awn,jE,CN]
          have e5:(⟨#[40,40]⟩++a++yC++b++⟨#[41,41]⟩:ByteArray).data.toList=40::(40::(a.data.toList++41::([32,79,82,32]++40::(b.data.toList++[41,41])))):=by simp[awn,yC]
          have z1:(⟨#[40]⟩++a++Hu++b++⟨#[41]⟩:ByteArray).size<=300:=by
           simp only[awo];show 1+a.size+7+b.size+1<=300;omega
          have z2:(⟨#[40]⟩++a++yC++b++⟨#[41]⟩:ByteArray).size<=300:=by
           simp only[awo];show 1+a.size+6+b.size+1<=300;omega
          have z3:(⟨#[40]⟩++a++Hv++b++⟨#[41]⟩:ByteArray).size<=300:=by
           simp only[awo];show 1+a.size+7+b.size+1<=300;omega
          have z4:(⟨#[40]⟩++b++CN++a++⟨#[41]⟩:ByteArray).size<=300:=by
           simp only[awo];show 1+b.size+3+a.size+1<=300;omega
          have z5:(⟨#[40,40]⟩++a++yC++b++⟨#[41,41]⟩:ByteArray).size<=1000:=by
           simp only[awo];show 2+a.size+6+b.size+2<=1000;omega
          have B6:=d5.out a (by omega) Y na ea;have B7:=d5.out b (by omega) qb nb eb;rcases Oh ea eb with⟨p1,p2⟩|⟨p1,p2,p3⟩
          ·have s1:=HS.out _ z1 _ _ (p1 [32,65,78,68,32] [fp] 4 _ rfl (.inl ⟨rfl,rfl⟩) e1);have s2:=HS.out _ z2 _ _ (p1 [32,79,82,32] [k_] 5 _ rfl (.inr (.inr (.inr ⟨rfl,rfl⟩))) e2);have s3:=HS.out _ z3 _ _ (p1 [32,78,79,84,32] [ez] 6 _ rfl (.inr (.inr (.inl ⟨rfl,rfl⟩))) e3);have s4:=HS.out _ z4 _ _ (p2 _ e4);have S0:=awl (HS.out a (by omega) Y na ea);have c7:=awl (HS.out b (by omega) qb nb eb);have S1:=awl s1;have S2:=awl s2;have S3:=awl s3;have S4:=awl s4;have j4:∀r,z (.node 4 Y qb) r=cf 4 (z Y r) (z qb r):=fun r=>by rw[c4.out];rfl
           have j5:∀r,z (.node 5 Y qb) r=cf 5 (z Y r) (z qb r):=fun r=>by rw[c4.out];rfl
           have j6:∀r,z (.node 6 Y qb) r=cf 6 (z Y r) (z qb r):=fun r=>by rw[c4.out];rfl
           have j7:∀r,z (.node 4 qb Y) r=cf 4 (z qb r) (z Y r):=fun r=>by rw[c4.out];rfl
           have J:=awl (And.intro j4 (And.intro j5 (And.intro j6 j7)));clear s1 s2 s3 s4 p1 p2 e1 e2 e3 e4 e5 z1 z2 z3 z4 z5 ea eb U g3 g4 HS d5 j4 j5 j6 j7;go_wp2_with fail
           refine(S0.out wr (Gr.refl _)).mono ?_;rintro e w6 ⟨MX,mx,rfl,n9,D⟩;have HX:=awl n9;clear n9;go_wp2_with fail
           refine(c7.out w6 D).mono ?_;rintro e w7 ⟨MY,my,rfl,o0,L⟩;have HY:=awl o0;have HX:=awl (HX.out.gr L);have a5:=awl (D.trans L);clear o0 D L;go_wp2_with fail
           refine(S1.out w7 a5.out).mono ?_;rintro e w8 ⟨MA,ma,rfl,o1,a6⟩;have HA:=awl o1;have HX:=awl (HX.out.gr a6);have HY:=awl (HY.out.gr a6);have a7:=awl (a5.out.trans a6);clear o1 a6 a5;go_wp2_with fail
           refine(S2.out w8 a7.out).mono ?_;rintro e w9 ⟨MO,mo,rfl,o2,Z⟩;have HO:=awl o2;have HA:=awl (HA.out.gr Z);have HX:=awl (HX.out.gr Z);have HY:=awl (HY.out.gr Z);have a8:=awl (a7.out.trans Z);clear o2 Z a7;go_wp2_with fail
           refine(S3.out w9 a8.out).mono ?_;rintro e g6 ⟨MN,mn,rfl,o3,H⟩;have d7:=awl o3;have HO:=awl (HO.out.gr H);have HA:=awl (HA.out.gr H);have HX:=awl (HX.out.gr H);have HY:=awl (HY.out.gr H);have O:=awl (a8.out.trans H);clear o3 H a8;go_wp2_with fail
           refine(S4.out g6 O.out).mono ?_;rintro e g7 ⟨MT,mt,rfl,o4,G⟩;have o5:=awl o4;have d7:=awl (d7.out.gr G);have HO:=awl (HO.out.gr G);have HA:=awl (HA.out.gr G);have HX:=awl (HX.out.gr G);have HY:=awl (HY.out.gr G);have S:=awl (O.out.trans G);clear o4 G O S0 c7 S1 S2 S3 S4;go_wp2_with fail
           go_loopw [23] (fun kv w'=>∃k:Nat,kv=.int .i64 (k:Int)/\(1<=k/\k<=ts.length+1)/\Gr g7 w') (fun kv _=>ts.length+1-(intOf kv).toNat)
           case atStart=>exact⟨1,rfl,⟨awD _,by omega⟩,Gr.refl _⟩
           case round=>
            as_aux_lemma=>
             obtain⟨k,rfl,⟨B8,B9⟩,I⟩:=hrel;by_cases C0:k<=ts.length
             ·have t6:(k:Int)<=(ts.length:Int):=by omega
              have C1:awt.wrap ((k:Int)+1)=(k:Int)+1:=by
               rw[awq];omega
              have y:-9223372036854775808<=(k:Int)/\(k:Int)<=9223372036854775807:=by omega
              have l1:=fun n:Nat=>(HX.out.gr (I.drewN n)).look y;have l2:=fun n:Nat=>(HY.out.gr (I.drewN n)).look y;have l3:=fun n:Nat=>(HA.out.gr (I.drewN n)).look y;have l4:=fun n:Nat=>(HO.out.gr (I.drewN n)).look y;have l5:=fun n:Nat=>(d7.out.gr (I.drewN n)).look y;have l6:=fun n:Nat=>(o5.out.gr (I.drewN n)).look y;have m1:=(HX.out.gr I).look y;have m2:=(HY.out.gr I).look y;have m3:=(HA.out.gr I).look y;have m4:=(HO.out.gr I).look y;have m5:=(d7.out.gr I).look y;have m6:=(o5.out.gr I).look y;have o6:=g5.out Y (k:Int);have o7:=g5.out qb (k:Int);simp only[J.out.1,J.out.2.1,J.out.2.2.1,J.out.2.2.2]at l3 l4 l5 l6 m3 m4 m5 m6;obtain⟨p,hp⟩:∃p,z Y (k:Int)=p:=⟨_,rfl⟩;obtain⟨q,hq⟩:∃q,z qb (k:Int)=q:=⟨_,rfl⟩;simp only[hp,hq]at l1 l2 l3 l4 l5 l6 m1 m2 m3 m4 m5 m6 o6 o7;have y9:awt.wrap ((p:Int)+(q:Int))=(p:Int)+(q:Int):=by
               rw[awq];omega
              have x5:((cf 5 p q:Nat):Int)=(p:Int)+(q:Int):=by
               unfold cf;simp
              have z0:((p:Int)+(q:Int) !=(p:Int)+(q:Int))=false:=by simp
              have C2:((0:Int) !=0)=false:=by simp
              have C3:((p:Int) !=(p:Int))=false:=by simp
              rw[x5]at m4;simp only[x5]at l4;have HG:=awl I;clear I o6 o7 hp hq;by_cases p0:0<p
              ·have gp:decide ((0:Int)<(p:Int))=true:=by simp;omega
               have t7:(0:Int)<(p:Int):=by omega
               by_cases q0:0<q
               ·have gq:decide ((0:Int)<(q:Int))=true:=by simp;omega
                have t8:(0:Int)<(q:Int):=by omega
                have gz:((q:Int)==0)=false:=by simp;omega
                have x4:((cf 4 p q:Nat):Int)=(p:Int)+(q:Int):=by
                 unfold cf;rw[if_pos rfl,if_pos ⟨p0,q0⟩];omega
                have x6:((cf 6 p q:Nat):Int)=0:=by
                 unfold cf;simp[show¬q=0 by omega]
                have x7:((cf 4 q p:Nat):Int)=(p:Int)+(q:Int):=by
                 unfold cf;rw[if_pos rfl,if_pos ⟨q0,p0⟩];omega
                rw[x4]at m3;rw[x6]at m5;rw[x7]at m6;simp only[x4]at l3;simp only[x6]at l5;simp only[x7]at l6;clear x4 x5 x6 x7;go_wp2_with fail
                go_quiet (fail)
                go_wp2_with fail
                exact⟨⟨k+1,by go_num,⟨by omega,by omega⟩,HG.out.drewN _⟩,by simp[intOf];omega⟩
               ·have gq:decide ((0:Int)<(q:Int))=false:=by simp;omega
                have t8:¬(0:Int)<(q:Int):=by omega
                have gz:((q:Int)==0)=true:=by simp;omega
                have x4:((cf 4 p q:Nat):Int)=0:=by
                 unfold cf;rw[if_pos rfl,if_neg (fun h=>q0 h.2)]
                 rfl
                have x6:((cf 6 p q:Nat):Int)=(p:Int):=by
                 unfold cf;simp[show q=0 by omega]
                have x7:((cf 4 q p:Nat):Int)=0:=by
                 unfold cf;rw[if_pos rfl,if_neg (fun h=>q0 h.1)]
                 rfl
                rw[x4]at m3;rw[x6]at m5;rw[x7]at m6;simp only[x4]at l3;simp only[x6]at l5;simp only[x7]at l6;clear x4 x5 x6 x7;go_wp2_with fail
                go_quiet (fail)
                go_wp2_with fail
                exact⟨⟨k+1,by go_num,⟨by omega,by omega⟩,HG.out.drewN _⟩,by simp[intOf];omega⟩
              ·have gp:decide ((0:Int)<(p:Int))=false:=by simp;omega
               have t7:¬(0:Int)<(p:Int):=by omega
               have x4:((cf 4 p q:Nat):Int)=0:=by
                unfold cf;rw[if_pos rfl,if_neg (fun h=>p0 h.1)]
                rfl
               have x7:((cf 4 q p:Nat):Int)=0:=by
                unfold cf;rw[if_pos rfl,if_neg (fun h=>p0 h.2)]
                rfl
               have x6:((cf 6 p q:Nat):Int)=0:=by
                unfold cf;simp[show p=0 by omega]
               have C4:((p:Int) !=0)=false:=by simp;omega
               have C5:((0:Int) !=(p:Int))=false:=by simp;omega
               rw[x4]at m3;rw[x6]at m5;rw[x7]at m6;simp only[x4]at l3;simp only[x6]at l5;simp only[x7]at l6;clear x4 x5 x6 x7;by_cases q0:0<q
               ·have gz:((q:Int)==0)=false:=by simp;omega
                go_wp2_with fail
                go_quiet (fail)
                go_wp2_with fail
                exact⟨⟨k+1,by go_num,⟨by omega,by omega⟩,HG.out.drewN _⟩,by simp[intOf];omega⟩
               ·have gz:((q:Int)==0)=true:=by simp;omega
                go_wp2_with fail
                go_quiet (fail)
                go_wp2_with fail
                exact⟨⟨k+1,by go_num,⟨by omega,by omega⟩,HG.out.drewN _⟩,by simp[intOf];omega⟩
             ·have t6:¬(k:Int)<=(ts.length:Int):=by omega
              have o9:=t5.out wr (S.out.trans I);have t9:=awl o9;have v0:=awl (d6.out.trans (S.out.trans I));clear o9 I;go_wp2_with fail
              refine t9.out.mono ?_;rintro e v1 ⟨rfl,b8⟩;go_wp2_with fail
              go_ret;exact ar.mk rfl (v0.out.trans b8)
          ·obtain⟨n1,q1⟩:=p1 [32,65,78,68,32] [fp] 4 _ rfl (.inl ⟨rfl,rfl⟩) e1;obtain⟨n2,q2⟩:=p1 [32,79,82,32] [k_] 5 _ rfl (.inr (.inr (.inr ⟨rfl,rfl⟩))) e2;obtain⟨n3,q3⟩:=p1 [32,78,79,84,32] [ez] 6 _ rfl (.inr (.inr (.inl ⟨rfl,rfl⟩))) e3;obtain⟨n4,q4⟩:=p2 _ e4;obtain⟨n5,q5⟩:=p3 _ e5;have S0:=awl (HS.out a (by omega) Y na ea);have c7:=awl (HS.out b (by omega) qb nb eb);have S1:=awl (U.out _ z1 _ q1);have S2:=awl (U.out _ z2 _ q2);have S3:=awl (U.out _ z3 _ q3);have S4:=awl (U.out _ z4 _ q4);have s5:=g4.out _ z5;rw[q5]at s5;have S5:=awl s5;clear s5 q1 q2 q3 q4 q5 p1 p2 p3 e1 e2 e3 e4 e5 z1 z2 z3 z4 z5 ea eb U g3 g4 HS d5;go_wp2_with fail
           refine(S0.out wr (Gr.refl _)).mono ?_;rintro e w6 ⟨MX,mx,rfl,_,D⟩;go_wp2_with fail
           refine(c7.out w6 D).mono ?_;rintro e w7 ⟨MY,my,rfl,_,L⟩;have a5:=awl (D.trans L);clear D L;go_wp2_with fail
           refine(S1.out w7 a5.out).mono ?_;rintro e w8 ⟨rfl,a6⟩;have a7:=awl (a5.out.trans a6);clear a6 a5;go_wp2_with fail
           refine(S2.out w8 a7.out).mono ?_;rintro e w9 ⟨rfl,Z⟩;have a8:=awl (a7.out.trans Z);clear Z a7;go_wp2_with fail
           refine(S3.out w9 a8.out).mono ?_;rintro e g6 ⟨rfl,H⟩;have O:=awl (a8.out.trans H);clear H a8;go_wp2_with fail
           refine(S4.out g6 O.out).mono ?_;rintro e g7 ⟨rfl,G⟩;have S:=awl (O.out.trans G);clear G O S0 c7 S1 S2 S3 S4;go_wp2_with fail
           refine(S5.out g7 S.out).mono ?_;rintro e v1 ⟨rfl,b8⟩;have p7:=awl (d6.out.trans (S.out.trans b8));clear b8 S S5;go_wp2_with fail
           go_ret;exact ar.mk rfl p7.out
    ·have s8:decide ((200:Int)<(a.size:Int)+(b.size:Int))=true:=by simp;omega
     go_enter awJ,awF;go_wp2_with fail
     go_ret;exact ar.mk rfl (Gr.refl _)
   ·have gB:decide ((200:Int)<(b.size:Int))=true:=by simp;omega
    go_enter awJ,awF;go_wp2_with fail
    go_ret;exact ar.mk rfl (Gr.refl _)
  ·have gA:decide ((200:Int)<(a.size:Int))=true:=by simp;omega
   go_enter awJ,awF;go_wp2_with fail
   go_ret;exact ar.mk rfl (Gr.refl _)
 ·have s7:decide ((20:Int)<(ts.length:Int))=true:=by simp;omega
  go_enter awJ,awF;go_wp2_with fail
  go_ret;exact ar.mk rfl (Gr.refl _)
end
