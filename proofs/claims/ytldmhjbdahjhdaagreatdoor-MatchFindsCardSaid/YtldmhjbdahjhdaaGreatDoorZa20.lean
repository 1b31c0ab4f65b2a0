/-
  Part 20 of the proof.
-/
import Derived.Test.YtldmhjbdahjhdaaGreatDoorZa19
open List renaming mem_filter->ae,mem_map->ak,length_cons->az,mem_append->aJ,mem_cons->aS,length_append->aU,mem_cons_self->aV,append_nil->aX,map_cons->a9
open List.Pairwise renaming nil->ap
open Nat renaming le_refl->aQ,le_trans->bc
set_option maxRecDepth 100000
set_option maxHeartbeats 100000000
set_option linter.all false
namespace Go.Proofs.YtldmhjbdahjhdaaGreatDoor
section
open Go Go.RowKit
theorem JD(a b:List aa):setOf af (setOf af a++b)=setOf af (a++b):=
 (mC bI (cx bI _) fun x=>by simp only[bO,aJ]).symm
theorem Bm{a:List aa}(h:bU af a):setOf af a=a:=(mC bI h fun _=>Iff.rfl).symm
theorem LW(a b:List bY)(p:ByteArray->Bool):nT (a++b) p=nT a p++nT b p:=by
 unfold nT;rw[List.filter_append,List.map_append]
theorem Ux(r:Int)(wd:ByteArray)(ws:List ByteArray):nT (et r ws 0) (fun y=>decide (y=wd))=fv r wd ws 0:=Bf r wd ws 0
theorem RT(s:List bY)(row:Int){ws b:List ByteArray}(q:∀w,w∈b↔w∈ws):rC (df s) row ws b=df (s++et row ws 0):=by
 funext wd
 unfold rC df;rw[LW,Ux];by_cases h:wd∈b
 ·rw[if_pos h,JD]
 rw[if_neg h,uy.2 (fun y=>h ((q wd).2 y)),aX]
theorem RU(L:Ct)(row:Int)(ws:List ByteArray):rC L row ws []=L:=by
 funext wd
 unfold rC;rw[if_neg (by simp)]
theorem Bn{r:Int}:∀{xs:List ByteArray} {i:Nat} {p:bY},p∈et r xs i->(i:Int)<=p.2.2/\p.2.2<(i:Int)+xs.length
 |[],_,_,h=>by cases h
 |x::xs,i,p,h=>by
  unfold et at h;rcases aS.1 h with e|h
  ·subst e;simp only[az];omega
  have:=Bn h;simp only[az];omega
def kX(ts:List ByteArray):Nat->List bY
 |0=>[]
 |k+1=>kX ts k++if(ts.getD k ⟨#[]⟩).size<=40 then et ((k:Int)+1) (aD (ts.getD k ⟨#[]⟩)) 0 else[]
theorem vD{ts:List ByteArray}{k:Nat}(h:¬(ts.getD k ⟨#[]⟩).size<=40):kX ts (k+1)=kX ts k:=by
 show kX ts k++_=_;rw[if_neg h,aX]
theorem vE{ts:List ByteArray}{k:Nat}(h:(ts.getD k ⟨#[]⟩).size<=40):kX ts (k+1)=kX ts k++et ((k:Int)+1) (aD (ts.getD k ⟨#[]⟩)) 0:=by
 show kX ts k++_=_;rw[if_pos h]
theorem pK{ts:List ByteArray}:∀{k:Nat} {x:bY},x∈kX ts k->(1<=x.2.1/\x.2.1<=(k:Int))/\cI x.1/\x.1.size<=12/\0<=x.2.2/\x.2.2<=19
 |0,_,h=>by cases h
 |k+1,x,h=>by
  by_cases hs:(ts.getD k ⟨#[]⟩).size<=40
  ·rw[vE hs]at h;rcases aJ.1 h with h|h
   ·have:=pK h;exact⟨⟨this.1.1,by have:=this.1.2;omega⟩,this.2⟩
   have q:=Be h;have y:=Bn h;obtain⟨z,_,s⟩:=ot hs;have b:=s _ q.2;refine⟨?_,b.1,b.2,?_⟩<;>omega
  rw[vD hs]at h;have:=pK h;exact⟨⟨this.1.1,by have:=this.1.2;omega⟩,this.2⟩
theorem yJ(ts:List ByteArray):∀k,(kX ts k).length<=20*k
 |0=>aQ _
 |k+1=>by
  have b:=yJ ts k;by_cases hs:(ts.getD k ⟨#[]⟩).size<=40
  ·rw[vE hs,aU,qE];have:=(ot hs).1;omega
  rw[vD hs];omega
theorem mD.mono{pg:Nat->ByteArray}{n:ByteArray}{V V' N:Nat}{L:Ct}{K:LP}{c:Ch}{X:Tr}(h:mD pg n V L N K c X)(b:V<=V'):mD pg n V' L N K c X:=
 ⟨h.tg.less (aQ _) b (fun _ q=>q),h.BI,h.has,h.small,h.keys⟩
theorem om.mono{pg:Nat->ByteArray}{n:ByteArray}{row:Int}{ws:List ByteArray}{Q Q':Ch->Tr->Prop}(b:∀c X,Q c X->Q' c X):∀{rest q:List ByteArray} {c:Ch} {X:Tr},om pg n row ws Q q rest c X->om pg n row ws Q' q rest c X
 |[],_,_,_,h=>b _ _ h
 |_::_,_,_,_,h=>⟨fun hd=>(h.1 hd).mono b,fun hd=>⟨(h.2 hd).1,(h.2 hd).2.imp fun _ s=>⟨s.1,s.2.mono fun _ _ y=>y.mono b⟩⟩⟩
def tl(pg:Nat->ByteArray)(n:ByteArray)(ts:List ByteArray)(k:Nat)(c:Ch)(X:Tr):Prop:=
 ∃K V,mD pg n V (df (kX ts k)) (kX ts k).length K c X/\((K=[]/\V=347+401*k)\/(K≠[]/\V=359+401*k))
theorem Hd(wd:ByteArray):df [] wd=[]:=Bm ap
theorem Oy(n:ByteArray)(ts:List ByteArray):tl wZ.pg n ts 0 (Ch.new kP) none:=by
 refine⟨[],347,⟨(TG.empty pX).less (aQ _) (aQ _) (fun _ h=>h.elim),.inl ⟨rfl,rfl⟩,fun wd _=>⟨[],rfl,⟨⟨(fun l h=>by cases h),ap⟩,(fun l h=>by cases h),(fun l h=>by cases h)⟩,(Hd wd).symm⟩,(fun wd p h=>by rw[show kX ts 0=[]from rfl,Hd]at h;cases h),(fun e h=>by cases h)⟩,.inl ⟨rfl,rfl⟩⟩
theorem RV{pg:Nat->ByteArray}{n:ByteArray}{ts:List ByteArray}{k:Nat}{c:Ch}{X:Tr}(h:tl pg n ts k c X)(hs:¬(ts.getD k ⟨#[]⟩).size<=40):tl pg n ts (k+1) c X:=by
 obtain⟨K,V,q,s⟩:=h;unfold tl;rw[vD hs];rcases s with⟨b,y⟩|⟨b,y⟩
 ·exact⟨K,347+401*(k+1),q.mono (by omega),.inl ⟨b,rfl⟩⟩
 exact⟨K,359+401*(k+1),q.mono (by omega),.inr ⟨b,rfl⟩⟩
theorem tl.lays{pg:Nat->ByteArray}{n:ByteArray}{ts:List ByteArray}{k:Nat}{c:Ch}{X:Tr}(h:tl pg n ts k c X):X.lays c pg 3:=by
 obtain⟨K,V,b,_⟩:=h;exact b.tg.lays
theorem tl.wR{pg:Nat->ByteArray}{n:ByteArray}{ts:List ByteArray}{k:Nat}{c:Ch}{X:Tr}(h:tl pg n ts k c X)(q:k<=25):∃K V,mD pg n V (df (kX ts k)) (kX ts k).length K c X/\V<12145:=by
 obtain⟨K,V,b,s⟩:=h;exact⟨K,V,b,by omega⟩
theorem RW{pg:Nat->ByteArray}{n:ByteArray}(hn:cI n)(B:n.size<=1){ts:List ByteArray}{k:Nat}{c:Ch}{X:Tr}(h:tl pg n ts k c X)(hk:k<25)(hs:(ts.getD k ⟨#[]⟩).size<=40):
  (∀wd∈aD (ts.getD k ⟨#[]⟩),cI wd/\∃PS,yp X n wd PS/\∀p∈PS.flatten,p.1≠(k:Int)+1)/\
  ((X.get bw=none/\(kX ts k).length=0)\/X.get bw=some (iA (kX ts k).length))/\
  (kX ts k).length+(aD (ts.getD k ⟨#[]⟩)).length<=500/\
  ∃D G,kh c 3 X bw (iA ((kX ts k).length+(aD (ts.getD k ⟨#[]⟩)).length))=(D,G,0)/\om pg n ((k:Int)+1) (aD (ts.getD k ⟨#[]⟩)) (tl pg n ts (k+1)) [] (aD (ts.getD k ⟨#[]⟩)) D G:=by
 obtain⟨K,V,H,h2⟩:=h;obtain⟨U,Y,s⟩:=ot hs;have Z:=yJ ts k;have b:=vE hs;obtain⟨ws,O⟩:∃ws,aD (ts.getD k ⟨#[]⟩)=ws:=⟨_,rfl⟩;rw[O]at U Y s b⊢;refine⟨fun wd q=>⟨(s wd q).1,?_⟩,H.get,by omega,?_⟩
 ·obtain⟨PS,J,L,I⟩:=H.has wd (s wd q).1;refine⟨PS,H.TU hn B (by omega) (s wd q).1 J L I,fun p y=>?_⟩;rw[I]at y;unfold df at y;rw[bO]at y;unfold nT at y;obtain⟨x,hx,rfl⟩:=ak.1 y;have:=(pK (ae.1 hx).1).1;omega
 obtain⟨z,Q,S,a5⟩:∃z,((K=[]/\z=V+12)\/(K≠[]/\z=V))/\z<12145/\z=359+401*k:=by
  rcases h2 with⟨M,h4⟩|⟨M,h4⟩
  ·exact⟨V+12,.inl ⟨M,rfl⟩,by omega,by omega⟩
  exact⟨V,.inr ⟨M,rfl⟩,by omega,by omega⟩
 obtain⟨D,G,K1,J,L,I⟩:=H.Yn Q S ((kX ts k).length+ws.length);refine⟨D,G,J,?_⟩;have hb:ry ws [] ws<=401:=by
  rw[Ri];exact Y
 have h5:=mD.Dv (row:=(k:Int)+1) hn B (by omega) U s ws [] (fun w hw=>hw) (by rw[RU];exact L) I (by omega);refine h5.mono fun c' X' ⟨K',a6,f1,f2,f3⟩=>?_;refine⟨K',359+401*(k+1),?_,.inr ⟨fun e=>?_,rfl⟩⟩
 ·rw[RT (kX ts k) ((k:Int)+1) (fun w=>by rw[f1 w];simp),<-b]at f2;rw[show(kX ts k).length+ws.length=(kX ts (k+1)).length by rw[b,aU,qE]]at f2;exact f2.mono (by omega)
 rw[e]at f3;cases f3
theorem xw{P:aa->Prop}{L:ByteArray->List aa}(b:∀x,∀p∈L x,P p):∀(ws:List ByteArray) (a:List aa),(∀p∈a,P p)->∀p∈jg L a ws,P p
 |[],_,h=>h
 |x::ws,a,_=>xw b ws (kD a (L x)) fun p q=>b x p (ae.1 q).1
theorem Hg(L:ByteArray->List aa):∀(fs:List ByteArray) (a:List aa),bU af a->bU af (fs.foldl (fun a x=>setOf af (a++L x)) a)/\∀p,p∈fs.foldl (fun a x=>setOf af (a++L x)) a↔p∈a\/∃x∈fs,p∈L x
 |[],a,h=>⟨h,fun p=>by simp⟩
 |x::fs,a,_=>by
  have b:=Hg L fs (setOf af (a++L x)) (cx bI _);refine⟨b.1,fun p=>?_⟩;rw[List.foldl_cons,b.2 p,bO,aJ];simp only[aS,exists_eq_or_imp,or_assoc]
theorem zU(L:ByteArray->List aa)(fs:List ByteArray):bU af (iO L fs)/\∀p,p∈iO L fs↔∃x∈fs,p∈L x:=by
 have:=Hg L fs [] ap;exact⟨this.1,fun p=>by rw[show iO L fs=fs.foldl (fun a x=>setOf af (a++L x)) []from rfl,this.2 p];simp⟩
theorem rK{NL:List bY}{wd:ByteArray}{p:aa}:p∈df NL wd↔(wd,p)∈NL:=by
 unfold df;rw[bO];unfold nT;rw[ak]
 constructor
 ·rintro⟨⟨a,b⟩,s,rfl⟩;obtain⟨y,q⟩:=ae.1 s;have q:a=wd:=by simpa using q
  rw[<-q];exact y
 exact fun h=>⟨(wd,p),ae.2 ⟨h,by simp⟩,rfl⟩
section
variable{pg:Nat->ByteArray}{n:ByteArray}{V N:Nat}{NL:List bY}{K:LP}{c:Ch}{X:Tr}
theorem Ea(n:ByteArray):∀(l:LP),(∀e∈l,∃wd r,cI wd/\wd.size<=12/\(1<=r/\r<=1073741824)/\e.1=cP n wd r)->∃ls:List (ByteArray×Int×ByteArray),l=ls.map (fun e=>(cP n e.1 e.2.1,e.2.2))/\∀e∈ls,cI e.1/\(1<=e.2.1/\e.2.1<=1073741824)
 |[],_=>⟨[],rfl,fun e h=>by cases h⟩
 |( k,v)::l,h=>by
   obtain⟨ls,s,y⟩:=Ea n l fun e b=>h e (List.mem_cons_of_mem _ b);obtain⟨wd,r,z,_,B,q⟩:=h (k,v) aV;refine⟨(wd,r,v)::ls,?_,fun e b=>?_⟩
   · rw[a9,<-s]
     simp only at q⊢;rw[q]
   rcases aS.1 b with D|b
   ·subst D;exact⟨z,B⟩
   exact y e b
theorem LY{n:ByteArray}:∀ls:List (ByteArray×Int×ByteArray),13*ls.length<=aZ pX (ls.map fun e=>(cP n e.1 e.2.1,e.2.2))
 |[]=>Nat.zero_le _
 |e::ls=>by
  have q:=LY (n:=n) ls;have b:=vu (cP n e.1 e.2.1) e.2.2;unfold pz at b;rw[pt]at b;unfold aZ at q⊢;simp only[a9,List.sum_cons,az];omega
theorem Xt(hn:cI n)(b0:n.size<=1)(h:mD pg n V (df NL) N K c X)(hV:V<12145)(hl:NL.length<=500)(I:∀x∈NL,cI x.1/\iD x.2=true/\x.2.1<=8000):
  ∃ls,sQ X n (df NL) ls/\Bl (df NL) ls/\∀kind ws r,xu (df NL) ls kind ws r=pN NL kind ws r:=by
 have a3:∀x∈NL,iD x.2=true:=fun x D=>(I x D).2.1;have a4:∀e∈fd K (jL n),∃wd r,cI wd/\wd.size<=12/\(1<=r/\r<=1073741824)/\e.1=cP n wd r:=by
  intro e H;obtain⟨b1,S⟩:=ae.1 H;rcases h.keys e b1 with B|B
  ·rw[B,Da]at S;cases S
  exact B
 obtain⟨ls,J,L⟩:=Ea n _ a4;have U:=h.tg.walk (s:=jL n) (dO (AH n));have b5:13*ls.length<=V:=by
  refine bc (LY (n:=n) ls) ?_;rw[<-J];exact bc (sF _ K) h.tg.aZ
 have a5:Uk X n ls:=by
  refine⟨by rw[U,Gq h.tg.IZ,J],L,?_⟩;rw[U];have G:(jt K (jL n)).length<=K.length:=List.length_filter_le _ _;have Q:=zG K;have h4:=h.tg.aZ;omega
 have Y:∀wd,bU af (df NL wd):=fun wd=>cx bI _;have y:∀wd p,p∈df NL wd->1<=p.1/\p.1<=8000:=by
  intro wd p b;have G:=I _ (rK.1 b);have Q:=G.2.1;have h4:p.1<=8000:=G.2.2;simp only[iD,Bool.and_eq_true,decide_eq_true_eq]at Q;omega
 have Z:∀s,setOf af (nT NL (preB s))=iO (df NL) (aq (nW s ls)):=by
  intro s;obtain⟨f1,f2⟩:=zU (df NL) (aq (nW s ls));refine(mC bI f1 fun p=>?_).symm;rw[f2 p]
  constructor
  ·rintro⟨x,D,b⟩;rw[jb]at D;obtain⟨_,b2⟩:=ae.1 D;exact ak.2 ⟨(x,p),ae.2 ⟨rK.1 b,b2⟩,rfl⟩
  intro b;unfold nT at b;obtain⟨⟨wd,q⟩,G,rfl⟩:=ak.1 b;obtain⟨Q,h4⟩:=ae.1 G;have M:q∈df NL wd:=rK.2 Q;refine⟨wd,?_,M⟩;rw[jb];have a0:=(I _ Q).1;obtain⟨PS,e1,e2,B⟩:=h.has wd a0;have b3:PS≠[]:=by
   intro e;rw[e]at B;rw[<-B]at M;cases M
  obtain⟨l,c1,rfl⟩:=List.exists_cons_of_ne_nil b3;have hk:bp n wd l∈fd K (dx n wd):=by
   rw[e1];exact aV
  have a1:bp n wd l∈fd K (jL n):=ae.2 ⟨(ae.1 hk).1,C8 n wd (rowOf l)⟩;rw[J]at a1;obtain⟨e,H,e4⟩:=ak.1 a1;have e5:cP n e.1 e.2.1=cP n wd (rowOf l):=congrArg Prod.fst e4;have e6:wd=e.1:=Gs a0 (L e H).1 (n:=n) (r:=e.2.1) (by rw[e5];exact lh n wd (rowOf l));exact ae.2 ⟨ak.2 ⟨e,H,e6.symm⟩,h4⟩
 have O:∀kind ws r,xu (df NL) ls kind ws r=pN NL kind ws r:=by
  intro kind ws r;unfold xu pN uU;rw[Bm (Y _),Z]
 refine⟨ls,⟨fun wd a2=>?_,fun wd=>?_,a5,fun e H=>(L e H).1,by omega,fun fs=>?_⟩,⟨fun kind ws r b=>?_,fun kind ws r=>?_,Y⟩,O⟩
 ·obtain⟨PS,e1,e2,B⟩:=h.has wd a2;exact⟨PS,h.TU hn b0 hV a2 e1 e2 B,B⟩
 ·have:=Uw NL wd;omega
 ·obtain⟨f1,f2⟩:=zU (df NL) fs;have G:=xh (m:=NL.map (·.2)) (v_ f1) fun p b=>by
   obtain⟨x,_,D⟩:=(f2 p).1 b;exact ak.2 ⟨(x,p),rK.1 D,rfl⟩
  rw[List.length_map]at G;omega
 ·rw[O]at b;unfold pN at b
  split at b
  ·obtain⟨p,z,rfl⟩:=nF.1 b;exact xw (P:=fun p=>1<=p.1/\p.1<=8000) y _ _ (y _) p z
  split at b
  ·obtain⟨p,z,rfl⟩:=nF.1 b;rw[Z]at z;obtain⟨x,_,D⟩:=((zU (df NL) _).2 p).1 z;exact y x p D
  unfold uU at b
  split at b
  ·rename_i hr
   rw[bO]at hr;unfold bG at hr;obtain⟨p,z,rfl⟩:=ak.1 hr;exact y _ p (ae.1 z).1
  omega
 rw[O];exact Hf (by omega) a3 kind ws r
theorem OC{L:ByteArray->List aa}{ls:List (ByteArray×Int×ByteArray)}(h:∀kind ws r,xu L ls kind ws r=pN NL kind ws r):∀(q:Qy) (r:Int),HN L ls q r=HR NL q r
 | .leaf kind ws _,r=>h kind ws r
 | .node kind a b,r=>by
  show eI kind (HN L ls a r) (HN L ls b r)=eI kind (HR NL a r) (HR NL b r);rw[OC h a r,OC h b r]
end
