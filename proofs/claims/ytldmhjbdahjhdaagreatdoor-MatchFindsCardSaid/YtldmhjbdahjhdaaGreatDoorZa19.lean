/-
  Part 19 of the proof.
-/
import Derived.Test.YtldmhjbdahjhdaaGreatDoorZa18
open Go.Proofs.Tryz
open Go.Lib renaming hid->ae
open Option.some renaming inj->ak
open Go.World renaming cell?_alloc_new->ap,size_alloc->bc
open Nat renaming le_trans->az,zero_add->aU,zero_le->aV,succ_pos->b_
open List renaming take_succ_eq_append_getElem->aJ,take_of_length_le->aQ,length_take->aX,length_append->be,length_filter_le->bh,length_cons->bj,getElem_mem->bt,flatMap_cons->bA,filter_cons_of_pos->bC,filter_cons_of_neg->bF,append_nil->bP,mem_filter->bQ,cons_append->cf,length_map->ch,mem_cons->cl,mem_map->cD
open Go renaming World->aS,Calls->bu,Value->bz
open Go.IntKind renaming i64->bv,wrap_i64->bM,signed->cK,bits->cL
open Go.RowKit renaming run_makeMap->bB
open Go.Instr renaming entry->bT
open Go.World.ownsRow renaming cells->bW
open Go.ByteArray renaming toList_eq->bX
open Go.Proofs.Tryz renaming underlying36->bZ,ntmps13->cj,func13->cF
open Go.Value renaming int->cg
open Prod.mk renaming injEq->cs
set_option maxRecDepth 100000
set_option maxHeartbeats 100000000
set_option linter.all false
namespace Go.Proofs.YtldmhjbdahjhdaaGreatDoor
section
open Go Go.RowKit Go.Shelf Go.Lib
abbrev bY:Type:=ByteArray×aa
def xn(n:ByteArray)(x:bY):List bz:=[.string n,.string x.1,.int .i64 x.2.1,.int .i64 x.2.2]
def gh(n:ByteArray)(xs:List bY):List bz:=xs.flatMap (xn n)
theorem uF(n:ByteArray)(xs b:List bY):gh n (xs++b)=gh n xs++gh n b:=List.flatMap_append
theorem A_(n:ByteArray):∀xs:List bY,(gh n xs).length=xs.length*4
 |[]=>rfl
 |x::xs=>by
  have:=A_ n xs;unfold gh at*;rw[bA,be,this];show 4+_=(xs.length+1)*4;omega
theorem Ba(n:ByteArray)(xs:List bY):∀u∈gh n xs,u.oneCell'=true:=by
 intro u hu;obtain⟨x,_,h⟩:=List.mem_flatMap.1 hu;unfold xn at h;simp only[cl,List.not_mem_nil,or_false]at h;rcases h with rfl|rfl|rfl|rfl<;>rfl
theorem Bb(n:ByteArray):∀(xs:List bY) (i:Nat) (h:i<xs.length) (j:Nat) (u:bz),(xn n xs[i])[j]?=some u->(gh n xs)[i*4+j]?=some u
 |x::xs,0,_,j,u,b=>by
  unfold gh;have b:(xn n x)[j]?=some u:=b;rw[bA,Nat.zero_mul,aU,List.getElem?_append_left (List.getElem?_eq_some_iff.1 b).1];exact b
 |x::xs,i+1,h,j,u,b=>by
  have q:=Bb n xs i (by simpa using h) j u (by simpa using b);unfold gh at q⊢;rw[bA,List.getElem?_append_right (by show 4<=_;omega)];have:(i+1)*4+j-(xn n x).length=i*4+j:=by
   show(i+1)*4+j-4=_;omega
  rw[this];exact q
def gi(b:Nat)(w:aS)(v:bz)(n:ByteArray)(xs:List bY):Prop:=w.ownsRow b 114 4 v xs.length (gh n xs)
theorem gi.gr{b:Nat}{w w':aS}{v:bz}{n:ByteArray}{xs:List bY}(h:gi b w v n xs)(g:Gr w w'):gi b w' v n xs:=aF h g
theorem gi.block{z:Nat}{w w':aS}{v:bz}{n:ByteArray}{xs:List bY}(h:gi z w v n xs)(B:∀b,v.ownBlock=some b->w'.heap[b]?=w.heap[b]?):gi z w' v n xs:=by
 obtain⟨D,q⟩:=h;refine⟨D,?_⟩;rcases q with q|⟨b,cap,s,hv,y,G,r⟩
 ·exact .inl q
 exact .inr ⟨b,cap,s,hv,y,by rw[B b (by rw[hv];rfl)];exact G,r⟩
theorem gi.at'{s:Nat}{w:aS}{v:bz}{n:ByteArray}{xs:List bY}(h:gi s w v n xs):(v=.slice none 0 0/\xs=[])\/∃b cap,v=.slice (some ⟨b,0,none⟩) xs.length cap/\xs.length<=cap/\s<=b/\b<w.heap.size/\
  ∀i (hi:i<xs.length),w.cell? ⟨b,i*4,none⟩=some (.string n)/\w.cell? ⟨b,i*4+1,none⟩=some (.string xs[i].1)/\w.cell? ⟨b,i*4+2,none⟩=some (.int .i64 xs[i].2.1)/\w.cell? ⟨b,i*4+3,none⟩=some (.int .i64 xs[i].2.2):=by
 have z:w.ownsRow s 114 4 v xs.length (gh n xs):=h;have hc:=fun g q=>bW (g:=g) z q;rcases z.2 with⟨rfl,B⟩|⟨g,cap,I,rfl,D,G,y,_⟩
 ·exact .inl ⟨rfl,List.eq_nil_of_length_eq_zero B⟩
 refine .inr ⟨g,cap,rfl,y,D,(Array.getElem?_eq_some_iff.1 G).1,fun i hi=>?_⟩;have e:∀j,(⟨g,0,none⟩:Addr).add j=⟨g,j,none⟩:=by
  intro j;unfold Addr.add;split<;>simp_all
 have q:=fun j u H=>hc g rfl _ _ (Bb n xs i hi j u H);simp only[e]at q;exact⟨q 0 _ rfl,q 1 _ rfl,q 2 _ rfl,q 3 _ rfl⟩
theorem gi.form{q:Nat}{w:aS}{v:bz}{n:ByteArray}{xs:List bY}(h:gi q w v n xs):∃s c,v=.slice s xs.length c:=by
 rcases h.at' with⟨rfl,rfl⟩|⟨b,cap,rfl,_⟩
 ·exact⟨none,0,rfl⟩
 exact⟨_,cap,rfl⟩
structure jO(lo:Nat)(w:aS)(XB:Nat)(n:ByteArray)(xs:List bY):Prop where
 ex:∃v,w.cell? ⟨XB,0,none⟩=some v/\gi lo w v n xs
 fz:w.frozen? ⟨XB,0,none⟩=false
 lt:XB<lo
theorem jO.gr{b:Nat}{w w':aS}{q:Nat}{n:ByteArray}{xs:List bY}(h:jO b w q n xs)(g:Gr w w'):jO b w' q n xs:=by
 obtain⟨⟨v,s,y⟩,z,B⟩:=h;exact⟨⟨v,g.keeps s,y.gr g⟩,(g.frozen 0 (ad s)).trans z,B⟩
theorem jO.ay{S:Nat->Prop}{s:Nat}{w w':aS}{q:Nat}{n:ByteArray}{xs:List bY}(h:jO s w q n xs)(g:ag S w w')(hS:∀b,S b->b≠q/\b<s):jO s w' q n xs:=by
 obtain⟨⟨v,z,y⟩,G,H⟩:=h;have B:¬S q:=fun e=>(hS q e).1 rfl;refine⟨⟨v,g.keeps B z,y.block fun b D=>g.block (bd y b D) fun e=>?_⟩,(g.frozen 0 (ad z) B).trans G,H⟩;have:=aP y b D;have:=(hS b e).2;omega
theorem Bd:(prog.info? 114).map (fun i=>(i.zero,i.size,i.bytes))=some (some (.agg #[.string ⟨#[]⟩,.string ⟨#[]⟩,.int .i64 0,.int .i64 0]),4,48):=by kernel_rfl
theorem Jq{a0 w:aS}{q:Array Oper}{rest:List Oper}{o:Oper}{a:Act}{Q:Exit->Act->aS->Prop}(D:o.guard=none)(s x:Operand)
  (M:o.op=.call {callee:=.builtin .append,args:=#[s,x],argTypes:=#[36,36]}) (v:bz) (n:ByteArray) (us:List bY) (hs:a.eval s=v) (z:gi a0.heap.size w v n us) (p:bY)
  (O:a.eval x=.slice (some ⟨w.heap.size,0,none⟩) 1 1) (Y:us.length+1<=1000000) (S:Gr a0 w)
  (h:∀y w',gi a0.heap.size w' y n (us++[p])->Gr a0 w'->wpList prog q Q rest (a.put o.dst y) w'):wpList prog q Q (o::rest) a (w.alloc (.cells #[.string n,.string p.1,.int .i64 p.2.1,.int .i64 p.2.2] 114)):=by
 obtain⟨b,B,J⟩:∃b,prog.info? 114=some b/\(b.zero,b.size,b.bytes)=(some (.agg #[.string ⟨#[]⟩,.string ⟨#[]⟩,.int .i64 0,.int .i64 0]),4,48):=by
  have h:=Bd;cases L:prog.info? 114 with
  |none=>rw[L]at h;cases h
  |some b=>rw[L]at h;exact⟨b,rfl,ak h⟩
 simp only[cs]at J;obtain⟨G,H,I⟩:=J;refine bK (P:=prog) D s x 36 M 114 b (.agg #[.string ⟨#[]⟩,.string ⟨#[]⟩,.int .i64 0,.int .i64 0]) 4 48 bZ B G H I rfl (by decide) v us.length (gh n us) hs z (xn n p) rfl
  (fun u hu=>Ba n [p] u (by unfold gh;simpa using hu)) O S (by omega) (by omega)
  (fun y w' U V=>h y w' ?_ V)
 unfold gi;rw[be,uF];have e:gh n [p]=xn n p:=by unfold gh;simp
 rw[e];exact U
theorem Fi{a0 w:aS}{D:Array Oper}{rest:List Oper}{o:Oper}{a:Act}{Q:Exit->Act->aS->Prop}(G:o.guard=none)(s x:Operand)
  (O:o.op=.call {callee:=.builtin .append,args:=#[s,x],argTypes:=#[36,36]}) (v:bz) (n:ByteArray) (us:List bY) (hs:a.eval s=v) (q:gi a0.heap.size w v n us)
  (vs:bz) (xs:List bY) (S:Nat) (U:a.eval x=vs) (hi:gi S w vs n xs) (hl:us.length+xs.length<=1000000) (B:Gr a0 w)
  (h:∀H w',gi a0.heap.size w' H n (us++xs)->Gr a0 w'->wpList prog D Q rest (a.put o.dst H) w'):wpList prog D Q (o::rest) a w:=by
 obtain⟨y,z,V⟩:∃y,prog.info? 114=some y/\(y.zero,y.size,y.bytes)=(some (.agg #[.string ⟨#[]⟩,.string ⟨#[]⟩,.int .i64 0,.int .i64 0]),4,48):=by
  have h:=Bd;cases Y:prog.info? 114 with
  |none=>rw[Y]at h;cases h
  |some y=>rw[Y]at h;exact⟨y,rfl,ak h⟩
 simp only[cs]at V;obtain⟨I,J,L⟩:=V;have M:=fun g B=>bW (g:=g) (show w.ownsRow S 114 4 vs xs.length (gh n xs)from hi) B;rcases hi.at' with⟨rfl,rfl⟩|⟨b,c,rfl,_,_,hb,_⟩
 ·rw[bP]at h;exact Lib.wpList_append_run w G s x 36 36 O v (.slice none 0 0) hs U v w (run_append_owned_none w a0.heap.size 36 o.type 114 y 4 bZ z v us.length (gh n us) q) (h v w q B)
 refine wpList_append_own w G s x 36 O a0.heap.size 114 y (.agg #[.string ⟨#[]⟩,.string ⟨#[]⟩,.int .i64 0,.int .i64 0]) 4 48 bZ z I J L rfl (by decide) v us.length (gh n us) hs q ⟨b,0,none⟩ xs.length c (gh n xs) U (A_ n xs) (M b rfl) (Ba n xs) (by unfold maxLen;omega) (by omega) B.size
  (fun H w' Z h2 _=>h H w' ?_ (iG B h2 (aP q)))
 unfold gi;rw[be,uF];exact Z
def et(r:Int):List ByteArray->Nat->List bY
 |[],_=>[]
 |x::xs,i=>(x,(r,(i:Int)))::et r xs (i+1)
theorem qE(r:Int):∀(xs:List ByteArray) (i:Nat),(et r xs i).length=xs.length
 |[],_=>rfl
 |x::xs,i=>by
  unfold et;rw[bj,bj,qE]
theorem uG(r:Int):∀(xs b:List ByteArray) (i:Nat),et r (xs++b) i=et r xs i++et r b (i+xs.length)
 |[],b,i=>rfl
 |x::xs,b,i=>by
  have s:=uG r xs b (i+1);rw[show i+1+xs.length=i+(xs.length+1)by omega]at s;have y:∀q:List ByteArray,et r (x::q) i=(x,(r,(i:Int)))::et r q (i+1):=fun q=>rfl;rw[cf,bj,y,y,s,cf]
theorem Be{r:Int}:∀{xs:List ByteArray} {i:Nat} {p:bY},p∈et r xs i->p.2.1=r/\p.1∈xs
 |[],_,_,h=>by cases h
 |x::xs,i,p,h=>by
  unfold et at h;rcases cl.1 h with e|h
  ·subst e;exact⟨rfl,List.mem_cons_self⟩
  have:=Be h;exact⟨this.1,List.mem_cons_of_mem _ this.2⟩
theorem Bf(r:Int)(wd:ByteArray):∀(xs:List ByteArray) (i:Nat),((et r xs i).filter fun x=>decide (x.1=wd)).map (·.2)=fv r wd xs i
 |[],_=>rfl
 |x::xs,i=>by
  have b:=Bf r wd xs (i+1);unfold et fv;by_cases e:x=wd
  ·subst e;rw[bC (by simp),List.map_cons,b,if_pos rfl]
  rw[bF (by simpa using e),b,if_neg e]
theorem T5{n:ByteArray}(hn:cI n)(s:1<=n.size/\n.size<=16){r:Int}(y:1<=r/\r<=1073741824)(W:aS):bu prog 49 #[.string n,.int .i64 r] W (ar W (.int .i64 0)):=by
 have B:Q6 (n.size:Int) 1 16=true:=by
  unfold Q6;simp;omega
 have D:Q6 r 1 1073741824=true:=by
  unfold Q6;simp;omega
 have G:decide (0<=Lib.indexByte n.data.toList 0)=false:=by
  have h:=pr n.data.toList 0;rw[hn.nz]at h;have:=of_decide_eq_true h;exact decide_eq_false (by omega)
 have b:=Gr.refl W;clear y s hn;go_enter func49,ntmps49;go_wp2_with(first
  |(go_at_call 99;refine(Yj _ _ _ _).mono ?_;rintro e z ⟨rfl,q⟩;replace b:=b.trans q)
  |(go_at_call 100;refine(Tryz.strings_Contains_one _ _ _).mono ?_;rintro e z ⟨rfl,rfl⟩))
 go_ret;exact ar.mk rfl b
theorem gi.less{B q:Nat}{w:aS}{v:bz}{n:ByteArray}{xs:List bY}(h:gi B w v n xs)(D:q<=B):gi q w v n xs:=by
 obtain⟨G,s⟩:=h;refine⟨G,?_⟩;rcases s with s|⟨b,cap,y,hv,z,H,r⟩
 ·exact .inl s
 exact .inr ⟨b,cap,y,hv,az D z,H,r⟩
theorem VJ{lo:Nat}{w:aS}{J:Nat}{n:ByteArray}{q:List bY}(h:jO lo w J n q)(l0:lo<=w.heap.size)(hn:cI n)(h1:1<=n.size/\n.size<=16){row:Int}(hr:1<=row/\row<=1073741824){text:ByteArray}(l1:text.size<=40)(Z:∀x∈q,x.2.1≠row)(d8:q.length+(aD text).length<=500):
   bu prog 11 #[.pointer (some ⟨J,0,none⟩),.string n,.int .i64 row,.string text] w fun e L=>e=.returned (.int .i64 0)/\jO lo L J n (q++et row (aD text) 0)/\ag (fun b=>b=J) w L:=by
 have b9:=fun W=>T5 hn h1 hr W;have z:=fun W=>sH text (by omega) W;obtain⟨ws,c0⟩:∃ws,aD text=ws:=⟨_,rfl⟩;simp only[c0]at z d8⊢;obtain⟨⟨v,hv,a3⟩,g0,d9⟩:=h;obtain⟨ao,co,g3⟩:=a3.form;subst g3;have g4:=ae b9;have g5:=ae z;have e0:=ae Z;have c1:=ae a3;have j1:¬(40:Int)<(text.size:Int):=by omega
 clear b9 z Z a3 c0 hr h1 hn;go_enter func11,ntmps11;go_wp2_with fail
 refine(g4.out _).mono ?_;rintro e w1 ⟨rfl,c3⟩;have c4:=ae c3;clear c3;go_wp2_with fail
 refine(g5.out _).mono ?_;rintro e Q ⟨v2,rfl,c5,a4⟩;obtain⟨a2,c2,b2,rfl,c6,a1⟩:=fk c5;have c7:=ae c6;have O:=ae a1;have M:=ae (c4.out.trans a4);have k2:=(c4.out.trans a4).keeps hv;clear c5 c6 a1 a4;go_wp2_with fail
 go_loopw [34] (fun U L=>∃i:Nat,i<=q.length/\U=.int .i64 i/\Gr Q L) (fun U _=>q.length-(intOf U).toNat)
 case atStart=>exact⟨0,aV _,rfl,Gr.refl _⟩
 case round=>as_aux_lemma=>
  obtain⟨i,hi,rfl,G⟩:=hrel;by_cases D:i<q.length
  ·have g6:(i:Int)<(q.length:Int):=by omega
   obtain⟨B,rfl,l2,y⟩:∃B,ao=some ⟨B,0,none⟩/\B<w.heap.size/\(w.cell? ⟨B,i*4,none⟩=some (.string n)/\w.cell? ⟨B,i*4+1,none⟩=some (.string q[i].1)/\w.cell? ⟨B,i*4+2,none⟩=some (.int .i64 q[i].2.1)/\w.cell? ⟨B,i*4+3,none⟩=some (.int .i64 q[i].2.2)):=by
     rcases c1.out.at' with⟨_,e2⟩|⟨B,cap,e,_,_,hb,hh⟩
     ·rw[e2]at D;exact absurd D (by simp)
     cases e;exact⟨B,rfl,hb,hh i D⟩
   have s:=M.out.trans G;have n0:=s.keeps y.1;have n1:=s.keeps y.2.1;have n2:=s.keeps y.2.2.1;have n3:=s.keeps y.2.2.2;have I:=e0.out q[i] (bt D);obtain⟨⟨V,Y,xa⟩,hx⟩:∃x,q[i]=x:=⟨_,rfl⟩;rw[hx]at n1 n2 n3 I;simp only at n1 n2 n3 I;have l3:(Y==row)=false:=by simpa using I
   have HG:=ae G;clear G s y hx I;go_wp2_with fail
   have gA:Gr wr (wr.alloc (.cells #[.string n,.string V,.int .i64 Y,.int .i64 xa] 114)):=(Gr.refl wr).alloc _;have m0:(wr.alloc (.cells #[.string n,.string V,.int .i64 Y,.int .i64 xa] 114)).cell? ⟨wr.heap.size,0,none⟩=some (.string n):=by rw[ap];rfl
   have m1:(wr.alloc (.cells #[.string n,.string V,.int .i64 Y,.int .i64 xa] 114)).cell? ⟨wr.heap.size,1,none⟩=some (.string V):=by rw[ap];rfl
   have m2:(wr.alloc (.cells #[.string n,.string V,.int .i64 Y,.int .i64 xa] 114)).cell? ⟨wr.heap.size,2,none⟩=some (.int .i64 Y):=by rw[ap];rfl
   obtain⟨NB,d0⟩:∃NB,wr.heap.size=NB:=⟨_,rfl⟩;rw[d0]at m0 m1 m2⊢;obtain⟨wa,d1⟩:∃wa,wr.alloc (.cells #[.string n,.string V,.int .i64 Y,.int .i64 xa] 114)=wa:=⟨_,rfl⟩;rw[d1]at gA m0 m1 m2⊢;have d2:=ae (HG.out.trans gA);have a5:=ae (And.intro m0 (And.intro m1 m2));have l4:(n.toList==n.toList)=true:=by simp
   clear gA d1 d0 m0 m1 m2 n0 n1 n2 n3;go_loopw [40] (fun jv L=>∃j:Nat,j<=ws.length/\jv=.int .i64 j/\Gr wa L) (fun jv _=>ws.length-(intOf jv).toNat)
   case atStart=>exact⟨0,aV _,rfl,Gr.refl _⟩
   case round=>as_aux_lemma=>
    obtain⟨j,hj,rfl,H⟩:=hrel;by_cases a6:j<ws.length
    ·have e1:(j:Int)<(ws.length:Int):=by omega
     have e2:=c7.out (by omega);subst e2;have cw:=(d2.out.trans H).keeps (O.out j a6);rw[aU]at cw;have m0:=H.keeps a5.out.1;have m1:=H.keeps a5.out.2.1;have m2:=H.keeps a5.out.2.2;obtain⟨wd,z⟩:∃wd,ws[j]=wd:=⟨_,rfl⟩;rw[z]at cw;have d3:=ae H;clear H z;cases l5:(V.toList==wd.toList)with
     |true=>
      go_wp2_with fail
      exact⟨⟨j+1,a6,by go_num,d3.out⟩,by simp[intOf];omega⟩
     |false=>
      go_wp2_with fail
      exact⟨⟨j+1,a6,by go_num,d3.out⟩,by simp[intOf];omega⟩
    have e1:¬(j:Int)<(ws.length:Int):=by omega
    have HE:=ae (d2.out.trans H);clear H;go_wp2_with fail
    exact⟨⟨i+1,D,by go_num,HE.out⟩,by simp[intOf];omega⟩
  have g6:¬(i:Int)<(q.length:Int):=by omega
  have k3:=G.keeps k2;have HG:=ae (M.out.trans G);have d4:=O.out.gr G;have j2:=ae d4;have l6:bv.wrap ((q.length:Int)+(ws.length:Int))=((q.length+ws.length:Nat):Int):=by
    rw[bM];omega
  have j3:¬(500:Int)<((q.length+ws.length:Nat):Int):=by omega
  have gE:Gr wr (wr.alloc (.cells #[] 114)):=(Gr.refl wr).alloc _;have k4:=gE.keeps k3;have h0:gi Q.heap.size (wr.alloc (.cells #[] 114)) (.slice (some ⟨wr.heap.size,0,none⟩) 0 0) n []:=World.ownsRow_lit wr #[] 0 G.size (by decide) rfl;have H0:=ae h0;have g7:=ae (G.trans gE);have g8:=(HG.out.trans gE).frozen 0 (ad hv);have g9:=ae (c1.out.gr (HG.out.trans gE));have h2:([]:List bY).length+q.length<=1000000:=by simp;omega
  clear G d4 gE h0 g8;go_wp2_with(at_builtin;refine Fi (a0:=Q) rfl _ _ rfl _ n [] rfl H0.out _ q lo rfl g9.out h2 g7.out ?_;intro v5 w5 d5 h3)
  rw[List.nil_append]at d5;go_loopw [15,80] (fun ov U L=>∃k:Nat,k<=ws.length/\U=.int .i64 k/\gi Q.heap.size L ov n (q++et row (ws.take k) 0)/\Gr Q L) (fun _ U _=>ws.length-(intOf U).toNat)
  case atStart=>exact⟨0,aV _,rfl,by show gi Q.heap.size w5 v5 n (q++[]);rw[bP];exact d5,h3⟩
  case round=>as_aux_lemma=>
   obtain⟨k,hk,rfl,S,G⟩:=hrel;by_cases D:k<ws.length
   ·have e3:(k:Int)<(ws.length:Int):=by omega
    have e2:=c7.out (by omega);subst e2;have cw:=G.keeps (O.out k D);rw[aU]at cw;have a7:et row (ws.take (k+1)) 0=et row (ws.take k) 0++[(ws[k],(row,(k:Int)))]:=by
     rw[aJ D,uG];have:(ws.take k).length=k:=by rw[aX];omega
     rw[this,aU]
     rfl
    have d6:(q++et row (ws.take k) 0).length+1<=1000000:=by
     rw[be,qE,aX];omega
    obtain⟨wd,z⟩:∃wd,ws[k]=wd:=⟨_,rfl⟩;rw[z]at cw a7;have h4:=ae a7;have HO:=ae S;have h5:=ae G;have h6:=ae d6;clear S G a7 d6 z;go_wp2_with(at_builtin;refine Jq (a0:=Q) rfl _ _ rfl _ n (q++et row (ws.take k) 0) rfl HO.out (wd,(row,(k:Int))) rfl h6.out h5.out ?_;intro v8 w8 h7 i0)
    refine⟨⟨k+1,D,by go_num,?_,i0⟩,by simp[intOf];omega⟩;rw[h4.out,<-List.append_assoc];exact h7
   have e3:¬(k:Int)<(ws.length:Int):=by omega
   have d7:ws.take k=ws:=aQ (by omega);rw[d7]at S;have s:=M.out.trans G;have k9:=s.keeps hv;have f9:=(s.frozen 0 (ad hv)).trans g0;have l7:=ad hv;obtain⟨AL,a8⟩:∃AL,q++et row ws 0=AL:=⟨_,rfl⟩;rw[a8]at S;have i1:=ae a8;have h9:jO lo (wr.setCell ⟨J,0,none⟩ u15) J n AL/\ag (fun b=>b=J) w (wr.setCell ⟨J,0,none⟩ u15):=by
    refine⟨⟨⟨_,World.cell?_setCell_same wr ⟨J,0,none⟩ u15 k9,?_⟩,by rw[World.frozen?_setCell];exact f9,d9⟩,(ag.ah s).trans (ag.setCell wr u15 rfl)⟩;exact ownsRow_setCell_other (S.less (by have:=M.out.size;omega)) (fun e=>by
     have:=aP S _ e;have h8:Q.heap.size<=J:=this;have:=M.out.size;omega) u15
   have H9:=ae h9;obtain⟨a9,c9,i2⟩:=S.form;clear S G d7 s h9 a8;subst i2;go_wp2_with fail
   go_ret;exact⟨rfl,by rw[i1.out];exact H9.out.1,H9.out.2⟩
end
section
open Go Go.RowKit Go.Shelf Go.Lib Go.Sort
def nT(b:List bY)(p:ByteArray->Bool):List aa:=(b.filter fun x=>p x.1).map (·.2)
theorem RG(b:List bY)(p:ByteArray->Bool)(i:Nat)(h:i<b.length):nT (b.take (i+1)) p=nT (b.take i) p++if p b[i].1 then[b[i].2]else[]:=by
 unfold nT;rw[aJ h,List.filter_append,List.map_append]
 congr 1
 cases q:p b[i].1 with
 |true=>rw[bC (by simpa using q)];rfl
 |false=>rw[bF (by simp[q])];rfl
theorem BZ(b:List bY)(p:ByteArray->Bool):(nT b p).length<=b.length:=by
 unfold nT;rw[ch];exact bh _ _
theorem WI{lo:Nat}{w:aS}{XB:Nat}{n:ByteArray}{b:List bY}(h:jO lo w XB n b)(c6:b.length<=1000)(g:Nat)(lb:Array bz)(p:ByteArray->Bool)(eg:∀args w,(callFunc g args).run prog w=.ok (.enter g args) w)
   (hp:∀(W:aS) (x:ByteArray),Gr w W->bu prog g (#[.string x]++lb) W (ar W (.bool (p x)))):
   bu prog 57 #[.pointer (some ⟨XB,0,none⟩),.string n,.func (.func g) #[] lb] w fun e V=>∃v,e=.returned v/\dP w V v (setOf af (nT b p))/\Gr w V:=by
 obtain⟨⟨v,hv,Q⟩,_,_⟩:=h;obtain⟨ao,co,b0⟩:=Q.form;subst b0;have b1:=ae Q;have HP:=ae hp;clear Q hp;go_enter func57,ntmps57;go_wp2_with fail
 go_loopw [7,15] (fun ov iv V=>∃i:Nat,i<=b.length/\iv=.int .i64 i/\ci w V ov (nT (b.take i) p)/\Gr w V) (fun _ iv _=>b.length-(intOf iv).toNat)
 case atStart=>exact⟨0,aV _,rfl,World.ownsRow_nil _ _ _ _,Gr.refl _⟩
 case round=>as_aux_lemma=>
  obtain⟨i,hi,rfl,O,D⟩:=hrel;by_cases y:i<b.length
  ·have b2:(i:Int)<(b.length:Int):=by omega
   obtain⟨B,rfl,d6,q⟩:∃B,ao=some ⟨B,0,none⟩/\B<w.heap.size/\(w.cell? ⟨B,i*4,none⟩=some (.string n)/\w.cell? ⟨B,i*4+1,none⟩=some (.string b[i].1)/\w.cell? ⟨B,i*4+2,none⟩=some (.int .i64 b[i].2.1)/\w.cell? ⟨B,i*4+3,none⟩=some (.int .i64 b[i].2.2)):=by
    rcases b1.out.at' with⟨_,e2⟩|⟨B,cap,e,_,_,hb,hh⟩
    ·rw[e2]at y;exact absurd y (by simp)
    cases e;exact⟨B,rfl,hb,hh i y⟩
   have n0:=D.keeps q.1;have n1:=D.keeps q.2.1;have n2:=D.keeps q.2.2.1;have n3:=D.keeps q.2.2.2;have I:=RG b p i y;have Y:=BZ (b.take i) p;rw[aX]at Y;obtain⟨⟨H,L,M⟩,hx⟩:∃x,b[i]=x:=⟨_,rfl⟩;rw[hx]at n1 n2 n3 I;simp only at n1 n2 n3 I;have gA:Gr wr (wr.alloc (.cells #[.string n,.string H,.int .i64 L,.int .i64 M] 114)):=(Gr.refl wr).alloc _;have m0:(wr.alloc (.cells #[.string n,.string H,.int .i64 L,.int .i64 M] 114)).cell? ⟨wr.heap.size,0,none⟩=some (.string n):=by rw[ap];rfl
   have m1:(wr.alloc (.cells #[.string n,.string H,.int .i64 L,.int .i64 M] 114)).cell? ⟨wr.heap.size,1,none⟩=some (.string H):=by rw[ap];rfl
   have m2:(wr.alloc (.cells #[.string n,.string H,.int .i64 L,.int .i64 M] 114)).cell? ⟨wr.heap.size,2,none⟩=some (.int .i64 L):=by rw[ap];rfl
   have m3:(wr.alloc (.cells #[.string n,.string H,.int .i64 L,.int .i64 M] 114)).cell? ⟨wr.heap.size,3,none⟩=some (.int .i64 M):=by rw[ap];rfl
   have d7:(n.toList==n.toList)=true:=by simp
   have Z:=HP.out _ H (D.trans gA);have J:=ae Z;have G:=ae I;have HO:=ae (O.gr gA);have HG:=ae (D.trans gA);obtain⟨US,a1⟩:∃US,nT (b.take i) p=US:=⟨_,rfl⟩;rw[a1]at G HO Y;clear Z I O D gA q hx a1;cases z:p H with
   |true=>
    rw[z,if_pos rfl]at G;rw[z]at J;clear z;go_wp2_with(first
     |(go_at_fn g;refine J.out.mono ?_;rintro e w3 ⟨rfl,s⟩;have m2:=s.keeps m2;have m3:=s.keeps m3;have S:=ae (HO.out.gr s);have U:=ae (HG.out.trans s))
     |(at_builtin;refine uI (a0:=w) rfl _ _ rfl _ US rfl S.out (L,M) rfl (by omega) U.out ?_;intro v8 w8 b3 b4 _))
    exact⟨⟨i+1,y,by go_num,by rw[G.out];exact b3,b4⟩,by simp[intOf];omega⟩
   |false=>
    rw[z,if_neg (by simp),bP]at G;rw[z]at J;clear z;go_wp2_with(go_at_fn g;refine J.out.mono ?_;rintro e w3 ⟨rfl,s⟩;have S:=ae (HO.out.gr s);have U:=ae (HG.out.trans s))
    exact⟨⟨i+1,y,by go_num,by rw[G.out];exact S.out,U.out⟩,by simp[intOf];omega⟩
  have b2:¬(i:Int)<(b.length:Int):=by omega
  have a2:b.take i=b:=aQ (by omega);rw[a2]at O;have a3:=GS w wr _ _ O.own D (by have:=BZ b p;omega);have b5:=ae a3;obtain⟨a9,c9,b6⟩:=O.own.form;clear O D a2 a3;subst b6;go_wp2_with fail
  refine b5.out.mono ?_;rintro e w4 ⟨v4,rfl,a4,a5⟩;have HR:=ae (And.intro a4 a5);clear a4 a5;go_wp2_with fail
  go_ret;exact⟨_,rfl,HR.out.1,HR.out.2⟩
theorem yH(x:ByteArray)(W:aS):bu prog 55 #[.string x] W fun e b=>∃B,e=.returned (.func (.func 56) #[] #[.pointer (some ⟨B,0,none⟩)])/\b.cell? ⟨B,0,none⟩=some (.string x)/\Gr W b:=by
 have g1:Gr W (W.alloc (.cells #[.string x] 9)):=(Gr.refl W).alloc _;have q:=fh W (.string x) 9;go_enter func55,ntmps55;go_wp2_with fail
 go_ret;exact⟨_,rfl,q,g1⟩
theorem RS(x y:ByteArray)(B:Nat)(W:aS)(h:W.cell? ⟨B,0,none⟩=some (.string x)):bu prog 56 #[.string y,.pointer (some ⟨B,0,none⟩)] W (ar W (.bool (decide (y=x)))):=by
 have e:(y.toList==x.toList)=decide (y=x):=by
  by_cases h:y=x
  ·subst h;simp
  rw[decide_eq_false h];have:¬y.toList=x.toList:=fun e=>h (by rw[bX,bX]at e;exact bE e);simpa using this
 go_enter func56,ntmps56;go_wp2_with fail
 go_ret;exact ar.mk (by rw[<-e];rfl) (Gr.refl _)
def df(NL:List bY):ByteArray->List aa:=fun wd=>setOf af (nT NL fun y=>decide (y=wd))
theorem yI{lo:Nat}{w:aS}{XB:Nat}{n:ByteArray}{NL:List bY}(h:jO lo w XB n NL)(b:NL.length<=1000){B:Nat}{x:ByteArray}(s:w.cell? ⟨B,0,none⟩=some (.string x)):
  bu prog 57 #[.pointer (some ⟨XB,0,none⟩),.string n,.func (.func 56) #[] #[.pointer (some ⟨B,0,none⟩)]] w fun e q=>∃v,e=.returned v/\dP w q v (df NL x)/\Gr w q:=
 WI h b _ _ _ (enters_of func56 (by kernel_rfl) rfl) (fun W y g=>RS x y B W (g.keeps s))
theorem Hc(l:List aa)(i:Nat)(h:i<l.length):cC (l.take (i+1))=uN (cC (l.take i)) l[i].1 (cC (l.take i) l[i].1+1):=by
 funext r
 rw[aJ h,uM,yB];have e:cC ([]:List aa) r=0:=rfl;rw[e];unfold uN;by_cases b:r=l[i].1
 ·subst b;rw[if_pos rfl,if_pos rfl]
 rw[if_neg b,if_neg (fun e=>b e.symm)];omega
theorem Uw(NL:List bY)(wd:ByteArray):(df NL wd).length<=NL.length:=az (jc _ _) (BZ _ _)
theorem LV{a b:List aa}(ha:∀p∈a,iD p=true)(q:∀p∈b,iD p=true)(s:bU af a)(y:bU af b):setOf af (dX a b)=kD a b:=follow_eq (gW ha s) (gW q y)
def sR(N:Nat)(a:List aa):Prop:=(∀p∈a,iD p=true)/\bU af a/\a.length<=N
theorem xv{NL:List bY}(s:∀x∈NL,iD x.2=true)(p:ByteArray->Bool):sR NL.length (setOf af (nT NL p)):=by
 refine⟨fun q b=>?_,cx bI _,az (jc _ _) (BZ _ _)⟩;rw[bO]at b;unfold nT at b;obtain⟨y,z,rfl⟩:=cD.1 b;exact s y (bQ.1 z).1
theorem ij{NL:List bY}(b:∀x∈NL,iD x.2=true)(wd:ByteArray):sR NL.length (df NL wd):=xv b _
theorem sR.kD{N:Nat}{a b:List aa}(h:sR N b):sR N (kD a b):=
 ⟨fun p q=>h.1 p (bQ.1 q).1,h.2.1.filter _,az (bh _ _) h.2.2⟩
theorem uT{N:Nat}{L:ByteArray->List aa}(b:∀x,sR N (L x)):∀(ws:List ByteArray) (a:List aa),sR N a->sR N (jg L a ws)
 |[],_,h=>h
 |x::ws,_,_=>uT b ws _ (b x).kD
theorem D3{p:aa}(h:iD p=true):-9223372036854775808<=p.1/\p.1<=9223372036854775807:=by
 simp only[iD,Bool.and_eq_true,decide_eq_true_eq]at h;omega
theorem dz.vC{w:aS}{M n:Nat}{H:Int->Nat}(h:dz w M n H){b o:Nat}{v:bz}(hc:w.cell? ⟨b,o,none⟩=some v):b≠M:=by
 obtain⟨D,⟨y,q,s,z⟩,B⟩:=h;intro e;subst e;simp[World.cell?,s]at hc
theorem D4{c:Nat}(h:c<=1000000):bv.wrap ((c:Int)+1)=((c+1:Nat):Int):=by
 rw[bM];omega
theorem kT.WJ{w:aS}{s:Option Addr}{n c:Nat}{xs:List aa}(h:kT w (.slice s n c) xs){M m:Nat}{H:Int->Nat}(z:dz w M m H)(i:Nat)(hi:i<xs.length):
  ∃b q,s=some ⟨b,q,none⟩/\b≠M/\b<w.heap.size/\w.cell? ⟨b,q+i*2,none⟩=some (.int .i64 xs[i].1)/\w.cell? ⟨b,q+i*2+1,none⟩=some (.int .i64 xs[i].2):=by
 rcases h with⟨_,B⟩|⟨b,q,c,e,D,y⟩
 ·rw[B]at hi;exact absurd hi (by simp)
 cases e;exact⟨b,q,rfl,z.vC (y i hi).1,D,y i hi⟩
section
variable{lo:Nat}{w:aS}{XB:Nat}{n:ByteArray}{NL:List bY}
theorem VX(h:jO lo w XB n NL)(D:NL.length<=1000)(e4:∀x∈NL,iD x.2=true){NB b:Nat}{w0:ByteArray}{ws:List ByteArray}{bg:Int}(hq:ir NB w (.leaf 1 (w0::ws) bg) b)(m8:ws.length<=1000):
  bu prog 13 #[.pointer (some ⟨XB,0,none⟩),.string n,.pointer (some ⟨b,0,none⟩)] w fun e V=>∃M,e=.returned (.map (some M))/\w.heap.size<=M/\dz V M 1000 (cC (jg (df NL) (df NL w0) ws))/\Gr w V:=by
 obtain⟨_,c0,⟨v,c1,ao,cc,bb,rfl,e5,b4⟩,c2,c3⟩:=hq;obtain⟨rfl,_,i5⟩:=e5 (by simp);have m9:=@bB prog;have gA:Gr w (w.alloc (.cells #[.pointer (some ⟨b,0,none⟩)] 23)):=(Gr.refl w).alloc _;have b0:=fh w (.pointer (some ⟨b,0,none⟩)) 23;have a8:=ae h;have i6:=ae b4;have O:=ae e4;have a9:(w0::ws).length=ws.length+1:=rfl;rw[a9]at c1 i5;have n1:(1:Int)<=(cc:Int):=by omega
 have l0:1<=cc:=by omega
 have n2:(0:Int)<((ws.length+1:Nat):Int):=by omega
 have cw:=b4 0 (by simp);rw[aU]at cw;have e6:(w0::ws)[0]'(by simp)=w0:=rfl;rw[e6]at cw;have g2:Gr w ((w.alloc (.cells #[.pointer (some ⟨b,0,none⟩)] 23)).alloc (.map #[] 0)):=gA.alloc _;have d0:=g2.keeps c0;have d1:=g2.keeps c1;have dw:=g2.keeps cw;have db:=((Gr.refl (w.alloc (.cells #[.pointer (some ⟨b,0,none⟩)] 23))).alloc (.map #[] 0)).keeps b0;have H:=dz.made (w.alloc (.cells #[.pointer (some ⟨b,0,none⟩)] 23));rw[bc]at H;have a0:=ae g2;have I:=ae H;clear h b4 e4 e5 a9 e6 gA b0 g2 H;go_enter cF,cj;go_wp2_with fail
 generalize((w.alloc (.cells #[.pointer (some ⟨b,0,none⟩)] 23)).alloc (.map #[] 0))=W2 at*;refine(yH w0 W2).mono ?_;rintro e w3 ⟨B3,rfl,e7,z⟩;have Q:=yI (a8.out.gr (a0.out.trans z)) D e7;have b6:=ae Q;have e8:=ae (a0.out.trans z);have l1:=ae z;clear Q;go_wp2_with fail
 refine b6.out.mono ?_;rintro e w4 ⟨v4,rfl,b7,J⟩;have e0:=J.keeps (z.keeps d0);have e1:=J.keeps (z.keeps d1);have eb:=J.keeps (z.keeps db);have b8:=ae (e8.out.trans J);have b2:=ae ((I.out.gr z).gr J);have e9:=ae (b7.back e8.out);obtain⟨a4,c4,i7⟩:=b7.form;clear b7 J z e7;subst i7;go_wp2_with fail
 all_goals
  have i9:∃Y,Hid (Y=df NL w0):=⟨_,ae rfl⟩;obtain⟨Y,b9⟩:=i9;rw[<-b9.out]at e9⊢;have g0:=uT (fun x=>ij O.out x);have Z:Hid (∀c5,sR NL.length (jg (df NL) Y c5)):=ae fun c5=>g0 c5 Y (by rw[b9.out];exact ij O.out _);obtain⟨M,HM⟩:∃M,Hid (M=w.heap.size+1):=⟨_,ae rfl⟩;rw[<-HM.out]at b2⊢;clear g0 I;go_loopw [9,127] (fun av iv V=>∃i:Nat,i<=ws.length/\iv=.int .i64 i/\dP w V av (jg (df NL) Y (ws.take i))/\Gr w4 V) (fun _ iv _=>ws.length-(intOf iv).toNat)
  case atStart=>exact⟨0,aV _,rfl,e9.out,Gr.refl _⟩
  case round=>as_aux_lemma=>
   obtain⟨i,hi,rfl,S,s⟩:=hrel;by_cases G:i<ws.length
   ·first
     |(exfalso;omega)
     |skip
    all_goals
      have c6:(i:Int)<(ws.length:Int):=by omega
      have cw:=(b8.out.trans s).keeps (i6.out (i+1) (by rw[bj];omega));rw[List.getElem_cons_succ,show 0+(i+1)=1+i by omega]at cw;have q:=uS (df NL) Y ws i G;have B:=Z.out (ws.take i);obtain⟨wd,g3⟩:∃wd,ws[i]=wd:=⟨_,rfl⟩;obtain⟨FA,g4⟩:∃FA,jg (df NL) Y (ws.take i)=FA:=⟨_,rfl⟩;rw[g3]at cw q;rw[g4]at q S B;have d0:=s.keeps e0;have d1:=s.keeps e1;have db:=s.keeps eb;have HO:=ae S;have HG:=ae (b8.out.trans s);have j0:=ae s;have c7:=ae q;have U:=ae B;obtain⟨a1,j1,c8⟩:=S.form;clear S s q g3 g4 B e0 e1 eb;subst c8;go_wp2_with fail
      refine(yH wd wr).mono ?_;rintro e w5 ⟨B5,rfl,c9,d2⟩;have Q:=yI (a8.out.gr (HG.out.trans d2)) D c9;have b6:=ae Q;have g7:=ae d2;clear Q d2 c9;go_wp2_with fail
      refine b6.out.mono ?_;rintro e w6 ⟨v6,rfl,d3,d4⟩;have d5:=Rz FA (df NL wd) _ v6 w6 (HO.out.lZ.gr (g7.out.trans d4)) d3.lZ (az U.out.2.2 D) (az (ij O.out wd).2.2 D);rw[LV U.out.1 (ij O.out wd).1 U.out.2.1 (ij O.out wd).2.1]at d5;have j2:=ae d5;have g9:=ae (g7.out.trans d4);obtain⟨a2,n3,j3⟩:=d3.form;clear d5 d4 d3;subst j3;go_wp2_with fail
      refine j2.out.mono ?_;rintro e w7 ⟨v7,rfl,h0,h1⟩;have HR:=ae (And.intro (h0.back (HG.out.trans g9.out)) (j0.out.trans (g9.out.trans h1)));clear h0 h1;go_wp2_with fail
      exact⟨⟨i+1,G,by go_num,by rw[c7.out];exact HR.out.1,HR.out.2⟩,by simp[intOf];omega⟩
   have c6:¬(i:Int)<(ws.length:Int):=by omega
   have a3:ws.take i=ws:=aQ (by omega);rw[a3]at S;have B:=Z.out ws;obtain⟨y,d6⟩:∃y,jg (df NL) Y ws=y:=⟨_,rfl⟩;rw[d6]at S B;have h2:y.length<=1000:=az B.2.2 D;have h3:=ae h2;have HO:=ae S;have U:=ae B;have j4:=ae d6;have HG:=ae s;have H:=b2.out.gr s;have I:=ae H;obtain⟨a1,j1,c8⟩:=S.form;clear S s B d6 H a3 h2;subst c8;go_wp2_with fail
   obtain⟨w5,d7⟩:∃w5,Hid (w5=wr):=⟨_,ae rfl⟩;rw[<-d7.out]at HO HG I;go_loopw [142] (fun iv V=>∃i:Nat,i<=y.length/\iv=.int .i64 i/\dz V M i (cC (y.take i))/\ag (fun k=>k=M) w5 V) (fun iv _=>y.length-(intOf iv).toNat)
   case atStart=>exact⟨0,aV _,rfl,by rw[<-d7.out];exact I.out,by rw[<-d7.out];exact ag.refl _ _⟩
   case round=>as_aux_lemma=>
    obtain⟨i,hi,rfl,hm,s⟩:=hrel;by_cases G:i<y.length
    ·have c6:(i:Int)<(y.length:Int):=by omega
     obtain⟨b5,l2,rfl,h4,c9,k1,k2⟩:=HO.out.lZ.WJ I.out i G;have k1:=s.keeps h4 k1;have k2:=s.keeps h4 k2;have q:=Hc y i G;have a5:=D3 (U.out.1 _ (bt G));have L:=sP (y.take i) y[i].1;rw[aX]at L;have l3:=h3.out;obtain⟨⟨x1,x2⟩,hx⟩:∃x,y[i]=x:=⟨_,rfl⟩;rw[hx]at k1 k2 q a5 L;simp only at k1 k2 q a5 L;obtain⟨CF,h9⟩:∃CF,cC (y.take i)=CF:=⟨_,rfl⟩;rw[h9]at hm q L;obtain⟨cv,i1⟩:∃cv,CF x1=cv:=⟨_,rfl⟩;rw[i1]at q L;have gA:Gr wr (wr.alloc (.cells #[.int .i64 x1,.int .i64 x2] 104)):=(Gr.refl wr).alloc _;have m1:(wr.alloc (.cells #[.int .i64 x1,.int .i64 x2] 104)).cell? ⟨wr.heap.size,0,none⟩=some (.int .i64 x1):=by
      rw[ap]
      rfl
     have m2:(wr.alloc (.cells #[.int .i64 x1,.int .i64 x2] 104)).cell? ⟨wr.heap.size,1,none⟩=some (.int .i64 x2):=by
      rw[ap]
      rfl
     have d8:=hm.gr gA;have j5:=d8.look a5;rw[i1]at j5;have d9:=ae d8;have j6:=ae (s.trans (ag.ah gA));have c7:=ae q;have l4:=D4 (show cv<=1000000 by omega);have j7:i<1000000:=by omega
     clear hm s d8 q gA hx h9 L;go_wp2_with(refine gH rfl _ _ _ rfl d9.out j7 rfl rfl a5 (val:=cv+1) rfl (b_ _) ?_;intro w8 h8 g8)
     exact⟨⟨i+1,G,by go_num,by rw[c7.out];exact h8,j6.out.trans (ag.ce g8 rfl)⟩,by simp[intOf];omega⟩
    have c6:¬(i:Int)<(y.length:Int):=by omega
    have a3:y.take i=y:=aQ (by omega);rw[a3]at hm;have d9:=ae (hm.mono (show i<=1000 by have:=h3.out;omega));have a0:=ae s;clear hm s;go_wp2_with fail
    go_ret;refine⟨M,rfl,by rw[HM.out];omega,?_,?_⟩
    ·rw[<-b9.out,j4.out];exact d9.out
    exact a0.out.gr (b8.out.trans HG.out) (fun k hk=>by rw[hk,HM.out];omega)
end
theorem Uy{W:aS}{B b q s k:Nat}{x:ByteArray}(y:ByteArray)(z:W.cell? ⟨B,0,none⟩=some (.pointer (some ⟨b,0,none⟩)))(D:W.cell? ⟨b,1,none⟩=some (.slice (some ⟨q,0,none⟩) k s))(G:W.cell? ⟨q,0,none⟩=some (.string x))(H:(0:Int)<(k:Int)):
  bu prog 59 #[.string y,.pointer (some ⟨B,0,none⟩)] W (ar W (.bool (preB x y))):=by
 go_enter func59,ntmps59;go_wp2_with(go_at_call 60;refine(Tryz.strings_HasPrefix _ _ _).mono ?_;rintro e I ⟨rfl,rfl⟩;rw[pu])
 go_ret;exact ar.mk rfl (Gr.refl _)
section
variable{lo:Nat}{w:aS}{XB:Nat}{n:ByteArray}{NL:List bY}
theorem VY(h:jO lo w XB n NL)(O:NL.length<=1000)(a6:∀x∈NL,iD x.2=true){NB b:Nat}{D:ByteArray}{bg:Int}(hq:ir NB w (.leaf 2 [D] bg) b):
   bu prog 13 #[.pointer (some ⟨XB,0,none⟩),.string n,.pointer (some ⟨b,0,none⟩)] w fun e w'=>∃M,e=.returned (.map (some M))/\w.heap.size<=M/\dz w' M 1000 (cC (setOf af (nT NL (preB D))))/\Gr w w':=by
 obtain⟨_,c0,⟨v,c1,ao,cc,bb,rfl,a7,a8⟩,c2,c3⟩:=hq;obtain⟨rfl,_,h5⟩:=a7 (by simp);have h6:=@bB prog;have gA:Gr w (w.alloc (.cells #[.pointer (some ⟨b,0,none⟩)] 23)):=(Gr.refl w).alloc _;have b0:=fh w (.pointer (some ⟨b,0,none⟩)) 23;have d5:=ae a6;have cw:=a8 0 (by simp);rw[aU]at cw;have a9:[D][0]'(by simp)=D:=rfl;rw[a9]at cw;have Q:[D].length=1:=rfl;rw[Q]at c1;have g2:Gr w ((w.alloc (.cells #[.pointer (some ⟨b,0,none⟩)] 23)).alloc (.map #[] 0)):=gA.alloc _;have d0:=g2.keeps c0;have d1:=g2.keeps c1;have dw:=g2.keeps cw;have db:=((Gr.refl (w.alloc (.cells #[.pointer (some ⟨b,0,none⟩)] 23))).alloc (.map #[] 0)).keeps b0;have V:=dz.made (w.alloc (.cells #[.pointer (some ⟨b,0,none⟩)] 23));rw[bc]at V;have G:=ae g2;have b1:=WI (h.gr g2) O 59 #[.pointer (some ⟨w.heap.size,0,none⟩)] (preB D) (enters_of func59 (by kernel_rfl) rfl) (fun W x g=>Uy x (g.keeps db) (g.keeps d1) (g.keeps dw) (by omega));have d6:=ae b1;have z:=ae V;clear h a8 a6 a7 Q a9 gA b0 g2 V b1;go_enter cF,cj;go_wp2_with fail
 refine d6.out.mono ?_;rintro e wr ⟨v4,rfl,H,Y⟩;have b2:=ae (G.out.trans Y);have B:=ae (z.out.gr Y);have I:=xv d5.out (preB D);obtain⟨q,Z⟩:∃q,setOf af (nT NL (preB D))=q:=⟨_,rfl⟩;rw[Z]at H I;have d7:=ae Z;have b3:q.length<=1000:=az I.2.2 O;have b4:=ae b3;have HO:=ae (H.back G.out);have d8:=ae I;obtain⟨M,HM⟩:∃M,Hid (M=w.heap.size+1):=⟨_,ae rfl⟩;rw[<-HM.out]at B⊢;have z:=B;obtain⟨a4,c4,d9⟩:=H.form;clear H Y I Z b3 B;subst d9;go_wp2_with fail
 obtain⟨w5,a0⟩:∃w5,Hid (w5=wr):=⟨_,ae rfl⟩;rw[<-a0.out]at HO b2 z;go_loopw [159] (fun iv w'=>∃i:Nat,i<=q.length/\iv=.int .i64 i/\dz w' M i (cC (q.take i))/\ag (fun k=>k=M) w5 w') (fun iv _=>q.length-(intOf iv).toNat)
 case atStart=>exact⟨0,aV _,rfl,by rw[<-a0.out];exact z.out,by rw[<-a0.out];exact ag.refl _ _⟩
 case round=>as_aux_lemma=>
  obtain⟨i,hi,rfl,S,U⟩:=hrel;by_cases J:i<q.length
  ·have e0:(i:Int)<(q.length:Int):=by omega
   obtain⟨b5,g0,rfl,b6,h7,k1,k2⟩:=HO.out.lZ.WJ z.out i J;have k1:=U.keeps b6 k1;have k2:=U.keeps b6 k2;have s:=Hc q i J;have L:=D3 (d8.out.1 _ (bt J));have y:=sP (q.take i) q[i].1;rw[aX]at y;have g3:=b4.out;obtain⟨⟨x1,x2⟩,hx⟩:∃x,q[i]=x:=⟨_,rfl⟩;rw[hx]at k1 k2 s L y;simp only at k1 k2 s L y;obtain⟨CF,c5⟩:∃CF,cC (q.take i)=CF:=⟨_,rfl⟩;rw[c5]at S s y;obtain⟨cv,c7⟩:∃cv,CF x1=cv:=⟨_,rfl⟩;rw[c7]at s y;have gA:Gr wr (wr.alloc (.cells #[.int .i64 x1,.int .i64 x2] 104)):=(Gr.refl wr).alloc _;have m1:(wr.alloc (.cells #[.int .i64 x1,.int .i64 x2] 104)).cell? ⟨wr.heap.size,0,none⟩=some (.int .i64 x1):=by
    rw[ap]
    rfl
   have m2:(wr.alloc (.cells #[.int .i64 x1,.int .i64 x2] 104)).cell? ⟨wr.heap.size,1,none⟩=some (.int .i64 x2):=by
    rw[ap]
    rfl
   have a1:=S.gr gA;have e1:=a1.look L;rw[c7]at e1;have a2:=ae a1;have e2:=ae (U.trans (ag.ah gA));have e3:=ae s;have g4:=D4 (show cv<=1000000 by omega);have e4:i<1000000:=by omega
   clear S U a1 s gA hx c5 y;go_wp2_with(refine gH rfl _ _ _ rfl a2.out e4 rfl rfl L (val:=cv+1) rfl (b_ _) ?_;intro w8 h8 g8)
   exact⟨⟨i+1,J,by go_num,by rw[e3.out];exact h8,e2.out.trans (ag.ce g8 rfl)⟩,by simp[intOf];omega⟩
  have e0:¬(i:Int)<(q.length:Int):=by omega
  have e5:q.take i=q:=aQ (by omega);rw[e5]at S;have a2:=ae (S.mono (show i<=1000 by have:=b4.out;omega));have G:=ae U;clear S U;go_wp2_with fail
  go_ret;refine⟨M,rfl,by rw[HM.out];omega,?_,?_⟩
  ·rw[d7.out];exact a2.out
  exact G.out.gr b2.out (fun k hk=>by rw[hk,HM.out];omega)
end
def uU(b:List Int)(r:Int):Nat:=if r∈b then 1 else 0
theorem Oz(b:List Int)(i:Nat)(h:i<b.length):uU (b.take (i+1))=uN (uU (b.take i)) b[i] 1:=by
 funext r
 unfold uU uN;have s:r∈b.take (i+1)↔r∈b.take i\/r=b[i]:=by
  rw[aJ h,List.mem_append,List.mem_singleton]
 by_cases y:r=b[i]
 ·subst y;rw[if_pos (s.2 (.inr rfl)),if_pos rfl]
 rw[if_neg y];show _=if r∈b.take i then 1 else 0
 by_cases q:r∈b.take i
 ·rw[if_pos (s.2 (.inl q)),if_pos q]
 rw[if_neg (fun z=>(s.1 z).elim q y),if_neg q]
section
variable{lo:Nat}{w:aS}{XB:Nat}{n:ByteArray}{NL:List bY}
theorem VZ(h:jO lo w XB n NL)(a6:NL.length<=1000)(c7:∀x∈NL,iD x.2=true){NB b:Nat}{y z:ByteArray}{bg:Int}(hq:ir NB w (.leaf 3 [y,z] bg) b):
   bu prog 13 #[.pointer (some ⟨XB,0,none⟩),.string n,.pointer (some ⟨b,0,none⟩)] w fun e w'=>∃M,e=.returned (.map (some M))/\w.heap.size<=M/\dz w' M 1000 (uU (setOf aG (bG 3 (df NL y) (df NL z))))/\Gr w w':=by
 obtain⟨_,c0,⟨v,c1,ao,cc,bb,rfl,c8,a9⟩,c2,c3⟩:=hq;obtain⟨rfl,_,g5⟩:=c8 (by simp);have k8:=@bB prog;have gA:Gr w (w.alloc (.cells #[.pointer (some ⟨b,0,none⟩)] 23)):=(Gr.refl w).alloc _;have b0:=fh w (.pointer (some ⟨b,0,none⟩)) 23;have e3:=ae h;have c9:=ae c7;have cw:=a9 0 (by simp);rw[aU]at cw;have d2:[y,z][0]'(by simp)=y:=rfl;rw[d2]at cw;have a3:=a9 1 (by simp);rw[aU]at a3;have d3:[y,z][1]'(by simp)=z:=rfl;rw[d3]at a3;have a7:[y,z].length=2:=rfl;rw[a7]at c1;have g2:Gr w ((w.alloc (.cells #[.pointer (some ⟨b,0,none⟩)] 23)).alloc (.map #[] 0)):=gA.alloc _;have d0:=g2.keeps c0;have Y1:=g2.keeps c1;have Y2:=g2.keeps cw;have Y3:=g2.keeps a3;have Y0:=((Gr.refl (w.alloc (.cells #[.pointer (some ⟨b,0,none⟩)] 23))).alloc (.map #[] 0)).keeps b0;have b1:=dz.made (w.alloc (.cells #[.pointer (some ⟨b,0,none⟩)] 23));rw[bc]at b1;have g6:=ae g2;have a2:=ae (e3.out.gr g2);have b2:=ae b1;have S:=ij c9.out y;have a4:=ij c9.out z;have g7:=ae S;have g9:=ae a4;have U:=ae a6;obtain⟨s,b3⟩:∃s,setOf aG (fZ 3 (df NL y) (df NL z))=s:=⟨_,rfl⟩;have a1:=b3;rw[T4 (gW S.1 S.2.1) (gW a4.1 a4.2.1)]at a1;have d5:∀r∈s,-9223372036854775808<=r/\r<=9223372036854775807:=by
   intro r hr;rw[<-a1,bO]at hr;unfold bG at hr;obtain⟨p,hp,rfl⟩:=cD.1 hr;exact D3 (S.1 p (bQ.1 hp).1)
 have d6:s.length<=1000:=by
   rw[<-a1];have h1:=jc aG (bG 3 (df NL y) (df NL z));have h2:(bG 3 (df NL y) (df NL z)).length<=(df NL y).length:=by
     unfold bG;rw[ch];exact bh _ _
   have h3:=S.2.2;omega
 have h0:=ae b3;have h4:=ae a1;have h5:=ae d5;have h6:=ae d6;clear h a9 c7 c8 a7 d2 d3 gA b0 g2 b1 S a4 c0 c1 c2 c3 cw a3 a6 g5 b3 a1 d5 d6;go_enter cF,cj;go_wp2_with fail
 generalize((w.alloc (.cells #[.pointer (some ⟨b,0,none⟩)] 23)).alloc (.map #[] 0))=W2 at*;obtain⟨XX,b4⟩:∃XX,Hid (XX=w.heap.size):=⟨_,ae rfl⟩;rw[<-b4.out]at Y0 b2⊢;have q:Gr W2 W2.drew:=(Gr.refl W2).drew;have I:=q.keeps Y0;have J:=q.keeps Y1;have L:=q.keeps Y2;have O:=q.keeps Y3;go_region_held3(fun w'=>w'.cell? ⟨XX,0,none⟩=some (.pointer (some ⟨b,0,none⟩))/\w'.cell? ⟨b,1,none⟩=some (.slice (some ⟨bb,0,none⟩) 2 cc)/\w'.cell? ⟨bb,0,none⟩=some (.string y)/\w'.cell? ⟨bb,1,none⟩=some (.string z)) (first|exact⟨I,J,L,O⟩|exact⟨Y0,Y1,Y2,Y3⟩) (first
   |( go_at_call 55;refine(yH y _).mono ?_;rintro e wA ⟨BA,rfl,h9,V⟩;have q:=q.trans V;have I:=V.keeps I;have J:=V.keeps J;have L:=V.keeps L;have O:=V.keeps O)
   |( go_at_call 55;refine(yH z _).mono ?_;rintro e wB ⟨BB,rfl,i0,D⟩;have q:=q.trans D;have I:=D.keeps I;have J:=D.keeps J;have L:=D.keeps L;have O:=D.keeps O)
   |( go_at_call 57;refine(yI (a2.out.gr q) U.out h9).mono ?_;rintro e wC ⟨vA,rfl,b5,Y⟩;have q:=q.trans Y;have I:=Y.keeps I;have J:=Y.keeps J;have L:=Y.keeps L;have O:=Y.keeps O;obtain⟨aA,cA,i1⟩:=b5.form;subst i1;have d8:=b5.lZ;clear b5)
   |( go_at_call 57;refine(yI (a2.out.gr q) U.out i0).mono ?_;rintro e wD ⟨vB,rfl,b6,G⟩;have q:=q.trans G;have I:=G.keeps I;have J:=G.keeps J;have L:=G.keeps L;have O:=G.keeps O;obtain⟨aB,cB,i2⟩:=b6.form;subst i2;have d9:=b6.lZ;clear b6)
   |( go_at_call 61;refine(VE (df NL y) (df NL z) _ _ 3 _ (d8.gr (D.trans G)) d9 (az g7.out.2.2 U.out) (az g9.out.2.2 U.out)).mono ?_;rintro e wN ⟨vN,rfl,a5,Z⟩;have q:=q.trans Z;have I:=Z.keeps I;have J:=Z.keeps J;have L:=Z.keeps L;have O:=Z.keeps O;rw[h0.out]at a5;obtain⟨aN,cN,i3⟩:=a5.form;subst i3))
 obtain⟨M,HM⟩:∃M,Hid (M=XX+1):=⟨_,ae rfl⟩;rw[<-HM.out]at b2⊢;have HN:=ae a5;have HG:=ae q;have b7:=ae (b2.out.gr q);clear a5 q Z V D Y G d8 d9 I J L O Y0 Y1 Y2 Y3;go_wp2_with fail
 obtain⟨w5,b8⟩:∃w5,Hid (w5=wN):=⟨_,ae rfl⟩;rw[<-b8.out]at HN HG b7;have j5:=h6.out;go_loopw [195] (fun iv w'=>∃i:Nat,i<=s.length/\iv=.int .i64 i/\dz w' M i (uU (s.take i))/\ag (fun k=>k=M) w5 w') (fun iv _=>s.length-(intOf iv).toNat)
 case atStart=>exact⟨0,aV _,rfl,by rw[<-b8.out];exact b7.out,by rw[<-b8.out];exact ag.refl _ _⟩
 case round=>as_aux_lemma=>
  obtain⟨i,hi,rfl,hm,hg⟩:=hrel;by_cases H:i<s.length
  · have i4:(i:Int)<(s.length:Int):=by omega
    obtain⟨B3,rfl,Q⟩:∃B3,aN=some ⟨B3,0,none⟩/\w5.cell? ⟨B3,i,none⟩=some (.int .i64 s[i]):=by
      rcases HN.out with⟨_,e2⟩|⟨B,cap,e,_,_,_,hh⟩
      ·rw[e2]at H;exact absurd H (by simp)
      cases e;have h7:=(hh i (by simpa using H)).1;rw[aU]at h7;exact⟨B,rfl,by simpa[H]using h7⟩
    have i5:=hg.keeps (b7.out.vC Q) Q;have b9:=Oz s i H;have e1:=h5.out _ (bt H);obtain⟨r,hr⟩:∃r,s[i]=r:=⟨_,rfl⟩;rw[hr]at i5 b9 e1;have c4:=ae hm;have i6:=ae hg;have i7:=ae b9;have i9:i<1000000:=by omega
    clear hm hg b9 hr Q;go_wp2_with(refine gH rfl _ _ _ rfl c4.out i9 rfl rfl e1 (val:=1) rfl (b_ _) ?_;intro w8 h8 g8)
    exact⟨⟨i+1,H,by go_num,by rw[i7.out];exact h8,i6.out.trans (ag.ce g8 rfl)⟩,by simp[intOf];omega⟩
  have i4:¬(i:Int)<(s.length:Int):=by omega
  have j0:s.take i=s:=aQ (by omega);rw[j0]at hm;have c4:=ae (hm.mono (show i<=1000 by omega));have e4:=ae hg;clear hm hg;go_wp2_with fail
  go_ret;refine⟨M,rfl,by rw[HM.out,b4.out];omega,?_,?_⟩
  · rw[h4.out]
    exact c4.out
  exact e4.out.gr (g6.out.trans HG.out) (fun k hk=>by rw[hk,HM.out,b4.out];omega)
end
end
section
open Go Go.RowKit Go.Shelf Go.Lib Go.Sort Go.Maps
theorem dz.congr{w:aS}{M n:Nat}{H b:Int->Nat}(h:dz w M n H)(e:∀r,kj.ok r->H r=b r):dz w M n b:=by
 obtain⟨D,s,y⟩:=h;refine⟨D,s,fun k q=>?_⟩;have:=y k q;unfold cntF at this⊢;rw[e k q]at this;exact this
theorem V0{k:Int}(h:kj.ok k):-9223372036854775808<=k/\k<=9223372036854775807:=by
 have h:(Lit.int .i64 k).wf=true:=h;simp[Lit.wf,IntKind.min,IntKind.max,cL,cK]at h;omega
theorem sS{H:Int->Nat}{k:Int}{v:bz}(h:cntF H k=some v):0<H k/\v=.int .i64 (H k:Int):=by
 unfold cntF at h
 split at h
 ·cases h
 cases h;exact⟨by omega,rfl⟩
def pM(kind:Int)(a b:Nat):Nat:=if(kind=4/\0<b)\/kind=5 then a+b else if kind=6/\b=0 then a else 0
def gA(kind:Int)(b q:Int->Nat)(left:Int->Bool)(r:Int):Nat:=if left r=true\/b r=0 then 0 else pM kind (b r) (q r)
def jB(left:Int->Bool)(k:Int):Int->Bool:=fun x=>left x&&!decide (x=k)
theorem uV(left:Int->Bool)(k:Int):jB left k k=false:=by simp[jB]
theorem sT{left:Int->Bool}{k r:Int}(h:r≠k):jB left k r=left r:=by simp[jB,h]
theorem JE{kind:Int}{b q:Int->Nat}{left:Int->Bool}{k:Int}{v:Nat}(hA:0<b k)(hv:pM kind (b k) (q k)=v):gA kind b q (jB left k)=uN (gA kind b q left) k v:=by
 funext r
 unfold uN;by_cases e:r=k
 ·subst e;rw[if_pos rfl];unfold gA;rw[uV,if_neg (by simp;omega),hv]
 rw[if_neg e];unfold gA;rw[sT e]
theorem LX{kind:Int}{b q:Int->Nat}{left:Int->Bool}{k:Int}(s:left k=true)(hv:pM kind (b k) (q k)=0):gA kind b q (jB left k)=gA kind b q left:=by
 funext r
 by_cases e:r=k
 ·subst e;unfold gA;rw[uV,if_pos (show left r=true\/b r=0 from .inl s)]
  split
  ·rfl
  exact hv
 unfold gA;rw[sT e]
def gB(q b G:Int->Nat)(left:Int->Bool)(r:Int):Nat:=if left r=true\/b r=0 then G r else q r+b r
theorem V6{q b G:Int->Nat}{left:Int->Bool}{k:Int}{v:Nat}(s:0<b k)(hv:q k+b k=v):gB q b G (jB left k)=uN (gB q b G left) k v:=by
 funext r
 unfold uN;by_cases e:r=k
 ·subst e;rw[if_pos rfl];unfold gB;rw[uV,if_neg (by simp;omega),hv]
 rw[if_neg e];unfold gB;rw[sT e]
theorem He(kind:Int)(b q:Int->Nat):(fun _=>0)=gA kind b q (fun k=>(cntF b k).isSome):=by
 funext r
 unfold gA cntF;by_cases h:b r=0
 ·rw[if_pos (.inr h)]
 rw[if_pos (.inl (by simp[h]))]
theorem RX(q b G:Int->Nat):G=gB q b G (fun k=>(cntF b k).isSome):=by
 funext r
 unfold gB cntF;by_cases h:b r=0
 ·rw[if_pos (.inr h)]
 rw[if_pos (.inl (by simp[h]))]
theorem Xr(a b:Nat):pM 4 a b=if 0<b then a+b else 0:=by
 unfold pM;by_cases h:0<b<;>simp[h]
theorem Yy(a b:Nat):pM 5 a b=a+b:=by
 unfold pM;simp
theorem Xs(a b:Nat):pM 6 a b=if b=0 then a else 0:=by
 unfold pM;simp
theorem ZT(a b:Nat):eI 4 a b=if 0<a/\0<b then a+b else 0:=rfl
theorem ZU(a b:Nat):eI 5 a b=a+b:=rfl
theorem ZV(a b:Nat):eI 6 a b=if b=0 then a else 0:=rfl
theorem JF(kind:Int)(b q:Int->Nat){left:Int->Bool}{r:Int}(s:left r=false):gA kind b q left r=if b r=0 then 0 else pM kind (b r) (q r):=by
 unfold gA;rw[s];by_cases h:b r=0
 ·rw[if_pos (.inr h),if_pos h]
 rw[if_neg (by simp[h]),if_neg h]
theorem V7(q b G:Int->Nat){left:Int->Bool}{r:Int}(s:left r=false):gB q b G left r=if b r=0 then G r else q r+b r:=by
 unfold gB;rw[s];by_cases h:b r=0
 ·rw[if_pos (.inr h),if_pos h]
 rw[if_neg (by simp[h]),if_neg h]
theorem Uz{q s:Int->Nat}{left:Int->Bool}{r:Int}(z:left r=false):gA 4 q s left r=eI 4 (q r) (s r):=by
 rw[JF 4 q s z,Xr,ZT];generalize q r=a;generalize s r=b;by_cases ha:a=0
 ·rw[if_pos ha,if_neg (by omega)]
 by_cases y:0<b
 ·rw[if_neg ha,if_pos y,if_pos ⟨by omega,y⟩]
 rw[if_neg ha,if_neg y,if_neg (by omega)]
theorem UA{q s:Int->Nat}{left:Int->Bool}{r:Int}(y:left r=false):gA 6 q s left r=eI 6 (q r) (s r):=by
 rw[JF 6 q s y,Xs,ZV];generalize q r=a;generalize s r=b;by_cases ha:a=0
 ·rw[if_pos ha,ha]
  split<;>rfl
 rw[if_neg ha]
theorem V8{s y:Int->Nat}{left q:Int->Bool}{r:Int}(D:left r=false)(B:q r=false):gB s y (gA 5 s y left) q r=eI 5 (s r) (y r):=by
 rw[V7 s y _ B,JF 5 s y D,Yy,ZU];generalize s r=a;generalize y r=b;by_cases z:b=0
 ·rw[if_pos z,z]
  split
  ·omega
  rfl
 rw[if_neg z]
theorem zT{a b:Nat}(h:a+b<=1000000):bv.wrap ((a:Int)+(b:Int))=((a+b:Nat):Int):=by
 rw[bM];omega
section
variable{w:aS}{XB:Nat}{n:ByteArray}
theorem PQ{K:Int}(J:K=4\/K=6){b bl br nA nB:Nat}{Q G:Int->Nat}(c0:w.cell? ⟨b,0,none⟩=some (.int .i64 K))(c2:w.cell? ⟨b,2,none⟩=some (.pointer (some ⟨bl,0,none⟩)))(c3:w.cell? ⟨b,3,none⟩=some (.pointer (some ⟨br,0,none⟩)))
  (hl:∀W,Gr w W->bu prog 13 #[.pointer (some ⟨XB,0,none⟩),.string n,.pointer (some ⟨bl,0,none⟩)] W fun e z=>∃M,e=.returned (.map (some M))/\W.heap.size<=M/\dz z M nA Q/\Gr W z)
  (hr:∀W,Gr w W->bu prog 13 #[.pointer (some ⟨XB,0,none⟩),.string n,.pointer (some ⟨br,0,none⟩)] W fun e z=>∃M,e=.returned (.map (some M))/\W.heap.size<=M/\dz z M nB G/\Gr W z)
  (hn:nA+nB<1000000) (d8:∀r,Q r+G r<=1000000):
  bu prog 13 #[.pointer (some ⟨XB,0,none⟩),.string n,.pointer (some ⟨b,0,none⟩)] w fun e z=>∃M,e=.returned (.map (some M))/\w.heap.size<=M/\dz z M (nA+nB) (fun r=>eI K (Q r) (G r))/\Gr w z:=by
 rcases J with J|J
 all_goals
  rw[J]at c0;have H0:=ae J;clear J;have p9:=@bB prog;have gA:Gr w (w.alloc (.cells #[.pointer (some ⟨b,0,none⟩)] 23)):=(Gr.refl w).alloc _;have b0:=fh w (.pointer (some ⟨b,0,none⟩)) 23;have g2:Gr w ((w.alloc (.cells #[.pointer (some ⟨b,0,none⟩)] 23)).alloc (.map #[] 0)):=gA.alloc _;have d0:=g2.keeps c0;have Y2:=g2.keeps c2;have Y3:=g2.keeps c3;have Y0:=((Gr.refl (w.alloc (.cells #[.pointer (some ⟨b,0,none⟩)] 23))).alloc (.map #[] 0)).keeps b0;have e5:=dz.made (w.alloc (.cells #[.pointer (some ⟨b,0,none⟩)] 23));rw[bc]at e5;have e6:=ae g2;have d3:=ae e5;have HL:=ae hl;have HR:=ae hr;have HN:=ae hn;have k2:=ae d8;clear hl hr hn d8 gA b0 g2 e5 c0 c2 c3;go_enter cF,cj;go_wp2_with fail
  generalize((w.alloc (.cells #[.pointer (some ⟨b,0,none⟩)] 23)).alloc (.map #[] 0))=W2 at*;obtain⟨XX,d4⟩:∃XX,Hid (XX=w.heap.size):=⟨_,ae rfl⟩;rw[<-d4.out]at Y0 d3⊢;have Y:Gr W2 W2.drew:=(Gr.refl W2).drew;have y0:=Y.keeps Y0;have y2:=Y.keeps Y2;have y3:=Y.keeps Y3;go_region_held3(fun z=>z.cell? ⟨XX,0,none⟩=some (.pointer (some ⟨b,0,none⟩))/\z.cell? ⟨b,2,none⟩=some (.pointer (some ⟨bl,0,none⟩))/\z.cell? ⟨b,3,none⟩=some (.pointer (some ⟨br,0,none⟩))) (first|exact⟨y0,y2,y3⟩|exact⟨Y0,Y2,Y3⟩) (first
    |( go_at_call 13;have k3:=e7;clear k3;refine(HR.out _ (e6.out.trans Y)).mono ?_;rintro e wB ⟨MB,rfl,i7,i9,a4⟩;have Y:=Y.trans a4;have y0:=a4.keeps y0;have y2:=a4.keeps y2;have y3:=a4.keeps y3)
    |( go_at_call 13;refine(HL.out _ (e6.out.trans Y)).mono ?_;rintro e wA ⟨MA,rfl,j0,e7,a5⟩;have Y:=Y.trans a5;have y0:=a5.keeps y0;have y2:=a5.keeps y2;have y3:=a5.keeps y3))
  obtain⟨M,HM⟩:∃M,Hid (M=XX+1):=⟨_,ae rfl⟩;rw[<-HM.out]at d3⊢;have k0:=y0;have k1:=Y.keeps d0;have HG:=ae Y;have j2:=ae (e7.gr a4);have a6:=ae i9;have d5:=ae (d3.out.gr Y);have l9:=ae (And.intro d3.out.lt (And.intro (show W2.heap.size<=MA from az (by simp) j0) (show W2.heap.size<=MB from az (az (by simp) a5.size) i7)));clear Y a5 a4 e7 i9 j0 i7 y0 y2 y3 Y0 Y2 Y3 d0;obtain⟨wS,j3⟩:∃wS,Hid (wS=wB):=⟨_,ae rfl⟩;rw[<-j3.out]at HG j2 a6 d5 k0 k1;obtain⟨H,e8⟩:∃H,Hid (H=wS.heap.size):=⟨_,ae rfl⟩;rw[<-j3.out];go_wp2_with(at_range;refine lU mH rfl _ rfl j2.out rfl ?_;intro w4 o8 e9 a7 m2 j4)
  rw[<-e8.out]at e9⊢;have c4:Gr wS w4:=⟨a7.os,a7.tape,a7.output,a7.size,fun k J=>a7.block k J (by simp)⟩;have m3:=ae (show ag (fun b=>b=M\/b=H) wS w4 from ag.ah c4);have m4:=ae e9;have m5:=ae (d5.out.gr c4);have m6:=ae j4;have q:Hid (MA≠M/\MB≠M/\H≠M/\MB≠H/\b≠M/\b≠H/\XX≠M/\XX≠H):=ae (by
    have h1:=l9.out;have h2:=HG.out.size;have h3:=e8.out;have h4:=a6.out.lt;have h5:=ad k0;have h6:=ad k1;have h7:=d5.out.vC k0;have h8:=d5.out.vC k1;omega)
  clear e9 a7 m2 c4 j4;go_frame;go_loopw [45] (fun _ z=>∃left Z m,dB kj z MA H nA (cntF Q) left Z/\dz z M m (gA K Q G left)/\m+Z<=nA/\ag (fun b=>b=M\/b=H) wS z) (fun _ z=>z.rangeLeft MA H)
  case atStart=>exact⟨_,_,0,m4.out,by rw[<-He];exact m5.out,by have:=m6.out;omega,m3.out⟩
  case round=>as_aux_lemma=>
   obtain⟨left,Z,m,L,b5,d6,hx⟩:=hrel;have U:=ae L;have y:=ae b5;have a8:=ae hx;have g0:=ae d6;have m0:=hx.keeps (fun h=>h.elim q.out.2.2.2.2.2.2.1 q.out.2.2.2.2.2.2.2) k0;have m1:=hx.keeps (fun h=>h.elim q.out.2.2.2.2.1 q.out.2.2.2.2.2.1) k1;clear b5 hx d6 k0 k1;go_wp2_with(at_next;refine kB (kk:=kj) rfl _ rfl rfl L ?_ ?_)
   · intro _ j6
     have g3:=ae j6;obtain⟨a2,m7⟩:∃a2,Hid (a2=left):=⟨_,ae rfl⟩;rw[<-m7.out]at g3 y;have e3:Hid (dz wr MB nB G):=ae (a6.out.block (a8.out.block a6.out.lt (fun h=>h.elim q.out.2.1 q.out.2.2.2.1)));clear L j6;obtain⟨wT,j7⟩:∃wT,Hid (wT=wr):=⟨_,ae rfl⟩;rw[<-j7.out]at a8 e3 y U m0 m1;obtain⟨B,c5⟩:∃B,Hid (B=wT.heap.size):=⟨_,ae rfl⟩;rw[<-j7.out];have c6:Hid (dz wT MA nA Q):=ae U.out.map;go_wp2_with(at_range;refine lU mH rfl _ rfl e3.out rfl ?_;intro w5 o9 g4 a9 m8 j8)
     rw[<-c5.out]at g4⊢;have c7:Gr wT w5:=⟨a9.os,a9.tape,a9.output,a9.size,fun k J=>a9.block k J (by simp)⟩;have m9:=ae (show ag (fun b=>b=M\/b=B) wT w5 from ag.ah c7);have n2:=ae g4;have n3:=ae (y.out.gr c7);have n4:=ae j8;have n5:=q;have q:Hid (MB≠M/\MA≠M/\B≠M/\MA≠B/\b≠M/\b≠B/\XX≠M/\XX≠B):=ae (by
       have h1:=n5.out;have h2:=y.out.lt;have h3:=c5.out;have h4:=c6.out.lt;have h5:=ad m0;have h6:=ad m1;omega)
     clear g4 a9 m8 c7 j8;go_frame;go_loopw [91] (fun _ z=>∃left Z m,dB kj z MB B nB (cntF G) left Z/\dz z M m (gA K Q G a2)/\m+Z<=nA+nB/\ag (fun b=>b=M\/b=B) wT z) (fun _ z=>z.rangeLeft MB B)
     case atStart=>exact⟨_,_,m,n2.out,n3.out,by have:=n4.out;have:=g0.out;omega,m9.out⟩
     case round=>as_aux_lemma=>
      obtain⟨left,Z,m,L,b5,d6,hx⟩:=hrel;have U:=ae L;have y:=ae b5;have e4:=ae hx;have n0:=hx.keeps (fun h=>h.elim q.out.2.2.2.2.2.2.1 q.out.2.2.2.2.2.2.2) m0;have n1:=hx.keeps (fun h=>h.elim q.out.2.2.2.2.1 q.out.2.2.2.2.2.1) m1;clear b5 hx m0 m1;go_wp2_with(at_next;refine kB (kk:=kj) rfl _ rfl rfl L ?_ ?_)
      ·intro _ g5;clear L;have n6:=ae (y.out.mono (show m<=nA+nB by omega));have j9:Gr w wr:=by
        have g1:Gr w wS:=e6.out.trans HG.out;have g2:Gr w wT:=a8.out.gr g1 (fun j e=>by
         have h1:=HM.out;have h2:=d4.out;have h3:=e8.out;have h4:=g1.size;omega)
        exact e4.out.gr g2 (fun j e=>by
         have h1:=HM.out;have h2:=d4.out;have h3:=c5.out;have h4:=g2.size;omega)
       have n7:=ae j9;have n8:=ae g5;clear j9 g5;go_wp2_with fail
       go_ret;refine⟨M,rfl,by rw[HM.out,d4.out];omega,?_,n7.out⟩;have g5:=n8.out;exact dz.congr n6.out fun r hr=>(by rw[H0.out];first|exact Uz (g3.out r hr)|exact UA (g3.out r hr))
      intro k v wn D J g6 hF b7 b1 a0 g7 b8;obtain⟨g9,rfl⟩:=sS hF;have b9:=V0 J;have O:ag (fun b=>b=M\/b=B) wr wn:=ag.ce a0 (.inr rfl);have V:=ae (e4.out.trans O);have p0:=O.keeps (fun h=>h.elim q.out.2.2.2.2.2.2.1 q.out.2.2.2.2.2.2.2) n0;have p1:=O.keeps (fun h=>h.elim q.out.2.2.2.2.1 q.out.2.2.2.2.2.1) n1;have b2:=ae (show dz wn M m _ from y.out.block (a0.block M y.out.lt (fun e=>q.out.2.2.1 (ak e).symm)));have c1:=c6.out.block (V.out.block c6.out.lt (fun h=>h.elim q.out.2.1 q.out.2.2.2.1));have k4:=dz.look c1 b9;have s:Hid (dB kj wn MB B nB (cntF G) (jB left k) D):=ae b7;have h0:m<1000000:=by have:=HN.out;omega
      replace b8:(bT (.pointer (some ⟨B,0,none⟩))).run prog wn=.ok (.tuple #[.int .i64 k,.int .i64 (G k:Int)]) wn:=b8;rw[show kj.kv k=cg .i64 k from rfl];clear L hF b7 a0 O c1 J g7 n0 n1;go_wp2_with fail
      refine⟨⟨jB left k,D,m,s.out,b2.out,by omega,V.out⟩,?_⟩;rw[s.out.left_eq,U.out.left_eq];exact b1
   intro k v wn D J g6 hF b7 b1 a0 g7 b8;obtain⟨g9,rfl⟩:=sS hF;have b9:=V0 J;have O:ag (fun b=>b=M\/b=H) wr wn:=ag.ce a0 (.inr rfl);have V:=ae (a8.out.trans O);have p0:=O.keeps (fun h=>h.elim q.out.2.2.2.2.2.2.1 q.out.2.2.2.2.2.2.2) m0;have p1:=O.keeps (fun h=>h.elim q.out.2.2.2.2.1 q.out.2.2.2.2.2.1) m1;have b2:=ae (show dz wn M m (gA K Q G left)from y.out.block (a0.block M y.out.lt (fun e=>q.out.2.2.1 (ak e).symm)));have c1:=a6.out.block (V.out.block a6.out.lt (fun h=>h.elim q.out.2.1 q.out.2.2.2.1));have k4:=dz.look c1 b9;have s:Hid (dB kj wn MA H nA (cntF Q) (jB left k) D):=ae b7;have h0:m<1000000:=by have:=HN.out;have:=g0.out;omega
   have d6:=g0.out;replace b8:(bT (.pointer (some ⟨H,0,none⟩))).run prog wn=.ok (.tuple #[.int .i64 k,.int .i64 (Q k:Int)]) wn:=b8;rw[show kj.kv k=cg .i64 k from rfl];clear L hF b7 a0 O c1 J g7 m0 m1
   first
     |have e:=ae (H0.out:K=4)
      by_cases b3:0<G k
      ·have h9:(0:Int)<(G k:Int):=by omega
       have q0:bv.wrap ((Q k:Int)+(G k:Int))=((Q k+G k:Nat):Int):=zT (k2.out k);go_wp2_with(at_mapUpdate;refine gH rfl _ _ _ rfl b2.out h0 rfl rfl b9 (val:=Q k+G k) rfl (by omega) ?_;intro w8 h8 I;have s0:=(ag.ce (S:=fun b=>b=M) I rfl).keeps q.out.2.2.2.2.2.2.1 p0;have s1:=(ag.ce (S:=fun b=>b=M) I rfl).keeps q.out.2.2.2.2.1 p1)
       have i0:ag (fun b=>b=M\/b=H) wS w8:=V.out.trans (ag.ce I (.inl rfl));have n9:=fun(j:Nat) (hj:j≠M)=>I.block j;refine⟨⟨jB left k,D,m+1,s.out.blocks (I.block MA s.out.map.lt (fun e=>q.out.1 (ak e))) (I.block H s.out.lt (fun e=>q.out.2.2.1 (ak e))),by rw[JE g9 (by rw[e.out,Xr,if_pos b3])];exact h8,by omega,i0⟩,?_⟩;rw[(s.out.blocks (I.block MA s.out.map.lt (fun e=>q.out.1 (ak e))) (I.block H s.out.lt (fun e=>q.out.2.2.1 (ak e)))).left_eq,U.out.left_eq];exact b1
      have h9:¬(0:Int)<(G k:Int):=by omega
      go_wp2_with fail
      refine⟨⟨jB left k,D,m,s.out,by rw[LX g6 (by rw[e.out,Xr,if_neg b3])];exact b2.out,by omega,V.out⟩,?_⟩;rw[s.out.left_eq,U.out.left_eq];exact b1
     |have e:=ae (H0.out:K=6)
      by_cases b3:G k=0
      ·have h9:((G k:Int)==0)=true:=by simp[b3]
       go_wp2_with(at_mapUpdate;refine gH rfl _ _ _ rfl b2.out h0 rfl rfl b9 (val:=Q k) rfl (by omega) ?_;intro w8 h8 I;have s0:=(ag.ce (S:=fun b=>b=M) I rfl).keeps q.out.2.2.2.2.2.2.1 p0;have s1:=(ag.ce (S:=fun b=>b=M) I rfl).keeps q.out.2.2.2.2.1 p1)
       go_frame;go_big_round;have i0:ag (fun b=>b=M\/b=H) wS w8:=V.out.trans (ag.ce I (.inl rfl));have n9:=fun(j:Nat) (hj:j≠M)=>I.block j;refine⟨⟨jB left k,D,m+1,s.out.blocks (I.block MA s.out.map.lt (fun e=>q.out.1 (ak e))) (I.block H s.out.lt (fun e=>q.out.2.2.1 (ak e))),by rw[JE g9 (by rw[e.out,Xs,if_pos b3])];exact h8,by omega,i0⟩,?_⟩;rw[(s.out.blocks (I.block MA s.out.map.lt (fun e=>q.out.1 (ak e))) (I.block H s.out.lt (fun e=>q.out.2.2.1 (ak e)))).left_eq,U.out.left_eq];exact b1
      have h9:((G k:Int)==0)=false:=by simp;omega
      go_wp2_with fail
      refine⟨⟨jB left k,D,m,s.out,by rw[LX g6 (by rw[e.out,Xs,if_neg b3])];exact b2.out,by omega,V.out⟩,?_⟩;rw[s.out.left_eq,U.out.left_eq];exact b1
end
section
variable{w:aS}{XB:Nat}{n:ByteArray}
theorem V9{b bl br nA nB:Nat}{B D:Int->Nat}(c0:w.cell? ⟨b,0,none⟩=some (.int .i64 5))(c2:w.cell? ⟨b,2,none⟩=some (.pointer (some ⟨bl,0,none⟩)))(c3:w.cell? ⟨b,3,none⟩=some (.pointer (some ⟨br,0,none⟩)))
   (hl:∀W,Gr w W->bu prog 13 #[.pointer (some ⟨XB,0,none⟩),.string n,.pointer (some ⟨bl,0,none⟩)] W fun e z=>∃M,e=.returned (.map (some M))/\W.heap.size<=M/\dz z M nA B/\Gr W z)
   (hr:∀W,Gr w W->bu prog 13 #[.pointer (some ⟨XB,0,none⟩),.string n,.pointer (some ⟨br,0,none⟩)] W fun e z=>∃M,e=.returned (.map (some M))/\W.heap.size<=M/\dz z M nB D/\Gr W z)
   (hn:nA+nB<1000000) (d8:∀r,B r+D r<=1000000):
   bu prog 13 #[.pointer (some ⟨XB,0,none⟩),.string n,.pointer (some ⟨b,0,none⟩)] w fun e z=>∃M,e=.returned (.map (some M))/\w.heap.size<=M/\dz z M (nA+nB) (fun r=>eI 5 (B r) (D r))/\Gr w z:=by
 have p9:=@bB prog;have gA:Gr w (w.alloc (.cells #[.pointer (some ⟨b,0,none⟩)] 23)):=(Gr.refl w).alloc _;have b0:=fh w (.pointer (some ⟨b,0,none⟩)) 23;have g2:Gr w ((w.alloc (.cells #[.pointer (some ⟨b,0,none⟩)] 23)).alloc (.map #[] 0)):=gA.alloc _;have d0:=g2.keeps c0;have Y2:=g2.keeps c2;have Y3:=g2.keeps c3;have Y0:=((Gr.refl (w.alloc (.cells #[.pointer (some ⟨b,0,none⟩)] 23))).alloc (.map #[] 0)).keeps b0;have e6:=dz.made (w.alloc (.cells #[.pointer (some ⟨b,0,none⟩)] 23));rw[bc]at e6;have e7:=ae g2;have d2:=ae e6;have HL:=ae hl;have HR:=ae hr;have HN:=ae hn;have d9:=ae d8;clear hl hr hn d8 gA b0 g2 e6 c0 c2 c3;go_enter cF,cj;go_wp2_with fail
 generalize((w.alloc (.cells #[.pointer (some ⟨b,0,none⟩)] 23)).alloc (.map #[] 0))=W2 at*;obtain⟨XX,d3⟩:∃XX,Hid (XX=w.heap.size):=⟨_,ae rfl⟩;rw[<-d3.out]at Y0 d2⊢;have L:Gr W2 W2.drew:=(Gr.refl W2).drew;have y0:=L.keeps Y0;have y2:=L.keeps Y2;have y3:=L.keeps Y3;go_region_held3(fun z=>z.cell? ⟨XX,0,none⟩=some (.pointer (some ⟨b,0,none⟩))/\z.cell? ⟨b,2,none⟩=some (.pointer (some ⟨bl,0,none⟩))/\z.cell? ⟨b,3,none⟩=some (.pointer (some ⟨br,0,none⟩))) (first|exact⟨y0,y2,y3⟩|exact⟨Y0,Y2,Y3⟩) (first
   |( go_at_call 13;have k5:=e8;clear k5;refine(HR.out _ (e7.out.trans L)).mono ?_;rintro e wB ⟨MB,rfl,i9,j0,a1⟩;have L:=L.trans a1;have y0:=a1.keeps y0;have y2:=a1.keeps y2;have y3:=a1.keeps y3)
   |( go_at_call 13;refine(HL.out _ (e7.out.trans L)).mono ?_;rintro e wA ⟨MA,rfl,j1,e8,a2⟩;have L:=L.trans a2;have y0:=a2.keeps y0;have y2:=a2.keeps y2;have y3:=a2.keeps y3))
 obtain⟨M,HM⟩:∃M,Hid (M=XX+1):=⟨_,ae rfl⟩;rw[<-HM.out]at d2⊢;have k0:=y0;have k1:=L.keeps d0;have HG:=ae L;have j3:=ae (e8.gr a1);have a3:=ae j0;have d4:=ae (d2.out.gr L);have l7:=ae (And.intro d2.out.lt (And.intro (show W2.heap.size<=MA from az (by simp) j1) (show W2.heap.size<=MB from az (az (by simp) a2.size) i9)));clear L a2 a1 e8 j0 j1 i9 y0 y2 y3 Y0 Y2 Y3 d0;obtain⟨wS,j4⟩:∃wS,Hid (wS=wB):=⟨_,ae rfl⟩;rw[<-j4.out]at HG j3 a3 d4 k0 k1;obtain⟨H,e9⟩:∃H,Hid (H=wS.heap.size):=⟨_,ae rfl⟩;rw[<-j4.out];go_wp2_with(at_range;refine lU mH rfl _ rfl j3.out rfl ?_;intro w4 p3 g0 a4 l8 j5)
 rw[<-e9.out]at g0⊢;have c5:Gr wS w4:=⟨a4.os,a4.tape,a4.output,a4.size,fun k hk=>a4.block k hk (by simp)⟩;have l9:=ae (show ag (fun b=>b=M\/b=H) wS w4 from ag.ah c5);have m2:=ae g0;have m3:=ae (d4.out.gr c5);have m4:=ae j5;have q:Hid (MA≠M/\MB≠M/\H≠M/\MB≠H/\b≠M/\b≠H/\XX≠M/\XX≠H):=ae (by
   have h1:=l7.out;have h2:=HG.out.size;have h3:=e9.out;have h4:=a3.out.lt;have h5:=ad k0;have h6:=ad k1;have h7:=d4.out.vC k0;have h8:=d4.out.vC k1;omega)
 clear g0 a4 l8 c5 j5;go_frame;go_loopw [45] (fun _ z=>∃left Q m,dB kj z MA H nA (cntF B) left Q/\dz z M m (gA 5 B D left)/\m+Q<=nA/\ag (fun b=>b=M\/b=H) wS z) (fun _ z=>z.rangeLeft MA H)
 case atStart=>exact⟨_,_,0,m2.out,by rw[<-He];exact m3.out,by have:=m4.out;omega,l9.out⟩
 case round=>as_aux_lemma=>
  obtain⟨left,Q,m,I,b3,d5,hx⟩:=hrel;have b5:=ae I;have y:=ae b3;have a5:=ae hx;have g3:=ae d5;have m0:=hx.keeps (fun h=>h.elim q.out.2.2.2.2.2.2.1 q.out.2.2.2.2.2.2.2) k0;have m1:=hx.keeps (fun h=>h.elim q.out.2.2.2.2.1 q.out.2.2.2.2.2.1) k1;clear b3 hx d5 k0 k1;go_wp2_with(at_next;refine kB (kk:=kj) rfl _ rfl rfl I ?_ ?_)
  · intro _ j7
    have j8:=ae j7;obtain⟨Z,m5⟩:∃Z,Hid (Z=left):=⟨_,ae rfl⟩;rw[<-m5.out]at j8 y;have e4:Hid (dz wr MB nB D):=ae (a3.out.block (a5.out.block a3.out.lt (fun h=>h.elim q.out.2.1 q.out.2.2.2.1)));clear I j7;obtain⟨wT,j9⟩:∃wT,Hid (wT=wr):=⟨_,ae rfl⟩;rw[<-j9.out]at a5 e4 y b5 m0 m1;obtain⟨s,c6⟩:∃s,Hid (s=wT.heap.size):=⟨_,ae rfl⟩;rw[<-j9.out];have c7:Hid (dz wT MA nA B):=ae b5.out.map;go_wp2_with(at_range;refine lU mH rfl _ rfl e4.out rfl ?_;intro w5 p4 g4 a6 m6 k2)
    rw[<-c6.out]at g4⊢;have c8:Gr wT w5:=⟨a6.os,a6.tape,a6.output,a6.size,fun k hk=>a6.block k hk (by simp)⟩;have m7:=ae (show ag (fun b=>b=M\/b=s) wT w5 from ag.ah c8);have m8:=ae g4;have m9:=ae (y.out.gr c8);have n2:=ae k2;have n3:=q;have q:Hid (MB≠M/\MA≠M/\s≠M/\MA≠s/\b≠M/\b≠s/\XX≠M/\XX≠s):=ae (by
      have h1:=n3.out;have h2:=y.out.lt;have h3:=c6.out;have h4:=c7.out.lt;have h5:=ad m0;have h6:=ad m1;omega)
    clear g4 a6 m6 c8 k2;go_frame;go_loopw [91] (fun _ z=>∃left Q m,dB kj z MB s nB (cntF D) left Q/\dz z M m (gB B D (gA 5 B D Z) left)/\m+Q<=nA+nB/\ag (fun b=>b=M\/b=s) wT z) (fun _ z=>z.rangeLeft MB s)
    case atStart=>exact⟨_,_,m,m8.out,(by rw[<-RX];exact m9.out),by have:=n2.out;have:=g3.out;omega,m7.out⟩
    case round=>as_aux_lemma=>
     obtain⟨left,Q,m,I,b3,d5,hx⟩:=hrel;have b5:=ae I;have y:=ae b3;have e5:=ae hx;have n0:=hx.keeps (fun h=>h.elim q.out.2.2.2.2.2.2.1 q.out.2.2.2.2.2.2.2) m0;have n1:=hx.keeps (fun h=>h.elim q.out.2.2.2.2.1 q.out.2.2.2.2.2.1) m1;clear b3 hx m0 m1;go_wp2_with(at_next;refine kB (kk:=kj) rfl _ rfl rfl I ?_ ?_)
     ·intro _ d6;clear I;have n4:=ae (y.out.mono (show m<=nA+nB by omega));have k3:Gr w wr:=by
       have g1:Gr w wS:=e7.out.trans HG.out;have g2:Gr w wT:=a5.out.gr g1 (fun j e=>by
        have h1:=HM.out;have h2:=d3.out;have h3:=e9.out;have h4:=g1.size;omega)
       exact e5.out.gr g2 (fun j e=>by
        have h1:=HM.out;have h2:=d3.out;have h3:=c6.out;have h4:=g2.size;omega)
      have n5:=ae k3;have n6:=ae d6;clear k3 d6;go_wp2_with fail
      go_ret;refine⟨M,rfl,by rw[HM.out,d3.out];omega,?_,n5.out⟩;have d6:=n6.out;exact dz.congr n4.out fun r hr=>V8 (j8.out r hr) (d6 r hr)
     intro k v wn O hk n7 hF b7 g5 U g6 b8;obtain⟨g7,rfl⟩:=sS hF;have b9:=V0 hk;have J:ag (fun b=>b=M\/b=s) wr wn:=ag.ce U (.inr rfl);have c1:=ae (e5.out.trans J);have p0:=J.keeps (fun h=>h.elim q.out.2.2.2.2.2.2.1 q.out.2.2.2.2.2.2.2) n0;have p1:=J.keeps (fun h=>h.elim q.out.2.2.2.2.1 q.out.2.2.2.2.2.1) n1;have g9:=ae (show dz wn M m _ from y.out.block (U.block M y.out.lt (fun e=>q.out.2.2.1 (ak e).symm)));have c4:=c7.out.block (c1.out.block c7.out.lt (fun h=>h.elim q.out.2.1 q.out.2.2.2.1));have k6:=dz.look c4 b9;have G:Hid (dB kj wn MB s nB (cntF D) (jB left k) O):=ae b7;have h0:m<1000000:=by have:=HN.out;omega
     replace b8:(bT (.pointer (some ⟨s,0,none⟩))).run prog wn=.ok (.tuple #[.int .i64 k,.int .i64 (D k:Int)]) wn:=b8;rw[show kj.kv k=cg .i64 k from rfl];clear I hF b7 U J c4 hk g6 n0 n1;have h9:bv.wrap ((B k:Int)+(D k:Int))=((B k+D k:Nat):Int):=zT (d9.out k);obtain⟨sv,V⟩:∃sv,B k+D k=sv:=⟨_,rfl⟩;have i0:0<sv:=by omega
     rw[V]at h9;have n8:=ae V;clear V;go_wp2_with(at_mapUpdate;refine gH rfl _ _ _ rfl g9.out h0 rfl rfl b9 (val:=sv) rfl i0 ?_;intro w8 h8 Y)
     go_frame;go_big_round;have i1:ag (fun b=>b=M\/b=s) wT w8:=c1.out.trans (ag.ce Y (.inl rfl));have k4:=G.out.blocks (Y.block MB G.out.map.lt (fun e=>q.out.1 (ak e))) (Y.block s G.out.lt (fun e=>q.out.2.2.1 (ak e)));refine⟨⟨jB left k,O,m+1,k4,by rw[V6 g7 n8.out];exact h8,by omega,i1⟩,?_⟩;rw[k4.left_eq,b5.out.left_eq];exact g5
  intro k v wn O hk n7 hF b7 g5 U g6 b8;obtain⟨g7,rfl⟩:=sS hF;have b9:=V0 hk;have J:ag (fun b=>b=M\/b=H) wr wn:=ag.ce U (.inr rfl);have c1:=ae (a5.out.trans J);have p0:=J.keeps (fun h=>h.elim q.out.2.2.2.2.2.2.1 q.out.2.2.2.2.2.2.2) m0;have p1:=J.keeps (fun h=>h.elim q.out.2.2.2.2.1 q.out.2.2.2.2.2.1) m1;have g9:=ae (show dz wn M m (gA 5 B D left)from y.out.block (U.block M y.out.lt (fun e=>q.out.2.2.1 (ak e).symm)));have c4:=a3.out.block (c1.out.block a3.out.lt (fun h=>h.elim q.out.2.1 q.out.2.2.2.1));have k6:=dz.look c4 b9;have G:Hid (dB kj wn MA H nA (cntF B) (jB left k) O):=ae b7;have h0:m<1000000:=by have:=HN.out;have:=g3.out;omega
  have d5:=g3.out;replace b8:(bT (.pointer (some ⟨H,0,none⟩))).run prog wn=.ok (.tuple #[.int .i64 k,.int .i64 (B k:Int)]) wn:=b8;rw[show kj.kv k=cg .i64 k from rfl];clear I hF b7 U J c4 hk g6 m0 m1;have h9:bv.wrap ((B k:Int)+(D k:Int))=((B k+D k:Nat):Int):=zT (d9.out k);obtain⟨sv,V⟩:∃sv,B k+D k=sv:=⟨_,rfl⟩;rw[V]at h9;have i0:0<sv:=by omega
  have hj:pM 5 (B k) (D k)=sv:=(Yy _ _).trans V;clear V;go_wp2_with(at_mapUpdate;refine gH rfl _ _ _ rfl g9.out h0 rfl rfl b9 (val:=sv) rfl i0 ?_;intro w8 h8 Y;have s0:=(ag.ce (S:=fun b=>b=M) Y rfl).keeps q.out.2.2.2.2.2.2.1 p0;have s1:=(ag.ce (S:=fun b=>b=M) Y rfl).keeps q.out.2.2.2.2.1 p1)
  have i1:ag (fun b=>b=M\/b=H) wS w8:=c1.out.trans (ag.ce Y (.inl rfl));have q0:=fun(j:Nat) (hj:j≠M)=>Y.block j;refine⟨⟨jB left k,O,m+1,G.out.blocks (Y.block MA G.out.map.lt (fun e=>q.out.1 (ak e))) (Y.block H G.out.lt (fun e=>q.out.2.2.1 (ak e))),by rw[JE g7 hj];exact h8,by omega,i1⟩,?_⟩;rw[(G.out.blocks (Y.block MA G.out.map.lt (fun e=>q.out.1 (ak e))) (Y.block H G.out.lt (fun e=>q.out.2.2.1 (ak e)))).left_eq,b5.out.left_eq];exact g5
end
end
section
open Go Go.RowKit Go.Shelf Go.Lib Go.Sort
def pN(b:List bY)(kind:Int)(ws:List ByteArray)(r:Int):Nat:=
 if kind=1 then cC (jg (df b) (df b (ws.headD ⟨#[]⟩)) ws.tail) r
 else if kind=2 then cC (setOf af (nT b (preB (ws.headD ⟨#[]⟩)))) r
 else uU (setOf aG (bG 3 (df b (ws.headD ⟨#[]⟩)) (df b (ws.tail.headD ⟨#[]⟩)))) r
def HR(q:List bY):Qy->Int->Nat
 | .leaf kind ws _,r=>pN q kind ws r
 | .node kind a b,r=>eI kind (HR q a r) (HR q b r)
theorem UB(b:List Int)(r:Int):uU b r<=1:=by
 unfold uU
 split<;>omega
theorem Hf{b:List bY}(s:b.length<=1000)(q:∀x∈b,iD x.2=true)(kind:Int)(ws:List ByteArray)(r:Int):pN b kind ws r<=1000:=by
 unfold pN
 split
 ·have y:=sP (jg (df b) (df b (ws.headD ⟨#[]⟩)) ws.tail) r;have z:=(uT (fun x=>ij q x) ws.tail _ (ij q (ws.headD ⟨#[]⟩))).2.2;omega
 split
 ·have y:=sP (setOf af (nT b (preB (ws.headD ⟨#[]⟩)))) r;have z:=(xv q (preB (ws.headD ⟨#[]⟩))).2.2;omega
 have:=UB (setOf aG (bG 3 (df b (ws.headD ⟨#[]⟩)) (df b (ws.tail.headD ⟨#[]⟩)))) r;omega
theorem JG{y:List bY}(s:y.length<=1000)(z:∀x∈y,iD x.2=true):∀(q:Qy) (r:Int),HR y q r<=1000*jA q
 | .leaf kind ws _,r=>by
  have:=Hf s z kind ws r;show pN y kind ws r<=1000*1;omega
 | .node kind a b,r=>by
  have B:=JG s z a r;have D:=JG s z b r;have G:=vz kind (HR y a r) (HR y b r);show eI kind (HR y a r) (HR y b r)<=1000*(jA a+jA b);omega
theorem ir.gr{N:Nat}{w w':aS}(g:Gr w w'){q:Qy}{b:Nat}(h:ir N w q b):ir N w' q b:=ir.fL (ag.ah g) q b h
theorem OB{U V Q:Nat}{n:ByteArray}{z:List bY}(s:z.length<=1000)(y:∀x∈z,iD x.2=true):∀(q:Qy) (w:aS) (b:Nat),pJ q->jA q<=900->jO V w Q n z->ir U w q b->
  bu prog 13 #[.pointer (some ⟨Q,0,none⟩),.string n,.pointer (some ⟨b,0,none⟩)] w fun e S=>∃M,e=.returned (.map (some M))/\w.heap.size<=M/\dz S M (1000*jA q) (HR z q)/\Gr w S
 | .leaf kind ws bg,w,b,Y,_,h,B=>by
  rcases Y with⟨rfl,rfl,Z,r,rfl,_,D⟩|⟨rfl,rfl,Z,rfl⟩|⟨rfl,rfl,a,c,rfl,_,_⟩
  ·exact VX h s y B D
  ·exact VY h s y B
  exact VZ h s y B
 | .node kind l r,w,b,⟨hk,D,B⟩,hv,h,⟨_,G,_,bl,br,H,I,hL,hR⟩=>by
  have hv:jA l+jA r<=900:=hv;have J:=fun(W:aS) (g:Gr w W)=>OB s y l W bl D (by omega) (h.gr g) (ir.gr g hL);have L:=fun(W:aS) (g:Gr w W)=>OB s y r W br B (by omega) (h.gr g) (ir.gr g hR);have O:∀i,HR z l i+HR z r i<=1000000:=fun i=>by
   have:=JG s y l i;have:=JG s y r i;omega
  have e:1000*jA l+1000*jA r=1000*jA (.node kind l r):=(Nat.mul_add 1000 (jA l) (jA r)).symm;rw[<-e];rcases hk with rfl|rfl|rfl
  ·exact PQ (.inl rfl) G H I J L (by omega) O
  ·exact V9 G H I J L (by omega) O
  exact PQ (.inr rfl) G H I J L (by omega) O
