/-
  Part 18 of the proof.
-/
import Derived.Test.YtldmhjbdahjhdaaGreatDoorZb17
import Derived.Stop.Asserts
open Go.World renaming cell?_setCell_other->ap0,cell?_setCell_same->ap1,cell?_alloc_new->ap2,frozen?_setCell->ap3
open Go.Exit renaming thenS->ap4
open List renaming length_cons->ap5
open Go.Lib renaming hid->ap6
open Go renaming wpS_region->ap7,leaves_cons->ap9,wpS_seq->aqa,results->aqc,wpS_of_wp->aqg
open Go.Proofs.Tryz renaming results7->ap8,prog->ap_,results30->aqf,ntmps30->aqh,func30->aqi
open Bool renaming false_eq_true->aqb
open Option.some renaming injEq->aqd
open Array renaming replicate->aqe
open Go.Act renaming eval->aqj
set_option maxRecDepth 100000
set_option maxHeartbeats 100000000
set_option linter.all false
namespace Go.Proofs.YtldmhjbdahjhdaaGreatDoor
section
open Go Go.RowKit
theorem PY(n:Int)(W:World):(Instr.typeAssert (.iface 75 (.agg #[.int .i64 n])) 20 75 true).run ap_ W=.ok (.tuple #[.agg #[.int .i64 n],.bool true]) W:=by kernel_rfl
theorem pT(b q:Nat)(Z x2:Value)(n:Int)(y:List PanicEntry)(w:World)(I:w.cell? ⟨b,0,none⟩=some Z)(Q:w.frozen? ⟨b,0,none⟩=false)(J:w.cell? ⟨q,0,none⟩=some x2)(S:w.frozen? ⟨q,0,none⟩=false)(a2:b≠q):
  CallsD ap_ 30 #[.pointer (some ⟨b,0,none⟩),.pointer (some ⟨q,0,none⟩)] (.panicking ({v:=.iface 75 (.agg #[.int .i64 n]),recovered:=false}::y)) w fun e u' w'=>
   e=.returned (.tuple #[])/\u'=.panicking ({v:=.iface 75 (.agg #[.int .i64 n]),recovered:=true}::y)/\w'.cell? ⟨b,0,none⟩=some (.pointer none)/\w'.cell? ⟨q,0,none⟩=some (.iface 24 (.int .i64 n))/\ag (fun i=>i=b\/i=q) w w':=by
 have L:=ad I;have M:=ad J;refine callsD_of_wpS aqi rfl fun G cs hu=>?_;apply aqa;apply ap7;simp[wpOpsS,go_sem,recoverD,hu,aqh,ap4];apply aqa;apply ap7;simp[wpOpsS,go_sem,ap4,aqe];refine wpS_cond (t:=true) (by simp[aqj]) ?_;simp only[if_true];apply aqa;apply ap7;simp[wpOpsS,go_sem,ap4,PY];apply aqa;apply aqa;apply ap7;simp[wpOpsS,go_sem,ap4];refine wpS_cond (t:=false) (by simp[aqj]) ?_;simp only[aqb,if_false];refine aqg (wp_skip ?_);simp only[ap4];refine aqg ?_;have s:Gr w (w.alloc (.cells #[.int .i64 n] 75)):=(Gr.refl w).alloc _;have c0:(w.alloc (.cells #[.int .i64 n] 75)).cell? ⟨w.heap.size,0,none⟩=some (.int .i64 n):=by rw[ap2];rfl
 have U:=s.keeps I;have V:=s.keeps J;have f1:=(s.frozen 0 L).trans Q;have f2:=(s.frozen 0 M).trans S;have z:(⟨b,0,none⟩:Addr)≠⟨q,0,none⟩:=by simp
 have B:(⟨q,0,none⟩:Addr)≠⟨b,0,none⟩:=by simp
 have Y:=ap6 s;have O:w.heap.size≠b:=by omega
 have H:w.heap.size≠q:=by omega
 clear I J Q S s;generalize w.alloc (.cells #[.int .i64 n] 75)=D at*;generalize w.heap.size=A at*;go_region
 have e1:((D.setCell ⟨b,0,none⟩ (.pointer none)).setCell ⟨q,0,none⟩ (.iface 24 (.int .i64 n))).drew.cell? ⟨b,0,none⟩=some (.pointer none):=
  (ap0 _ _ _ _ B).trans (ap1 _ _ _ U)
 have e2:((D.setCell ⟨b,0,none⟩ (.pointer none)).setCell ⟨q,0,none⟩ (.iface 24 (.int .i64 n))).drew.cell? ⟨q,0,none⟩=some (.iface 24 (.int .i64 n)):=
  ap1 _ _ _ ((ap0 _ _ _ _ z).trans V)
 have e3:ag (fun i=>i=b\/i=q) w ((D.setCell ⟨b,0,none⟩ (.pointer none)).setCell ⟨q,0,none⟩ (.iface 24 (.int .i64 n))).drew:=
  (((ag.ak Y.out).trans (ag.setCell _ _ (.inl rfl))).trans (ag.setCell _ _ (.inr rfl))).trans (ag.drew _)
 generalize((D.setCell ⟨b,0,none⟩ (.pointer none)).setCell ⟨q,0,none⟩ (.iface 24 (.int .i64 n))).drew=W2 at*;clear U V f1 f2 c0 Y z B O H;cases G;simp_all [bodyPostS,aqc,aqf]
theorem J3(p1 p2:Addr)(w:World):
  CallsD ap_ 30 #[.pointer (some p1),.pointer (some p2)] .returning w fun e q w'=>e=.returned (.tuple #[])/\q=.returning/\w'=w:=by
 refine callsD_of_wpS aqi rfl fun b s hu=>?_;apply aqa;apply ap7;simp[wpOpsS,go_sem,recoverD,hu,aqh,ap4];apply aqa;apply ap7;simp[wpOpsS,go_sem,ap4,aqe];refine wpS_cond (t:=false) (by simp[aqj]) ?_;simp only[aqb,if_false];refine aqg (wp_skip ?_);cases b;simp_all [bodyPostS,aqc,aqf]
theorem J4:∀(n:Nat) (l:List UInt8) (b:List ByteArray),bB n l=some b->b.length<=l.length/\∀p∈b,p.size<=l.length:=by
 intro n
 induction n with
 |zero=>
  intro l b h;cases l with
  |nil=>simp only[bB,aqd]at h;subst h;simp
  |cons c r=>simp[bB]at h
 |succ n B=>
  intro l b h;cases l with
  |nil=>simp only[bB,aqd]at h;subst h;simp
  |cons c r=>
   have step:∀(x:List UInt8) (y:List UInt8) (b:List ByteArray),x.length>=1->x.length+y.length<=(c::r).length->(bB n y).map (iX x::·)=some b->b.length<=(c::r).length/\∀p∈b,p.size<=(c::r).length:=by
    intro x y b L I h;simp only[Option.map_eq_some_iff]at h;obtain⟨D,G,rfl⟩:=h;obtain⟨H,s⟩:=B y D G;refine⟨by simp only[ap5]at*;omega,fun p q=>?_⟩;rcases List.mem_cons.1 q with rfl|q
    ·rw[size_data,fX];omega
    ·have:=s p q;omega
   simp only[bB]at h
   split at h
   ·obtain⟨H,s⟩:=B r b h;exact⟨by simp only[ap5];omega,fun p q=>by have:=s p q;simp only[ap5];omega⟩
   ·split at h
    ·split at h
     ·cases h
     ·refine step (c::r.takeWhile (·!=34)) _ b (by simp) ?_ h;rename_i z
      obtain⟨J,_⟩:=FH (·!=34) r (by simpa using z);simp only[ap5,List.length_drop];omega
    ·split at h
     ·exact step [c] r b (by simp) (by simp;omega) h
     ·rename_i hs
      refine step ((c::r).takeWhile (fun x=>!bt x)) _ b ?_ ?_ h
      ·have:bt c=false:=by simpa using hs
       simp[this]
      ·have:=congrArg List.length (List.takeWhile_append_dropWhile (p:=fun x=>!bt x) (l:=c::r));rw[List.length_append]at this;omega
theorem jm.Se{S:Nat->Prop}{N:Nat}{w w':World}{v:Value}{ws:List ByteArray}(h:jm N w v ws)(g:ag S w w')(hS:∀i,S i->i<=N):jm N w' v ws:=by
 obtain⟨s,c,b,y,q,z⟩:=h;exact⟨s,c,b,y,q,fun i hi=>g.keeps (fun e=>by have:=hS b e;have:=(q (by omega)).2;omega) (z i hi)⟩
theorem eQ.Se{S:Nat->Prop}{N:Nat}{w w':World}(g:ag S w w')(hS:∀i,S i->i<=N):∀(q:Qy) (b:Nat),eQ N w q b->eQ N w' q b
 | .leaf kind ws dT,b,⟨y,z,⟨v,B,D⟩,G,H,I⟩=>
  have s:¬S b:=fun e=>by have:=hS b e;omega
  ⟨y,g.keeps s z,⟨v,g.keeps s B,D.Se g hS⟩,g.keeps s G,g.keeps s H,g.keeps s I⟩
 | .node kind l r,b,⟨y,z,B,D,J,L,G,H,I,M⟩=>
  have s:¬S b:=fun e=>by have:=hS b e;omega
  ⟨y,g.keeps s z,g.keeps s B,g.keeps s D,J,L,g.keeps s G,g.keeps s H,eQ.Se g hS l J I,eQ.Se g hS r L M⟩
theorem Sf{w:World}{B:Nat}{v:Value}{ws:List ByteArray}(h:nN w B v ws)(T:TypeId):oG w.heap.size (w.alloc (.cells #[v] T)) ws:=by
 obtain⟨z,c,b,s,D,y⟩:=iP h;have hc:ws.length<=c:=by
  rcases h.2 with⟨e,I⟩|⟨g,cap,H,e,_,J,hn,_⟩
  ·omega
  ·rw[s]at e;cases e;exact hn
 have G:0<ws.length->b<w.heap.size:=fun q=>ad (y 0 q);refine⟨z,c,b,0,by rw[ap2,<-s];rfl,hc,D,fun q=>by have:=G q;omega,fun i hi=>((Gr.refl w).alloc _).keeps (y i hi),?_⟩;simp
theorem P3(w:World)(o:Obj):(w.alloc o).heap[w.heap.size]?=some o:=by
 show(w.heap.push o)[w.heap.size]?=some o;simp
theorem oG.Ty{N B:Nat}{w:World}{r:List ByteArray}{v:Value}{T:TypeId}(h:oG N w r)(z:w.heap[B]?=some (.cells #[.pointer none] T (0,0)))(O:B≠N):oG N (w.setCell ⟨B,0,none⟩ v) r:=by
 obtain⟨D,c,b,s,G,H,I,J,L,M⟩:=h;refine⟨D,c,b,s,(ap0 _ _ _ _ (by simp)).trans G,H,I,J,fun i hi=>?_,by rw[ap3];exact M⟩;have q:=L i hi;have Q:B≠b:=by
  intro e;subst e;rw[World.cell?]at q;simp only[z]at q;rcases Nat.eq_zero_or_pos (s+i)with y|y
  ·rw[y]at q;simp at q
  ·rw[Array.getElem?_eq_none (by simp;omega)]at q;cases q
 exact(ap0 _ _ _ _ (by simp)).trans q
def MF(w:World)(r:Option Qy×Int)(e:Ending)(w':World):Prop:=
 match r with
 |(some q,_)=>∃N b,e=.returned (.tuple #[.pointer (some ⟨b,0,none⟩),.nilIface])/\eQ N w' q b/\Gr w w'
 |(none,n)=>e=.returned (.tuple #[.pointer none,.iface 24 (.int .i64 n)])/\Gr w w'
theorem CB(s:ByteArray)(hs:s.size<=1000)(w:World)(he:dO w):Calls ap_ 7 #[.string s] w (MF w (fH s)):=by
 have g9:∀(fn:Fn) (first cap:Array Value) (w:World),(Instr.makeFunc fn first cap).run ap_ w=.ok (.func fn first cap) w:=fun _ _ _ _=>rfl;have hcut:=UT s hs;have a9:Gr w ((w.alloc (.cells #[.pointer none] 27)).alloc (.cells #[.nilIface] 29)):=((Gr.refl w).alloc _).alloc _;have b0:Gr (w.alloc (.cells #[.pointer none] 27)) ((w.alloc (.cells #[.pointer none] 27)).alloc (.cells #[.nilIface] 29)):=(Gr.refl _).alloc _;have b1:((w.alloc (.cells #[.pointer none] 27)).alloc (.cells #[.nilIface] 29)).heap[w.heap.size]?=some (.cells #[.pointer none] 27 (0,0)):=(b0.block _ (by simp)).trans (P3 w _);have c1:((w.alloc (.cells #[.pointer none] 27)).alloc (.cells #[.nilIface] 29)).cell? ⟨w.heap.size,0,none⟩=some (.pointer none):=b0.keeps (by rw[ap2];rfl);have c2:((w.alloc (.cells #[.pointer none] 27)).alloc (.cells #[.nilIface] 29)).cell? ⟨w.heap.size+1,0,none⟩=some .nilIface:=by
  have:=ap2 (w:=w.alloc (.cells #[.pointer none] 27)) #[.nilIface] 29 0;rw[show(w.alloc (.cells #[.pointer none] 27)).heap.size=w.heap.size+1 by simp]at this;exact this
 have f1:((w.alloc (.cells #[.pointer none] 27)).alloc (.cells #[.nilIface] 29)).frozen? ⟨w.heap.size,0,none⟩=false:=by simp
 have f2:((w.alloc (.cells #[.pointer none] 27)).alloc (.cells #[.nilIface] 29)).frozen? ⟨w.heap.size+1,0,none⟩=false:=by simp
 have e3:=ad c2;have c6:=he.gr a9;have e4:=ap6 b1;have HE:=ap6 c6;have b2:w.heap.size≠w.heap.size+1:=by omega
 generalize a6:fH s=R;have a7:=ap6 a6;clear b1 he c6 b0 a6;have a8:=ap6 hcut;clear hcut;have h0:w.heap.size<=w.heap.size:=Nat.le_refl _;go_enter_defers Tryz.func7,Tryz.ntmps7
 go_wp2_with fail
 generalize(w.alloc (.cells #[.pointer none] 27)).alloc (.cells #[.nilIface] 29)=W2 at*;generalize hB:w.heap.size=B at*;cases hc:bB s.size s.data.toList with
 |none=>
  have G:=a7.out;unfold fH at G;rw[hc]at G;subst G;refine(a8.out W2).mono ?_;rw[hc];rintro e U ⟨rfl,H⟩;have I:=H.keeps c1;have J:=H.keeps c2;have O:=(H.frozen 0 (ad c1)).trans f1;have Q:=(H.frozen 0 (ad c2)).trans f2;have y:=a9.trans H;unfold c_;go_wp2_with fail
  refine ap9 (f:=30) (args:=#[.pointer (some ⟨B,0,none⟩),.pointer (some ⟨B+1,0,none⟩)]) (by simp) (by simp[go_sem]) ?_;refine(pT B (B+1) _ _ 3 [] _ I O J Q b2).mono ?_;rintro e u' b3 ⟨rfl,rfl,r1,r2,z⟩;have L:=z.gr y (fun i hi=>by rcases hi with rfl|rfl<;>omega);clear I J O Q z y;simp[Leaves,settle,aqc,ap8,go_sem,r1,r2];exact⟨rfl,L⟩
 |some ps=>
  have G:=a7.out;unfold fH at G;rw[hc]at G
  change (match dX 13 ps with| .bad n=>(none,n)| .ok q r=>if r=[]then(some q,0)else(none,3))=R at G;obtain⟨c7,b4⟩:=J4 _ _ _ hc;have c8:=SS _ _ _ hc;rw[<-size_data]at c7 b4;have a1:=ap6 G;clear G;refine(a8.out W2).mono ?_;rw[hc];rintro e U ⟨v,rfl,Z,H⟩;obtain⟨ao,cc,bb,rfl,_,_⟩:=iP Z;have c9:=Sf Z 80;have b5:Gr U (U.alloc (.cells #[.slice ao ps.length cc] 80)):=(Gr.refl U).alloc _;have e5:0≠U.heap.size:=Nat.ne_of_lt (HE.out.gr H).lt;have b6:nk U.heap.size (U.alloc (.cells #[.slice ao ps.length cc] 80)) ps:=⟨c9,by omega,fun p hp=>⟨c8 p hp,by have:=b4 p hp;omega⟩,(HE.out.gr H).gr b5,e5⟩;have M:=H.trans b5;have hN:B+1<U.heap.size:=Nat.lt_of_lt_of_le e3 H.size;have I:=M.keeps c1;have J:=M.keeps c2;have O:=(M.frozen 0 (ad c1)).trans f1;have Q:=(M.frozen 0 (ad c2)).trans f2;have kb:=(M.block _ (ad c1)).trans e4.out;have d0:=a9.trans M;have d1:=UX U.heap.size 13 0 rfl ps _ b6;rw[show((0:Nat):Int)=0 from rfl]at d1;have c4:=AM 13 ps;have d2:=ap6 b6;have e6:=ap6 kb;clear hc c7 b4 c8 c9 Z b5 b6 kb c1 c2 f1 f2 H M;go_wp2_with fail
  generalize U.alloc (.cells #[.slice ao ps.length cc] 80)=w4 at*;generalize U.heap.size=N at*;refine d1.mono ?_;cases hA:dX 13 ps with
  |bad n=>
   rintro e V ⟨rfl,D⟩;have G:=a1.out;rw[hA]at G
   change (none,n)=R at G;subst G;have O:=(D.frozen 0 (ad I) (show¬B=N by omega)).trans O;have Q:=(D.frozen 0 (ad J) (show¬B+1=N by omega)).trans Q;have I:=D.keeps (show¬B=N by omega) I;have J:=D.keeps (show¬B+1=N by omega) J;have y:=D.gr d0 (fun i hi=>by rw[hi];omega);unfold c_;go_wp2_with fail
   refine ap9 (f:=30) (args:=#[.pointer (some ⟨B,0,none⟩),.pointer (some ⟨B+1,0,none⟩)]) (by simp) (by simp[go_sem]) ?_;refine(pT B (B+1) _ _ n [] _ I O J Q b2).mono ?_;rintro e u' b3 ⟨rfl,rfl,r1,r2,z⟩;have L:=z.gr y (fun i hi=>by rcases hi with rfl|rfl<;>omega);clear I J O Q z y;simp[Leaves,settle,aqc,ap8,go_sem,r1,r2];exact⟨rfl,L⟩
  |ok q r=>
   rintro e V ⟨b,rfl,e7,b7,D⟩;have G:=a1.out;rw[hA]at G
   change (if r=[]then(some q,0)else(none,3))=R at G;have O:=(D.frozen 0 (ad I) (show¬B=N by omega)).trans O;have Q:=(D.frozen 0 (ad J) (show¬B+1=N by omega)).trans Q;have b8:=(D.block (ad I) (show¬B=N by omega)).trans e6.out;have I:=D.keeps (show¬B=N by omega) I;have J:=D.keeps (show¬B+1=N by omega) J;have y:=D.gr d0 (fun i hi=>by rw[hi];omega);have a2:=c4 q r hA;have b9:r.length<=1000:=Nat.le_trans a2.1.length_le d2.out.2.1;have c0:=fun v=>oG.Ty (v:=v) b7 b8 (show B≠N by omega);have a3:=fO N r b9 _ (c0 (.pointer (some ⟨b,0,none⟩)));have HQ:=ap6 e7;have c3:=ag.setCell (S:=fun i=>i=B) V (p:=⟨B,0,none⟩) (.pointer (some ⟨b,0,none⟩)) rfl;by_cases Y:r=[]
   ·rw[if_pos Y]at G;subst G Y;clear a2 b9 c0 b7 b8 hA a1;go_wp2_with(go_at_call 33;refine a3.mono ?_;rintro e w6 ⟨rfl,rfl⟩;rw[show aS []=⟨#[]⟩from rfl])
    have d3:(⟨B,0,none⟩:Addr)≠⟨B+1,0,none⟩:=by simp
    have e8:(⟨B+1,0,none⟩:Addr)≠⟨B,0,none⟩:=by simp
    have r1:(((V.setCell ⟨B,0,none⟩ (.pointer (some ⟨b,0,none⟩))).setCell ⟨B,0,none⟩ (.pointer (some ⟨b,0,none⟩))).setCell ⟨B+1,0,none⟩ .nilIface).cell? ⟨B,0,none⟩=some (.pointer (some ⟨b,0,none⟩)):=
     (ap0 _ _ _ _ e8).trans (ap1 _ _ _ (ap1 _ _ _ I))
    have r2:(((V.setCell ⟨B,0,none⟩ (.pointer (some ⟨b,0,none⟩))).setCell ⟨B,0,none⟩ (.pointer (some ⟨b,0,none⟩))).setCell ⟨B+1,0,none⟩ .nilIface).cell? ⟨B+1,0,none⟩=some .nilIface:=
     ap1 _ _ _ ((ap0 _ _ _ _ d3).trans ((ap0 _ _ _ _ d3).trans J))
    have z:ag (fun i=>i=B\/i=B+1) V (((V.setCell ⟨B,0,none⟩ (.pointer (some ⟨b,0,none⟩))).setCell ⟨B,0,none⟩ (.pointer (some ⟨b,0,none⟩))).setCell ⟨B+1,0,none⟩ .nilIface):=
     ((ag.setCell _ _ (.inl rfl)).trans (ag.setCell _ _ (.inl rfl))).trans (ag.setCell _ _ (.inr rfl))
    generalize(((V.setCell ⟨B,0,none⟩ (.pointer (some ⟨b,0,none⟩))).setCell ⟨B,0,none⟩ (.pointer (some ⟨b,0,none⟩))).setCell ⟨B+1,0,none⟩ .nilIface)=WF at*;refine ap9 (f:=30) (args:=#[.pointer (some ⟨B,0,none⟩),.pointer (some ⟨B+1,0,none⟩)]) (by simp) (by simp[go_sem]) ?_;refine(J3 ⟨B,0,none⟩ ⟨B+1,0,none⟩ _).mono ?_;rintro e u' b3 ⟨rfl,rfl,rfl⟩;have L:=z.gr y (fun i hi=>by rcases hi with rfl|rfl<;>omega);have d4:=eQ.Se z (fun i hi=>by rcases hi with rfl|rfl<;>omega) q b HQ.out;have e9:=ap6 d4;clear I J O Q z y d4 c3 a3;simp[Leaves,settle,aqc,ap8,go_sem,r1,r2];exact⟨N,b,rfl,e9.out,L⟩
   ·rw[if_neg Y]at G;subst G;obtain⟨a,r',rfl⟩:∃a r',r=a::r':=by
     cases r with
     |nil=>exact absurd rfl Y
     |cons a r'=>exact⟨a,r',rfl⟩
    obtain⟨h1,h2,d5,_⟩:=(d2.out.2.2.1 a (a2.1.subset (by simp))).1;have h3:a.toList.isEmpty=false:=by rw[ByteArray.toList_eq,d5];rfl
    have d6:=ap1 V ⟨B,0,none⟩ (.pointer (some ⟨b,0,none⟩)) I;have d7:=(ap0 V ⟨B,0,none⟩ ⟨B+1,0,none⟩ (.pointer (some ⟨b,0,none⟩)) (by simp)).trans J;have d8:(V.setCell ⟨B,0,none⟩ (.pointer (some ⟨b,0,none⟩))).frozen? ⟨B,0,none⟩=false:=by rw[ap3];exact O
    have d9:(V.setCell ⟨B,0,none⟩ (.pointer (some ⟨b,0,none⟩))).frozen? ⟨B+1,0,none⟩=false:=by rw[ap3];exact Q
    have y:=c3.gr y (fun i hi=>by rw[hi];omega);clear a2 b9 c0 b7 b8 hA a1 d5 Y c3;go_wp2_with(first|(go_at_call 33;refine a3.mono ?_;rintro e w6 ⟨rfl,rfl⟩;rw[show aS (a::r')=a from rfl])|(go_at_call 34;refine(kX 3 _).mono ?_;rintro e w6 ⟨rfl,rfl⟩;unfold c_))
    clear I J O Q;refine ap9 (f:=30) (args:=#[.pointer (some ⟨B,0,none⟩),.pointer (some ⟨B+1,0,none⟩)]) (by simp) (by simp[go_sem]) ?_;refine(pT B (B+1) _ _ 3 [] _ d6 d8 d7 d9 b2).mono ?_;rintro e u' b3 ⟨rfl,rfl,r1,r2,z⟩;have L:=z.gr y (fun i hi=>by rcases hi with rfl|rfl<;>omega);clear d6 d7 d8 d9 z y a3;simp[Leaves,settle,aqc,ap8,go_sem,r1,r2];exact⟨rfl,L⟩
