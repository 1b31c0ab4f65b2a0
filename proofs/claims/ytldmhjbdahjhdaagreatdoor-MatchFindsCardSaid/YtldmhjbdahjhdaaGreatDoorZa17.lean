/-
  Part 17 of the proof.
-/
import Derived.Test.YtldmhjbdahjhdaaGreatDoorZa15
import Derived.Test.YtldmhjbdahjhdaaGreatDoorZa16
import Derived.Test.YtldmhjbdahjhdaaGreatDoorZa8
open Go.Proofs.Tryz
open Go.Lib renaming hid->ae,idxBy->el,idxByFrom->ez,compact->fS,keeps->gf
open Go.World renaming cell?_alloc_new->ak,ownsRow_nil->bX,cell?_of_block->eh,cell?->fl
open List renaming length_map->ap,mem_cons_of_mem->aJ,mem_cons_self->aQ,take_succ_eq_append_getElem->aU,getElem?_eq_getElem->aV,length_cons->aX,length_take->bc,mem_append_left->bh,getElem_mem->bj,length_append->bt,mem_append_right->bu,mem_cons->bv,mem_append->bz,takeWhile_cons->bA,mem_map_of_mem->bB,length_drop->bC,drop_eq_getElem_cons->bF,flatten_append->bT,take_append_drop->bW,getD_eq_getElem?_getD->b_,length_pos_iff->cg,map_cons->ch,mem_filter->cj,flatten_cons->cs,take_of_length_le->cD,takeWhile_sublist->cF,eq_nil_of_length_eq_zero->cO,nil_append->cW,mem_singleton->dg,length->dr,prefix_iff_eq_take->dA,not_mem_nil->dD,take_length->dF,mem_map->dJ,map_append->dQ,append_nil->dS,takeWhile_prefix->dT,length_filter_le->dU,mem_of_mem_take->eb,map_eq_nil_iff->en,append_assoc->eH,isEmpty_iff->eT,getElem_map->eV,filter_cons->eY,mem_flatten->fe,length_nil->fy,flatten->fK,map->gw
open Go renaming World->az,Value->bM,Calls->bZ
open Nat renaming lt_of_lt_of_le->aS,le_trans->be,le_refl->bP,zero_le->cf,le_mul_of_pos_left->cK,mul_le_mul_left->da,zero_add->de,min_eq_left->fA
open Go.ByteArray renaming toList_eq->bQ
open Option.some renaming inj->cl
open Go.IntKind renaming wrap_i64->cL,i64->dZ
open Prod renaming fst->dh
open Array renaming getElem?_eq_some_iff->di
open Go.RowKit renaming wrap64->ea
open Bool renaming false_eq_true->eA
open Go.Sort renaming ahead->eB,putRow->gc
open Go.Proofs renaming enters_of->fI,encStr->fM
open Go.World.ownsRow renaming cells->fT
open ByteArray renaming size->gs
open Prod.mk renaming injEq->hI
open Decidable renaming em->hO
set_option maxRecDepth 100000
set_option maxHeartbeats 100000000
set_option linter.all false
namespace Go.Proofs.YtldmhjbdahjhdaaGreatDoor
section
open Go Go.RowKit
theorem K_{xs:List dl}(h:∀v∈xs,jK v):fO xs=none:=by
 induction xs with
 |nil=>rfl
 |cons v xs b=>
  unfold fO;rw[(h v aQ).1,if_pos rfl,b fun u hu=>h u (aJ _ hu)]
  rfl
theorem La{v:dl}(h:jK v):(-9223372036854775808<=v.num/\v.num<=9223372036854775807)/\v.text.size<=1000000:=by
 refine⟨h.2,?_⟩;rcases qs v h with rfl|⟨n,rfl,_⟩|⟨s,rfl,_,b⟩
 ·show(0:Nat)<=1000000;omega
 ·show(0:Nat)<=1000000;omega
 show s.size<=1000000;rw[size_data];omega
theorem I5(xs:List dl)(b k:Nat)(W:az)(hc:mR W b 0 xs)(q:∀v∈xs,jK v)(s:xs.length<=10):
  bZ prog 63 #[.slice (some ⟨b,0,none⟩) xs.length k] W (ar W (.tuple #[.string (tD (eK xs)),.nilIface])):=by
 refine(Xc xs b 0 k (some ⟨b,0,none⟩) (fun _=>rfl) (by omega) (fun i hi=>La (q _ (bj hi))) W hc).mono ?_;intro e y h;unfold yg at h;rw[K_ q]at h;exact h
theorem QZ(W:az)(a b:ByteArray):mR (W.alloc (.cells #[.int .i64 2,.int .i64 0,.string a,.int .i64 2,.int .i64 0,.string b] 132)) W.heap.size 0 [ia a,ia b]:=by
 intro i h;have q:i<2:=h;rcases(show i=0\/i=1 by omega)with rfl|rfl<;>exact⟨by rw[ak];rfl,by rw[ak];rfl,by rw[ak];rfl⟩
theorem Lb(W:az)(a b:ByteArray)(r:Int):mR (W.alloc (.cells #[.int .i64 2,.int .i64 0,.string a,.int .i64 2,.int .i64 0,.string b,.int .i64 1,.int .i64 r,.string ⟨#[]⟩] 132)) W.heap.size 0 [ia a,ia b,lE r]:=by
 intro i h;have q:i<3:=h;rcases(show i=0\/i=1\/i=2 by omega)with rfl|rfl|rfl<;>exact⟨by rw[ak];rfl,by rw[ak];rfl,by rw[ak];rfl⟩
theorem Q0(W:az)(r:Int):mR (W.alloc (.cells #[.int .i64 1,.int .i64 r,.string ⟨#[]⟩] 132)) W.heap.size 0 [lE r]:=by
 intro i h;have b:i<1:=h;rcases(show i=0 by omega)with rfl
 exact⟨by rw[ak];rfl,by rw[ak];rfl,by rw[ak];rfl⟩
theorem Nu(W:az)(a:ByteArray):mR (W.alloc (.cells #[.int .i64 2,.int .i64 0,.string a] 132)) W.heap.size 0 [ia a]:=by
 intro i h;have b:i<1:=h;rcases(show i=0 by omega)with rfl
 exact⟨by rw[ak];rfl,by rw[ak];rfl,by rw[ak];rfl⟩
theorem jM{xs:List dl}{v:dl}(h:jK v)(hs:∀u∈xs,jK u):∀u∈v::xs,jK u:=fun u hu=>by
 rcases bv.1 hu with e|hu
 ·rw[e];exact h
 exact hs u hu
theorem rq:∀u∈([]:List dl),jK u:=fun u hu=>by cases hu
theorem Pz{n w:ByteArray}(hn:cI n)(hw:cI w)(W:az):bZ prog 69 #[.string n,.string w] W (ar W (.string (dx n w))):=by
 have q:=I5 [ia n,ia w] W.heap.size 2 _ (QZ W n w) (jM hn.aE (jM hw.aE rq)) (by simp);have g:Gr W (W.alloc (.cells #[.int .i64 2,.int .i64 0,.string n,.int .i64 2,.int .i64 0,.string w] 132)):=(Gr.refl W).alloc _;have s:=ae q;have y:=ae g;clear q g hn hw;go_enter func69,ntmps69;go_wp2_with fail
 refine s.out.mono ?_;rintro e z ⟨rfl,b⟩;have HR:=ae (y.out.trans b);clear b;go_wp2_with fail
 go_ret;exact ar.mk rfl HR.out
theorem TB{n w:ByteArray}(hn:cI n)(hw:cI w){r:Int}(q:1<=r/\r<=1073741824)(W:az):bZ prog 90 #[.string n,.string w,.int .i64 r] W (ar W (.string (cP n w r))):=by
 have s:=I5 [ia n,ia w,lE r] W.heap.size 3 _ (Lb W n w r) (jM hn.aE (jM hw.aE (jM (ro q) rq))) (by simp);have g:Gr W (W.alloc (.cells #[.int .i64 2,.int .i64 0,.string n,.int .i64 2,.int .i64 0,.string w,.int .i64 1,.int .i64 r,.string ⟨#[]⟩] 132)):=(Gr.refl W).alloc _;have y:=ae s;have z:=ae g;clear s g hn hw q;go_enter func90,ntmps90;go_wp2_with fail
 refine y.out.mono ?_;rintro e B ⟨rfl,b⟩;have HR:=ae (z.out.trans b);clear b;go_wp2_with fail
 go_ret;exact ar.mk rfl HR.out
theorem TC(n:ByteArray)(hn:cI n)(b:1<=n.size/\n.size<=16){r:Int}(q:1<=r/\r<=1073741824)(W:az):bZ prog 40 #[.string n,.int .i64 r] W (ar W .nilIface):=by
 have s:n.toList.isEmpty=false:=by
  cases h:n.toList.isEmpty with
  |false=>rfl
  |true=>
   rw[eT,bQ]at h;have G:n.size=0:=by rw[size_data,h];rfl
   omega
 have y:¬16<(n.size:Int):=by omega
 have z:¬0<=Lib.indexByte n.data.toList 0:=by
  have h:=pr n.data.toList 0;rw[hn.nz]at h;have:=of_decide_eq_true h;omega
 have B:¬r<1:=by omega
 have D:¬1073741824<r:=by omega
 clear q b hn;go_enter func40,ntmps40;go_wp2_with(go_at_call 72;refine(Tryz.strings_IndexByte _ _ _).mono ?_;rintro e H ⟨rfl,rfl⟩)
 go_ret;exact ar.mk rfl (Gr.refl _)
def iA(n:Nat):ByteArray:=tD (eK [lE (n:Int)])
theorem xc(n:Nat):(iA n).size=9:=by
 unfold iA;rw[rm]
 rfl
theorem Gw{n:Nat}(h:n<=1000000):jK (lE (n:Int)):=by
 refine⟨?_,by show(-9223372036854775808:Int)<=(n:Int);omega,by show(n:Int)<=9223372036854775807;omega⟩;unfold fb lE;simp
section
variable{w:az}{FP TP PB DB M:Nat}{c:Ch}{sv:Head}{t:Int}{d:Dk}
theorem PA(h:jn w FP TP PB DB M c sv t d)(hE:dL w)(hM:mA w){X:Tr}(hl:X.lays c d.pg 3){n:Nat}(hn:n<=1000000)(D:(X.get bw=none/\n=0)\/X.get bw=some (iA n)):
  bZ prog 19 #[.pointer (some ⟨FP,0,none⟩)] w (ar w (.tuple #[.int .i64 (n:Int),.nilIface])):=by
 have hp:=h.p;have q:=Nl h.pg h.t (by omega) bw hl;have O:=fun(W:az) (g:Gr w W)=>hE.gr g;have Q:=fun(W:az) (g:Gr w W)=>hM.gr g;unfold bw at q D;have S:=ae O;have a1:=ae Q;clear O Q hE hM h hl;rcases D with⟨D,rfl⟩|D
 ·rw[D]at q;have H:Hid (bZ prog 67 #[.pointer (some ⟨TP,0,none⟩),.string ⟨#[1]⟩] w (ar w (.tuple #[.string fJ,.iface 24 (.int .i64 7)]))):=ae q;clear q D hn;go_enter func19,ntmps19;go_wp2_with fail
  refine H.out.mono ?_;rintro e w1 ⟨rfl,s⟩;have z:=xG (.iface 24 (.int .i64 7)) 7 (-1) w1 (S.out _ s) (.inr (.inl ⟨rfl,rfl⟩));have I:=ae s;clear s;go_wp2_with fail
  refine z.mono ?_;rintro e w2 ⟨rfl,B⟩;have HR:=ae (I.out.trans B);clear B z;go_wp2_with fail
  go_ret2;exact ar.mk rfl HR.out
 rw[D]at q;have H:Hid (bZ prog 67 #[.pointer (some ⟨TP,0,none⟩),.string ⟨#[1]⟩] w (ar w (.tuple #[.string (iA n),.nilIface]))):=ae q;clear q D;go_enter func19,ntmps19;go_wp2_with fail
 refine H.out.mono ?_;rintro e w1 ⟨rfl,s⟩;have z:=xG .nilIface 0 (-1) w1 (S.out _ s) (.inl ⟨rfl,rfl,rfl⟩);have I:=ae s;clear s;go_wp2_with fail
 refine z.mono ?_;rintro e w2 ⟨rfl,B⟩;have J:=I.out.trans B;have U:=Px (iA n) (by rw[xc];omega) w2 (a1.out _ J);have a2:=ae U;have a3:=ae J;clear B z U J;go_wp2_with fail
 refine a2.out.mono ?_;intro e w3 y;unfold li at y;have V:fU (iA n).data.toList=some [lE (n:Int)]:=zw [lE (n:Int)] (jM (Gw hn) rq);rw[V]at y;obtain⟨v,rfl,hv,Y⟩:=y;obtain⟨ao,b,cp,rfl,L,G⟩:=hv.Wy;have L:=L (by simp);subst L;have c1:w3.cell? ⟨b,1,none⟩=some (.int .i64 (n:Int)):=(G 0 (by simp)).2.1;have HR:=ae (a3.out.trans Y);clear hv G Y V;have Z:([lE (n:Int)]:List dl).length=1:=rfl;rw[Z];clear Z;go_wp2_with fail
 go_ret2;exact ar.mk rfl HR.out
theorem Vr(h:jn w FP TP PB DB M c sv t d)(Z:dL w)(hM:mA w){X:Tr}(Q:X.lays c d.pg 3){n:Nat}(hn:n<=1000000)(hK:(X.get bw=none/\n=0)\/X.get bw=some (iA n)){m:Int}{n2:Nat}(hm:(n:Int)+m=n2)(S:n2<=1000000){G:Ch}{X':Tr}(q:kh c 3 X bw (iA n2)=(G,X',0)):
  bZ prog 45 #[.pointer (some ⟨FP,0,none⟩),.int .i64 m] w fun e B=>e=.returned .nilIface/\jn B FP TP PB DB M G sv t d/\aY PB DB M M w B:=by
 have H:=PA h Z hM Q hn hK;have U:=ae H;have s:=ae (And.intro h (And.intro Q q));have a9:dZ.wrap ((n:Int)+m)=(n2:Int):=by
  rw[hm];rw[cL];omega
 have hp:=h.p;clear H h Z hM Q hK q;go_enter func45,ntmps45;go_wp2_with fail
 refine U.out.mono ?_;rintro e D ⟨rfl,I⟩;have hk:=I5 [lE (n2:Int)] D.heap.size 1 _ (Q0 D (n2:Int)) (jM (Gw S) rq) (by simp);have gA:Gr D (D.alloc (.cells #[.int .i64 1,.int .i64 (n2:Int),.string ⟨#[]⟩] 132)):=(Gr.refl D).alloc _;have HK:=ae hk;have V:=ae (I.trans gA);clear hk gA I;go_wp2_with fail
 refine HK.out.mono ?_;rintro e w2 ⟨rfl,J⟩;have b:=V.out.trans J;have b0:=b.keeps hp;have y:=Ty (s.out.1.pg.gr b) (s.out.1.t.gr b) s.out.1.tn (by omega) bw (iA n2) s.out.2.1;rw[s.out.2.2]at y;have Y:Hid (bZ prog 89 #[.pointer (some ⟨TP,0,none⟩),.string ⟨#[1]⟩,.string (tD (eK [lE (n2:Int)]))] w2 fun e B=>e=.returned .nilIface/\cG B PB DB M G sv t d/\aY PB DB M M w2 B):=ae y;have L:=ae b;clear y J b;go_wp2_with fail
 refine Y.out.mono ?_;rintro e w3 ⟨rfl,O,z⟩;have HR:Hid (jn w3 FP TP PB DB M G sv t d/\aY PB DB M M w w3):=ae ⟨(s.out.1.gr L.out).act O z,(aY.ah PB DB M L.out).trans z⟩;clear O z;go_wp2_with fail
 go_ret;exact⟨rfl,HR.out⟩
end
theorem ci.gr{a0 w w':az}{v:bM}{xs:List aa}(h:ci a0 w v xs)(g:Gr w w'):ci a0 w' v xs:=aF h g
theorem ci.back{a0 s w:az}{v:bM}{xs:List aa}(h:ci s w v xs)(g:Gr a0 s):ci a0 w v xs:=by
 refine⟨h.row.1,?_⟩;rcases h.row.2 with b|⟨g',cap,q,b,y,z⟩
 ·exact .inl b
 exact .inr ⟨g',cap,q,b,be g.size y,z⟩
structure yp(X:Tr)(n wd:ByteArray)(PS:List (List aa)):Prop where
 is:(mq X (dx n wd)).takeWhile (fun x=>preB (dx n wd) x.1)=PS.map (bp n wd)
 ok:ie PS
 len:(mq X (dx n wd)).length<=1000000
 Jf:PS.flatten.length<=100000
theorem gW{l:List aa}(h:∀p∈l,iD p=true)(q:bU af l):dG l=true:=by
 refine qJ fun k b=>?_;unfold nj;have s:l.getD k (0,0)=l[k]:=by
  rw[b_,aV b]
  rfl
 rw[s,h _ (bj b),Bool.true_and,Bool.or_eq_true];cases k with
 |zero=>exact .inl rfl
 |succ k=>
  refine .inr ?_;have y:=(List.pairwise_iff_getElem.1 q) k (k+1) (by omega) b (by omega);show af (l.getD k (0,0)) l[k+1]=true;rw[b_,aV (by omega)];exact y
theorem GC:∀{PS:List (List aa)},(∀l∈PS,l≠[])->PS.length<=PS.flatten.length
 |[],_=>bP _
 |l::PS,h=>by
  have q:=GC (PS:=PS) fun m b=>h m (aJ _ b);have s:0<l.length:=cg.2 (h l aQ);rw[cs,bt,aX];omega
theorem Dp{PS:List (List aa)}(ok:ie PS){l:List aa}(b:l∈PS)(W:az):
  bZ prog 70 #[.string (tD (cT l))] W fun e q=>∃v,e=.returned (.tuple #[v,.nilIface])/\ci W q v l/\Gr W q:=by
 have s:=ok.pc.ne l b;refine(Vw (tD (cT l)) (by rw[rm];omega) W).mono ?_;intro e q h;unfold kS at h;rw[zy,AP (gW (ok.aE l b) (ok.up l b))]at h;exact h
theorem zE{w:az}{v:bM}{n wd:ByteArray}{PS:List (List aa)}(h:wX w v (PS.map (bp n wd))){i:Nat}(hi:i<PS.length):∃b z,v=.slice (some ⟨b,0,none⟩) PS.length z/\b<w.heap.size/\w.cell? ⟨b,i*2,none⟩=some (.string (cP n wd (rowOf PS[i])))/\w.cell? ⟨b,i*2+1,none⟩=some (.string (tD (cT PS[i]))):=by
 rcases h with⟨_,s⟩|⟨B,cap,y,s,D,G⟩
 ·have:=en.1 s;rw[this]at hi;exact absurd hi (by simp)
 rw[ap]at y;have q:=G i (by rw[ap];exact hi);simp only[eV]at q;exact⟨B,cap,y,D,q.1,q.2⟩
section
variable{w:az}{FP TP PB DB M:Nat}{c:Ch}{sv:Head}{t:Int}{d:Dk}
theorem GD(h:jn w FP TP PB DB M c sv t d){X:Tr}(q:X.lays c d.pg 3){n wd:ByteArray}{PS:List (List aa)}(hw:yp X n wd PS){W:az}(g:Gr w W):
  bZ prog 64 #[.pointer (some ⟨TP,0,none⟩),.string (dx n wd)] W fun e b=>∃v,e=.returned (.tuple #[v,.nilIface])/\wX b v (PS.map (bp n wd))/\Gr W b:=by
 have:=Gu (h.pg.gr g) (h.t.gr g) (by omega) (dx n wd) q hw.len;rw[hw.is]at this;exact this
theorem GG(h:jn w FP TP PB DB M c sv t d){X:Tr}(L:X.lays c d.pg 3){n wd:ByteArray}(hn:cI n)(O:cI wd){PS:List (List aa)}(hw:yp X n wd PS):
  bZ prog 21 #[.pointer (some ⟨FP,0,none⟩),.string n,.string wd] w fun e s=>∃v,e=.returned (.tuple #[v,.nilIface])/\ci w s v PS.flatten/\Gr w s:=by
 have Q:=h.p;have S:=fun(W:az) (g:Gr w W)=>GD h L hw g;have U:=fun(W:az)=>Pz hn O W;have b0:=ae S;have b1:=ae U;have V:=ae hw;clear S U hw h L hn O;go_enter func21,ntmps21;go_wp2_with fail
 go_region_held3(fun s=>s.cell? ⟨FP,0,none⟩=some (.pointer (some ⟨TP,0,none⟩))/\Gr w s) (first|exact⟨Q,Gr.refl _⟩|exact⟨Q,(Gr.refl _).drew⟩|exact⟨y.keeps Q,y⟩|exact⟨z.keeps Q,z⟩) (first|(go_at_call 69;refine(b1.out _).mono ?_;rintro e w1 ⟨rfl,Y⟩;have z:=((Gr.refl w).drew).trans Y)|(go_at_call 64;refine(b0.out _ (by assumption)).mono ?_;rintro e I ⟨v,rfl,hq,Z⟩;have y:=z.trans Z))
 have HQ:=ae hq;have HG:=ae y;clear z Y Z y hq;obtain⟨av,cv,a1⟩:=HQ.out.form;rw[ap]at a1;subst a1;go_wp2_with fail
 go_loopw [10,31] (fun ov iv s=>∃i:Nat,i<=PS.length/\iv=.int .i64 i/\ci I s ov (PS.take i).flatten/\Gr I s) (fun _ iv _=>PS.length-(intOf iv).toNat)
 case atStart=>exact⟨0,cf _,rfl,bX _ _ _ _,Gr.refl _⟩
 case round=>
  obtain⟨i,hi,rfl,J,D⟩:=hrel;have HO:=ae J;have b2:=ae D;by_cases q:i<PS.length
  ·obtain⟨b,cp,e1,hb,k0,k1⟩:=zE HQ.out q;cases e1;replace k0:=D.keeps k0;replace k1:=D.keeps k1;have b3:(i:Int)<(PS.length:Int):=by omega
   clear J D;go_wp2_with fail
   have gA:Gr wr (wr.alloc (.cells #[.string (cP n wd (rowOf PS[i])),.string (tD (cT PS[i]))] 140)):=(Gr.refl wr).alloc _;refine(Dp V.out.ok (bj q) _).mono ?_;rintro e w4 ⟨v4,rfl,a2,a3⟩;have G:=gA.trans a3;have H:=a2.own.lZ;have B:Hid (ci I w4 u10 (PS.take i).flatten/\kT w4 v4 PS[i]/\Gr I w4/\(PS.take i).flatten.length+PS[i].length<=1000000):=ae ⟨HO.out.gr G,H,b2.out.trans G,by
    have h1:=V.out.Jf;have h2:(PS.take (i+1)).flatten.length=(PS.take i).flatten.length+PS[i].length:=by
     rw[aU q,bT,bt];simp
    have h3:(PS.take (i+1)).flatten.length<=PS.flatten.length:=by
     have:PS.flatten=(PS.take (i+1)).flatten++(PS.drop (i+1)).flatten:=by rw[<-bT,bW]
     rw[this,bt];omega
    omega⟩
   obtain⟨a4,c4,b4⟩:=H.form;clear gA a2 a3 G H k0 k1;subst b4;go_wp2_with(at_builtin;refine px (a0:=I) rfl _ _ rfl _ (PS.take i).flatten rfl B.out.1 _ PS[i] rfl B.out.2.1 B.out.2.2.2 B.out.2.2.1 ?_;intro v6 w6 b5 b6)
   have e:ea ((i:Int)+1)=((i+1:Nat):Int):=by
    have:=V.out.Jf;have h5:PS.length<=PS.flatten.length:=GC fun l L=>(V.out.ok.pc.ne l L).1;unfold ea;omega
   rw[e];refine⟨⟨i+1,q,rfl,?_,b6⟩,?_⟩
   ·rw[aU q,bT];simpa using b5
   show PS.length-(((i+1:Nat):Int)).toNat<PS.length-((i:Int)).toNat;omega
  have b3:¬(i:Int)<(PS.length:Int):=by omega
  have a5:PS.take i=PS:=cD (by omega);have HR:Hid (ci w wr u10 PS.flatten/\Gr w wr):=ae ⟨by rw[a5]at J;exact J.back HG.out,HG.out.trans D⟩;clear J D a5;go_wp2_with fail
  go_ret2;exact⟨_,rfl,HR.out⟩
end
theorem PF{b:Type}{p:b->Bool}:∀{l:List b} {x:b},x∈l.takeWhile p->p x=true
 |[],_,h=>by cases h
 |a::l,x,h=>by
  rw[bA]at h;cases q:p a with
  |true=>
   rw[q]at h;simp only[if_true]at h;rcases bv.1 h with e|h
   ·rw[e];exact q
   exact PF h
  |false=>
   rw[q]at h;simp at h
def nU(PS:List (List aa))(row:Int):Nat:=(PS.takeWhile fun l=>decide (rowOf l<=row)).length
theorem uw(PS:List (List aa))(row:Int):nU PS row<=PS.length:=(cF _).length_le
theorem Rg{PS:List (List aa)}{row:Int}:∀l∈PS.take (nU PS row),rowOf l<=row:=by
 intro l b;have h:PS.take (nU PS row)=PS.takeWhile fun l=>decide (rowOf l<=row):=(dA.1 (dT _)).symm;rw[h]at b;have:=PF b;simpa using this
theorem Dq{PS:List (List aa)}(ok:ie PS){row:Int}:∀l∈PS.drop (nU PS row),row<rowOf l:=by
 have y:PS.Pairwise fun a b=>rowOf a<rowOf b:=ok.pc.apart.imp_of_mem fun{a b} ha z h=>ym (ok.pc.ne a ha).1 (ok.pc.ne b z).1 h;clear ok;unfold nU
 induction PS with
 |nil=>intro l q;simp at q
 |cons a PS B=>
  obtain⟨D,G⟩:=List.pairwise_cons.1 y;intro l q;rw[bA]at q;cases s:decide (rowOf a<=row)with
  |true=>
   rw[s]at q;simp only[if_true,aX,List.drop_succ_cons]at q;exact B G l q
  |false=>
   rw[s]at q;simp only[eA,if_false,fy,List.drop_zero]at q;have H:¬rowOf a<=row:=of_decide_eq_false s;rcases bv.1 q with e|q
   ·rw[e];omega
   have:=D l q;omega
theorem Lo{PS:List (List aa)}(ok:ie PS){row:Int}(h:nU PS row=0):sD PS [] [] PS row:=
 ⟨rfl,by simp,fun _=>rfl,(fun l b=>by cases b),fun l b=>Dq ok l (by rw[h];exact b)⟩
theorem Lp{PS:List (List aa)}(ok:ie PS){row:Int}{k:Nat}(h:nU PS row=k+1)(q:k<PS.length):sD PS (PS.take k) [PS[k]] (PS.drop (k+1)) row:=by
 refine⟨?_,by simp,(fun h=>by cases h),fun l b=>?_,fun l b=>Dq ok l (by rw[h];exact b)⟩
 ·have s:=bW k PS;rw[bF q]at s;exact s.symm
 rw[dg.1 b];refine Rg (PS:=PS) _ ?_;rw[h,aU q];exact bu _ (dg.2 rfl)
theorem Vz(x s:ByteArray):(!Op.bytesLess x.toList s.toList&&!(x.toList==s.toList))=decide (aC s x):=by
 rw[bQ,bQ];have z:=Mu x.data.toList s.data.toList;have B:=oP x.data.toList s.data.toList;have q:aC s x↔Lib.compareBytes x.data.toList s.data.toList=1:=by
  rw[ku,wO x s];unfold g_;omega
 rcases Ad x.data.toList s.data.toList with h|h|h
 ·rw[z.2 h,decide_eq_false (fun b=>by rw[q,h]at b;cases b)]
  rfl
 ·rw[B.1 h];rw[decide_eq_false (fun b=>by rw[q,h]at b;cases b)];simp
 have b:Op.bytesLess x.data.toList s.data.toList=false:=by
  cases y:Op.bytesLess x.data.toList s.data.toList with
  |false=>rfl
  |true=>rw[z.1 y]at h;cases h
 have D:(x.data.toList==s.data.toList)=false:=by
  cases y:(x.data.toList==s.data.toList)with
  |false=>rfl
  |true=>
   rw[B.2 (by simpa using y)]at h;cases h
 rw[b,D,decide_eq_true (q.2 h)]
 rfl
theorem Rh(W:az)(B:Nat)(s:ByteArray)(x:dv)(h:W.cell? ⟨B,0,none⟩=some (.string s)):
  bZ prog 92 #[.agg #[.string x.1,.string x.2],.pointer (some ⟨B,0,none⟩)] W (ar W (.bool (decide (aC s x.1)))):=by
 obtain⟨b,q⟩:=x;have g1:Gr W (W.alloc (.cells #[.string b,.string q] 140)):=(Gr.refl W).alloc _;have y:(W.alloc (.cells #[.string b,.string q] 140)).cell? ⟨W.heap.size,0,none⟩=some (.string b):=by rw[ak];rfl
 have z:=g1.keeps h;go_enter func92,ntmps92;go_wp2_with fail
 go_ret;exact ar.mk (congrArg Value.bool (Vz b s)) g1
section
variable{w:az}{FP TP PB DB M:Nat}{c:Ch}{sv:Head}{t:Int}{d:Dk}
def dH(n wd:ByteArray)(PS:List (List aa))(row:Int):ByteArray×List aa:=match nU PS row with
 |0=>(⟨#[]⟩,[])
 |k+1=>match PS[k]? with
  |some l=>((bp n wd l).1,l)
  |none=>(⟨#[]⟩,[])
theorem PG{b q:Type}(f:b->q)(p:q->Bool):∀l:List b,(l.map f).takeWhile p=(l.takeWhile fun x=>p (f x)).map f
 |[]=>rfl
 |a::l=>by
  rw[ch,bA,bA,PG f p l];cases p (f a)<;>rfl
theorem GI{b:Type}{p q:b->Bool}:∀{l:List b},(∀x∈l,p x=q x)->l.takeWhile p=l.takeWhile q
 |[],_=>rfl
 |a::l,h=>by
  rw[bA,bA,h a aQ,GI fun x s=>h x (aJ _ s)]
theorem TQ(h:jn w FP TP PB DB M c sv t d){X:Tr}(hl:X.lays c d.pg 3){n wd:ByteArray}(hn:cI n)(U:cI wd){PS:List (List aa)}(hw:yp X n wd PS){row:Int}(hr:1<=row/\row<=1073741824):
  bZ prog 46 #[.pointer (some ⟨FP,0,none⟩),.string n,.string wd,.int .i64 row] w fun e w'=>∃v,e=.returned (.tuple #[.string (dH n wd PS row).1,v,.nilIface])/\ci w w' v (dH n wd PS row).2/\Gr w w':=by
 have hp:=h.p;have b2:=fun(W:az) (g:Gr w W)=>GD h hl hw g;have b3:=fun(W:az)=>Pz hn U W;have b4:=fun(W:az)=>TB hn U hr W;have z:=ui (fun x=>decide (aC (cP n wd row) x.1)) (PS.map (bp n wd)) 0;have b5:((PS.map (bp n wd)).takeWhile fun x=>!decide (aC (cP n wd row) x.1))=(PS.take (nU PS row)).map (bp n wd):=by
  rw[PG];have e:PS.take (nU PS row)=PS.takeWhile fun l=>decide (rowOf l<=row):=(dA.1 (dT _)).symm;rw[e]
  congr 1
  refine GI fun l d2=>?_;have q:=yd (n:=n) hn U hr (hw.ok.row d2);show(!decide (aC (cP n wd row) (cP n wd (rowOf l))))=_;by_cases H:row<rowOf l
  ·rw[decide_eq_true (q.2 H),decide_eq_false (by omega)]
   rfl
  rw[decide_eq_false (fun h3=>H (q.1 h3)),decide_eq_true (by omega)]
  rfl
 rw[b5]at z;have z:(el (fun _ y=>decide (aC (cP n wd row) y.1)) (PS.map (bp n wd)) default=-1/\nU PS row=PS.length)\/el (fun _ y=>decide (aC (cP n wd row) y.1)) (PS.map (bp n wd)) default=(nU PS row:Int):=by
  rcases z with⟨q,H⟩|⟨k,I,q,H⟩
  ·refine .inl ⟨q,?_⟩;have:=congrArg dr H;rw[ap,ap,bc]at this;have:=uw PS row;omega
  refine .inr ?_;have h3:=congrArg dr H;rw[ap,bc,bc,ap]at h3;rw[ap]at I;have h4:=uw PS row;have h5:el (fun _ y=>decide (aC (cP n wd row) y.1)) (PS.map (bp n wd)) default=((0+k:Nat):Int):=q;rw[h5]
  congr 1
  omega
 obtain⟨ix,B⟩:∃ix,el (fun _ (y:dv)=>decide (aC (cP n wd row) y.1)) (PS.map (bp n wd)) default=ix:=⟨_,rfl⟩;rw[B]at z;have S:PS.length<=1000000:=by
  have q:=hw.len;have H:=congrArg dr hw.is;rw[ap]at H;have h3:=(cF (fun x=>preB (dx n wd) x.1) (l:=mq X (dx n wd))).length_le;omega
 have d3:=ae b2;have d4:=ae b3;have d5:=ae b4;have d6:=ae z;have HW:=ae hw;have c4:=ae B;have L:=ae S;clear b2 b3 b4 hw h hl hn U z b5 B S hr;go_enter func46,ntmps46;go_wp2_with fail
 go_region_held3(fun w'=>w'.cell? ⟨FP,0,none⟩=some (.pointer (some ⟨TP,0,none⟩))/\Gr w w') (first|exact⟨hp,Gr.refl _⟩|exact⟨hp,(Gr.refl _).drew⟩|exact⟨V.keeps hp,V⟩|exact⟨Y.keeps hp,Y⟩) (first|(go_at_call 69;refine(d4.out _).mono ?_;rintro e w1 ⟨rfl,b7⟩;have Y:=((Gr.refl w).drew).trans b7)|(go_at_call 64;refine(d3.out _ (by assumption)).mono ?_;rintro e w2 ⟨v,rfl,hq,b8⟩;have V:=Y.trans b8))
 have HQ:=ae hq;have HG:=ae V;clear Y b7 b8 V hq hp;obtain⟨av,cv,b9⟩:=HQ.out.form;rw[ap]at b9;subst b9;go_wp2_with fail
 refine(d5.out _).mono ?_;rintro e w3 ⟨rfl,c0⟩;have c1:=ae c0;clear c0;go_wp2_with fail
 have gB:Gr w3 (w3.alloc (.cells #[.string (cP n wd row)] 9)):=(Gr.refl w3).alloc _;have b0:=fh w3 (.string (cP n wd row)) 9;obtain⟨W4,c2⟩:∃W4,w3.alloc (.cells #[.string (cP n wd row)] 9)=W4:=⟨_,rfl⟩;rw[c2]at gB b0⊢;clear c2;have B:=K7 (PS.map (bp n wd)) (.slice av PS.length cv) 92 #[.pointer (some ⟨w3.heap.size,0,none⟩)] (fun x=>decide (aC (cP n wd row) x.1)) W4 (HQ.out.gr (c1.out.trans gB)) (by rw[ap];exact L.out) (fI func92 (by kernel_rfl) rfl) (fun W x g=>Rh W _ _ x (g.keeps b0));rw[c4.out]at B;have c3:=ae (c1.out.trans gB);clear gB b0;refine B.mono ?_;rintro e w5 ⟨rfl,a4⟩;have a3:=ae (c3.out.trans a4);have J:=ae (HG.out.trans (c3.out.trans a4));clear a4 B z;rcases d6.out with⟨q,H⟩|q
 ·subst q;cases I:nU PS row with
  |zero=>
   rw[I]at H;have d7:((PS.length:Nat):Int)=0:=by omega
   have s:dH n wd PS row=(⟨#[]⟩,[]):=by
    unfold dH;rw[I]
   have HR:Hid (⟨#[]⟩=(dH n wd PS row).1/\ci w w5 (.slice none 0 0) (dH n wd PS row).2/\Gr w w5):=ae ⟨by rw[s],by rw[s];exact bX _ _ _ _,J.out⟩;clear s;go_wp2_with fail
   go_ret3
   refine⟨.slice none 0 0,?_,HR.out.2⟩;rw[<-HR.out.1]
   rfl
  |succ k=>
   rw[I]at H;have d7:((PS.length:Nat):Int)=((k+1:Nat):Int):=by omega
   have Z:k<PS.length:=by have:=uw PS row;omega
   have s:dH n wd PS row=((bp n wd PS[k]).1,PS[k]):=by
    unfold dH;rw[I];simp only[aV Z]
   obtain⟨b,cp,e1,hb,k0,k1⟩:=zE (HQ.out.gr a3.out) Z;cases e1;have O:=Dp HW.out.ok (bj Z) w5;have a5:=ae O;have Q:=ae s;have d8:dZ.wrap (((k+1:Nat):Int)-1)=(k:Int):=by rw[cL];have:=L.out;omega
   have d9:ea (k:Int)=(k:Int):=by unfold ea;have:=L.out;omega
   have e0:(k:Int)<(PS.length:Int):=by omega
   have e2:¬((k+1:Nat):Int)=0:=by omega
   have e3:¬((k+1:Nat):Int)<0:=by omega
   have K0:=ae k0;clear O s k0;go_wp2_with fail
   refine a5.out.mono ?_;rintro e w6 ⟨v6,rfl,D,G⟩;have k0:=G.keeps K0.out;have HR:Hid ((bp n wd PS[k]).1=(dH n wd PS row).1/\ci w w6 v6 (dH n wd PS row).2/\Gr w w6):=ae ⟨by rw[Q.out],by rw[Q.out];exact D.back J.out,J.out.trans G⟩;obtain⟨a6,c6,a7⟩:=D.own.form;clear D G;subst a7;go_wp2_with fail
   go_ret3
   refine⟨_,?_,HR.out.2⟩;rw[<-HR.out.1]
   rfl
 cases I:nU PS row with
 |zero=>
  rw[I]at q;subst q;have s:dH n wd PS row=(⟨#[]⟩,[]):=by
   unfold dH;rw[I]
  have HR:Hid (⟨#[]⟩=(dH n wd PS row).1/\ci w w5 (.slice none 0 0) (dH n wd PS row).2/\Gr w w5):=ae ⟨by rw[s],by rw[s];exact bX _ _ _ _,J.out⟩;clear s;go_wp2_with fail
  go_ret3
  refine⟨.slice none 0 0,?_,HR.out.2⟩;rw[<-HR.out.1]
  rfl
 |succ k=>
  rw[I]at q;subst q;have Z:k<PS.length:=by have:=uw PS row;omega
  have s:dH n wd PS row=((bp n wd PS[k]).1,PS[k]):=by
   unfold dH;rw[I];simp only[aV Z]
  obtain⟨b,cp,e1,hb,k0,k1⟩:=zE (HQ.out.gr a3.out) Z;cases e1;have O:=Dp HW.out.ok (bj Z) w5;have a5:=ae O;have Q:=ae s;have d8:dZ.wrap (((k+1:Nat):Int)-1)=(k:Int):=by rw[cL];have:=L.out;omega
  have d9:ea (k:Int)=(k:Int):=by unfold ea;have:=L.out;omega
  have e0:(k:Int)<(PS.length:Int):=by omega
  have e2:¬((k+1:Nat):Int)=0:=by omega
  have e3:¬((k+1:Nat):Int)<0:=by omega
  have K0:=ae k0;clear O s k0;go_wp2_with fail
  refine a5.out.mono ?_;rintro e w6 ⟨v6,rfl,D,G⟩;have k0:=G.keeps K0.out;have HR:Hid ((bp n wd PS[k]).1=(dH n wd PS row).1/\ci w w6 v6 (dH n wd PS row).2/\Gr w w6):=ae ⟨by rw[Q.out],by rw[Q.out];exact D.back J.out,J.out.trans G⟩;obtain⟨a6,c6,a7⟩:=D.own.form;clear D G;subst a7;go_wp2_with fail
  go_ret3
  refine⟨_,?_,HR.out.2⟩;rw[<-HR.out.1]
  rfl
end
def lM(pg:Nat->ByteArray)(n wd:ByteArray)(Q:Ch->Tr->Prop):List (List aa)->Ch->Tr->Prop
 |[],c,X=>Q c X
 |l::b,c,X=>X.lays c pg 3/\∃q s,kh c 3 X (bp n wd l).1 (bp n wd l).2=(q,s,0)/\lM pg n wd Q b q s
theorem lM.mono{pg:Nat->ByteArray}{n wd:ByteArray}{Q Q':Ch->Tr->Prop}(q:∀c X,Q c X->Q' c X):∀{b:List (List aa)} {c:Ch} {X:Tr},lM pg n wd Q b c X->lM pg n wd Q' b c X
 |[],_,_,h=>q _ _ h
 |_::_,_,_,⟨s,y,z,B,D⟩=>⟨s,y,z,B,D.mono q⟩
structure vv(pg:Nat->ByteArray)(n wd old:ByteArray)(l:List aa)(Q:Ch->Tr->Prop)(c:Ch)(X:Tr):Prop where
 cut:fV l
 inr:∀p∈l,iD p=true
 len:l.length<=100000
 op:(old=⟨#[]⟩/\lM pg n wd Q (kA l) c X)\/(old≠⟨#[]⟩/\∃c1 X1,mo c 3 X old=(c1,X1,0)/\lM pg n wd Q (kA l) c1 X1)
theorem vv.mono{pg:Nat->ByteArray}{n wd old:ByteArray}{l:List aa}{Q Q':Ch->Tr->Prop}(s:∀c X,Q c X->Q' c X){c:Ch}{X:Tr}(h:vv pg n wd old l Q c X):vv pg n wd old l Q' c X:=by
 refine⟨h.cut,h.inr,h.len,?_⟩;rcases h.op with⟨b,q⟩|⟨b,y,z,q,B⟩
 ·exact .inl ⟨b,q.mono s⟩
 exact .inr ⟨b,y,z,q,B.mono s⟩
abbrev Ct:Type:=ByteArray->List aa
def GK(L:Ct)(wd:ByteArray)(x:List aa):Ct:=fun b=>if b=wd then x else L b
structure mD(pg:Nat->ByteArray)(n:ByteArray)(V:Nat)(L:Ct)(N:Nat)(K:LP)(c:Ch)(X:Tr):Prop where
 tg:TG pX pg bw 3 c X K bw 0 V (fun y=>y∈K.map dh)
 BI:(K=[]/\N=0)\/bV K bw=some (iA N)
 has:∀wd,cI wd->∃PS,fd K (dx n wd)=PS.map (bp n wd)/\ie PS/\PS.flatten=L wd
 small:∀wd,∀p∈L wd,gI p
 keys:∀e∈K,e.1=bw\/∃wd r,cI wd/\wd.size<=12/\(1<=r/\r<=1073741824)/\e.1=cP n wd r
theorem jc{b:Type}[DecidableEq b](lt:b->b->Bool)(l:List b):(setOf lt l).length<=l.length:=by
 unfold setOf;have:=ig (l.mergeSort fun x y=>!lt y x);rw[List.length_mergeSort]at this;exact this
theorem v_{l:List aa}(h:bU af l):l.Nodup:=h.imp fun{a b} q e=>by
 subst e;rw[eD]at q;omega
theorem xh:∀{l m:List aa},l.Nodup->(∀p∈l,p∈m)->l.length<=m.length
 |[],_,_,_=>cf _
 |a::l,m,h,y=>by
  obtain⟨z,B⟩:=List.nodup_cons.1 h;obtain⟨s,t,rfl⟩:=List.append_of_mem (y a aQ);have D:=xh (m:=s++t) B fun p q=>by
   rcases bz.1 (y p (aJ _ q))with b|b
   ·exact bh _ b
   rcases bv.1 b with e|b
   ·rw[e]at q;exact absurd q z
   exact bu _ b
  rw[bt]at D⊢;rw[aX,aX];omega
theorem Rk{l m:List aa}(h:bU af l)(b:∀p∈l,p∈m):l.length<=(setOf af m).length:=
 xh (v_ h) fun p q=>(bO _ _ _).2 (b p q)
theorem zG:∀K:LP,2*K.length<=aZ pX K
 |[]=>cf _
 |x::K=>by
  have b:=zG K;have q:=vu x.1 x.2;have s:pz x.1 x.2=2+x.1.size+x.2.size:=rfl;rw[gC,aX];omega
theorem sF(p:ByteArray×ByteArray->Bool):∀K:LP,aZ pX (K.filter p)<=aZ pX K
 |[]=>bP _
 |x::K=>by
  have b:=sF p K;rw[eY]
  split
  ·rw[gC,gC];omega
  rw[gC];omega
theorem NJ{K:LP}(k v:ByteArray):∀y∈K.map dh,y∈(au K k v).map dh:=fun y q=>by
 obtain⟨e,b,rfl⟩:=dJ.1 q;unfold au;rw[dQ,ch];rcases kN e.1 k with h|h|h
 ·exact bh _ (bB (cj.2 ⟨b,decide_eq_true h⟩))
 ·rw[h];exact bu _ aQ
 exact bu _ (aJ _ (bB (cj.2 ⟨b,decide_eq_true h⟩)))
theorem Rl{K:LP}{k v:ByteArray}(h:bV K k=some v):k∈K.map dh:=by
 unfold bV at h;cases hf:K.find? (fun x=>decide (x.1=k))with
 |none=>rw[hf]at h;cases h
 |some x=>
  have b:=List.find?_some hf;have q:=List.mem_of_find?_eq_some hf;have s:x.1=k:=by simpa using b
  rw[<-s];exact bB q
section
variable{pg:Nat->ByteArray}{n:ByteArray}{V N:Nat}{L:Ct}{K:LP}{c:Ch}{X:Tr}
theorem mD.get(h:mD pg n V L N K c X):(X.get bw=none/\N=0)\/X.get bw=some (iA N):=by
 rw[h.tg.get (bL _)];rcases h.BI with⟨b,q⟩|b
 ·refine .inl ⟨?_,q⟩;rw[b]
  rfl
 exact .inr b
theorem mD.parts(h:mD pg n V L N K c X){wd:ByteArray}{PS:List (List aa)}(ok:ie PS)(e:PS.flatten=L wd):∀l∈PS,l≠[]/\(∀p∈l,gI p)/\bU af l:=fun l b=>
 ⟨(ok.pc.ne l b).1,fun p q=>h.small wd p (by rw[<-e];exact fe.2 ⟨l,b,q⟩),ok.up l b⟩
theorem mD.TT(h:mD pg n V L N K c X)(hn:cI n)(q:n.size<=1){wd:ByteArray}(hw:cI wd){PS:List (List aa)}(b:fd K (dx n wd)=PS.map (bp n wd))(ok:ie PS)(e:PS.flatten=L wd):(19+wd.size)*(L wd).length<=V:=by
 have s:=Ds hn hw q (h.parts ok e);rw[<-e,<-s];unfold ny;rw[<-b];exact be (sF _ K) h.tg.aZ
theorem mD.TU(h:mD pg n V L N K c X)(hn:cI n)(y:n.size<=1)(D:V<12145){wd:ByteArray}(hw:cI wd){PS:List (List aa)}(b:fd K (dx n wd)=PS.map (bp n wd))(ok:ie PS)(e:PS.flatten=L wd):yp X n wd PS:=by
 have q:=h.tg.walk (s:=dx n wd) (dO (AG n wd));refine⟨by rw[q,Gq h.tg.IZ,b],ok,?_,?_⟩
 ·rw[q];have z:(jt K (dx n wd)).length<=K.length:=dU _ _;have B:=zG K;have G:=h.tg.aZ;omega
 have z:=h.TT hn y hw b ok e;rw[e];have B:(L wd).length<=(19+wd.size)*(L wd).length:=cK _ (by omega);omega
theorem Lr(m:Nat):pX bw (iA m)=12:=by
 have b:pz bw (iA m)=12:=by
  unfold pz;rw[xc]
  rfl
 unfold pX;rw[b];have q:fU bw.data.toList=some [⟨0,0,⟨#[]⟩⟩]:=by rfl
 rw[q]
 rfl
theorem mD.Yn(h:mD pg n V L N K c X){b:Nat}(I:(K=[]/\b=V+12)\/(K≠[]/\b=V))(M:b<12145)(m:Nat):
  ∃z B J,kh c 3 X bw (iA m)=(z,B,0)/\mD pg n b L m J z B/\bV J bw=some (iA m):=by
 have Y:pX bw (iA m)-oz pX K bw=b-V/\V<=b:=by
  rw[Lr];rcases I with⟨q,D⟩|⟨q,D⟩
  ·rw[q,CV (by rfl)];omega
  rcases h.BI with⟨G,_⟩|G
  ·exact absurd G q
  rw[KT G,Lr];omega
 have O:=((h.tg.add (b-V)).less (r':=0+(pX bw (iA m)-oz pX K bw)) (V':=b) (A':=fun y=>y∈(au K bw (iA m)).map dh) (by omega) (by omega) (fun y H=>NJ _ _ y H));obtain⟨z,B,q,D⟩:=O.put vu (by omega) (fun _=>rfl) (by decide) (by rw[xc];omega) M (fun y H=>H);refine⟨z,B,_,q,⟨D,.inr (yl h.tg.IZ _ _),fun wd hw=>?_,h.small,fun e s=>?_⟩,yl h.tg.IZ _ _⟩
 ·obtain⟨Q,S,U⟩:=h.has wd hw;exact⟨Q,by rw[vV h.tg.IZ _ (EU n wd)];exact S,U⟩
 rcases oL s with s|s
 ·exact h.keys e s
 rw[s];exact .inl rfl
theorem zH{ω:Wt}{w:ByteArray}{D:LP}{B:List (List aa)}{S:Nat}(q:∀k v,pz k v<=ω k v)(hn:cI n)(hw:cI w)(s:n.size+w.size<=13)(G:V<12145):
  ∀(b:List (List aa)) {c:Ch} {X:Tr} {K:LP} {A:List (List aa)},E_ ω pg 3 n w c X K D A b B V S->lM pg n w (fun y z=>∃I,E_ ω pg 3 n w y z I D (A++b) [] B V S) b c X
 |[],c,X,K,A,h=>⟨K,by rw[dS];exact h⟩
 |l::b,c,X,K,A,h=>by
  obtain⟨y,z,J,L⟩:=h.put q (by omega) hn hw s G;obtain⟨_,_,M,_⟩:=h.tg;refine⟨M.lays,y,z,J,(zH q hn hw s G b L).mono fun Q U ⟨O,H⟩=>⟨O,?_⟩⟩;rw[eH,List.singleton_append]at H;exact H
theorem Fa{a b:List aa}(h:a≠[]):rowOf (a++b)=rowOf a:=by
 cases a with
 |nil=>exact absurd rfl h
 |cons p r=>rfl
theorem NK{P l:List aa}{row:Int}(I:P≠[])(J:bU af P)(L:∀p∈l,p.1=row)(H:rowOf P<=row)(hc:fV (setOf af (P++l))):∃m∈kA (setOf af (P++l)),rowOf m=rowOf P:=by
 obtain⟨y,M⟩:=yk hc;obtain⟨G,b,S⟩:=ip I;have s:setOf af (P++l)≠[]:=fun e=>by
  have:=(bO af (P++l) G).2 (bh _ b);rw[e]at this;cases this
 cases z:kA (setOf af (P++l))with
 |nil=>rw[z]at y;exact absurd y.symm s
 |cons m r=>
  refine⟨m,aQ,?_⟩;have D:m≠[]:=(M.ne m (by rw[z];exact aQ)).1;have O:rowOf m=rowOf (setOf af (P++l)):=by
   rw[<-y,z,cs,Fa D]
  rw[O];obtain⟨q,Q,U⟩:=ip s;have V:=ol (cx bI (P++l)) G ((bO _ _ _).2 (bh _ b));rcases bz.1 ((bO _ _ _).1 Q)with B|B
  ·have:=ol J q B;omega
  have:=L q B;omega
theorem Ls{K:LP}{s:ByteArray}{e:ByteArray×ByteArray}(h:e∈fd K s):e∈K:=(cj.1 h).1
theorem Du(L:Ct)(wd:ByteArray)(x:List aa):GK L wd x wd=x:=if_pos rfl
theorem AU(L:Ct){wd b:ByteArray}(x:List aa)(h:b≠wd):GK L wd x b=L b:=if_neg h
theorem mD.save(hn:cI n)(h1:n.size<=1)(h:mD pg n V L N K c X)(hK:bV K bw=some (iA N)){wd:ByteArray}(hw:cI wd)(hs:wd.size<=12){row:Int}{l:List aa}(hl:∀p∈l,p.1=row)(b2:∀p∈l,gI p)(hV:V+(19+wd.size)*l.length<12145):
  ∃PS,yp X n wd PS/\PS.flatten=L wd/\vv pg n wd (dH n wd PS row).1 (setOf af ((dH n wd PS row).2++l)) (fun U Y=>∃H,mD pg n (V+(19+wd.size)*l.length) (GK L wd (setOf af (L wd++l))) N H U Y/\bV H bw=some (iA N)) c X:=by
 obtain⟨PS,Z,ok,e⟩:=h.has wd hw;have c3:=h.TU hn h1 (by omega) hw Z ok e;have e6:=h.parts ok e;refine⟨PS,c3,e,?_⟩;have b3:∀p∈l,iD p=true:=fun p q=>(b2 p q).iD;have g9:=c3.Jf;have e7:l.length<=(19+wd.size)*l.length:=cK _ (by omega);have c4:l.length<=12145:=be e7 (by omega);have d3:PS.flatten.length<=12145:=by
  have h2:=h.TT hn h1 hw Z ok e;rw[e];have M:(L wd).length<=(19+wd.size)*(L wd).length:=cK _ (by omega);exact be M (be h2 (by omega))
 have a6:bV K bw≠none:=by rw[hK];simp
 have c5:∀(A P:List (List aa)) (B:List (List aa)) (G:sD PS A P B row) (hc:fV (setOf af (P.flatten++l))) (V' S:Nat),V'<=V+(19+wd.size)*l.length->
   ∀U Y H,E_ pX pg 3 n wd U Y H K (A++kA (setOf af (P.flatten++l))) [] B V' S->mD pg n (V+(19+wd.size)*l.length) (GK L wd (setOf af (L wd++l))) N H U Y/\bV H bw=some (iA N):=by
  intro A P B G hc V' S e8 U Y H s;obtain⟨_,b6⟩:=G.ok ok hl b3 hc;have a5:bV H bw=some (iA N):=s.rest.BI.trans hK;have d4:∀y∈K.map dh,y∈H.map dh:=fun y hy=>by
   obtain⟨x,hx,rfl⟩:=dJ.1 hy;rcases h.keys x hx with e1|⟨I,r,a7,_,_,e1⟩
   ·rw[e1];exact Rl a5
   have a9:preB (dx n I) x.1=true:=by rw[e1];exact lh n I r
   by_cases ew:I=wd
   ·subst ew;have a4:x∈fd K (dx n I):=cj.2 ⟨hx,a9⟩;rw[Z]at a4;obtain⟨m,J,rfl⟩:=dJ.1 a4;have Q:∀m2∈A++kA (setOf af (P.flatten++l))++B,(bp n I m2).1∈H.map dh:=fun m2 b4=>by
     have:bp n I m2∈fd H (dx n I):=by
      rw[s.is];exact bB b4
     exact bB (Ls this)
    rw[G.is]at J;rcases bz.1 J with J|J
    ·exact Q m (bh _ (bh _ J))
    rcases bz.1 J with J|J
    ·have e9:P=[m]:=by
      have:=G.one;cases P with
      |nil=>cases J
      |cons a r=>
       cases r with
       |nil=>rw[dg.1 J]
       |cons b r=>simp at this
     subst e9;have b0:m∈PS:=by rw[G.is];simp
     have e3:[m].flatten=m:=by simp
     rw[e3]at hc Q;obtain⟨m2,b4,e2⟩:=NK (ok.pc.ne m b0).1 (ok.up m b0) hl (G.low m (by simp)) hc;have:=Q m2 (bh _ (bu _ b4));unfold bp at this⊢;rw[e2]at this;exact this
    exact Q m (bu _ J)
   have a4:x∈fd K (dx n I):=cj.2 ⟨hx,a9⟩;rw[<-s.rest.Vy I a7 ew]at a4;exact bB (Ls a4)
  obtain⟨g0,_⟩:=s.done d4;refine⟨⟨g0.less (bP _) e8 fun y hy=>hy,.inr a5,fun I a7=>?_,fun I p q=>?_,fun x hx=>?_⟩,a5⟩
  ·by_cases ew:I=wd
   ·subst ew;refine⟨A++kA (setOf af (P.flatten++l))++B,s.is,?_,?_⟩
    ·have:=s.ok;rw[cW]at this;exact this
    rw[Du,<-e,<-b6,eH]
   obtain⟨g3,a1,a2,a3⟩:=h.has I a7;exact⟨g3,by rw[s.rest.Vy I a7 ew];exact a1,a2,by rw[AU _ _ ew];exact a3⟩
  ·by_cases ew:I=wd
   ·subst ew;rw[Du,bO]at q;rcases bz.1 q with q|q
    ·exact h.small I p q
    exact b2 p q
   rw[AU _ _ ew]at q;exact h.small I p q
  rcases s.rest.keys x hx with h2|⟨r,h2,M⟩
  ·exact h.keys x h2
  exact .inr ⟨wd,r,hw,hs,h2,M⟩
 have D:∀P:List aa,(∀p∈P,gI p)->∀p∈setOf af (P++l),gI p:=fun P hP p q=>by
  rcases bz.1 ((bO _ _ _).1 q)with q|q
  ·exact hP p q
  exact b2 p q
 have c8:∀P:List aa,(∀p∈P,gI p)->ny pX n wd (kA (setOf af (P++l)))=(19+wd.size)*(setOf af (P++l)).length:=fun P hP=>by
  have g4:=xg (cx bI (P++l)) (D P hP);obtain⟨p1,p2⟩:=yk g4;have:=Ds hn hw h1 (PS:=kA (setOf af (P++l))) fun m J=>⟨(p2.ne m J).1,fun p q=>D P hP p (by rw[<-p1];exact fe.2 ⟨m,J,q⟩),by
   have M:bU af (kA (setOf af (P++l))).flatten:=by rw[p1];exact cx bI _
   exact(List.pairwise_flatten.1 M).1 m J⟩
  rw[p1]at this;exact this
 cases h0:nU PS row with
 |zero=>
  have hR:dH n wd PS row=(⟨#[]⟩,[]):=by
   unfold dH;rw[h0]
  rw[hR];have G:=Lo ok h0;have hc:fV (setOf af ([]++l)):=xg (cx bI _) (D [] fun p q=>by cases q);have a8:=c8 [] fun p q=>by cases q
  have O:=jc af ([]++l);rw[cW]at O;have d5:(19+wd.size)*(setOf af l).length<=(19+wd.size)*l.length:=da _ O;rw[cW]at a8;refine⟨hc,fun p q=>(D [] (fun p q=>by cases q) p q).iD,by show(setOf af ([]++l)).length<=_;rw[cW];exact be O (be c4 (by omega)),.inl ⟨rfl,?_⟩⟩;have s:=TO (ω:=pX) hn hw h.tg a6 Z ok G hl b3 hc;refine(zH vu hn hw (by omega) (by omega) _ s).mono fun U Y ⟨H,M⟩=>⟨H,c5 [] [] PS G hc _ _ (by omega) U Y H M⟩
 |succ k=>
  have hk:k<PS.length:=by have:=uw PS row;omega
  have hR:dH n wd PS row=((bp n wd PS[k]).1,PS[k]):=by
   unfold dH;rw[h0];simp only[aV hk]
  rw[hR];have G:=Lp ok h0 hk;obtain⟨q1,q2,q3⟩:=e6 PS[k] (bj hk);have hc:fV (setOf af (PS[k]++l)):=xg (cx bI _) (D _ q2);have a8:=c8 PS[k] q2;have O:=jc af (PS[k]++l);rw[bt]at O;have g5:=Rk (m:=PS[k]++l) q3 fun p q=>bh _ q;have d2:=PH hn hw h1 q1 q2 q3;have d5:(19+wd.size)*(setOf af (PS[k]++l)).length<=(19+wd.size)*PS[k].length+(19+wd.size)*l.length:=by
   rw[<-Nat.mul_add];exact da _ O
  have b9:(19+wd.size)*PS[k].length<=(19+wd.size)*(setOf af (PS[k]++l)).length:=da _ g5;have g6:PS[k].length<=PS.flatten.length:=by
   have M:PS=PS.take k++PS[k]::PS.drop (k+1):=by
    rw[<-bF hk,bW]
   have h4:=congrArg (fun z=>(fK z).length) M;simp only[bT,cs,bt]at h4;omega
  obtain⟨c1,X1,hd,s⟩:=TN (ω:=pX) vu (by omega) hn hw (by omega) h.tg a6 Z ok G hl b3 hc (by rw[a8,d2];exact b9);refine⟨hc,fun p q=>(D _ q2 p q).iD,by show(setOf af (PS[k]++l)).length<=_;exact be O (be (Nat.add_le_add (be g6 d3) c4) (by omega)),.inr ⟨fun e0=>?_,c1,X1,hd,?_⟩⟩
  ·have M:=congrArg gs e0;have h4:=pt n wd (rowOf PS[k]);have h5:(bp n wd PS[k]).1=cP n wd (rowOf PS[k]):=rfl;rw[h5,h4]at M;have h6:(⟨#[]⟩:ByteArray).size=0:=rfl;omega
  have e3:[PS[k]].flatten=PS[k]:=by simp
  have b1:V+(ny pX n wd (kA (setOf af (PS[k]++l)))-pX (bp n wd PS[k]).1 (bp n wd PS[k]).2)<=V+(19+wd.size)*l.length:=by
   rw[a8,d2];omega
  refine(zH vu hn hw (by omega) (Nat.lt_of_le_of_lt b1 hV) _ s).mono fun U Y ⟨H,M⟩=>⟨H,c5 _ [PS[k]] _ G (by rw[e3];exact hc) _ _ b1 U Y H (by rw[e3];exact M)⟩
end
def om(pg:Nat->ByteArray)(n:ByteArray)(row:Int)(ws:List ByteArray)(Q:Ch->Tr->Prop):List ByteArray->List ByteArray->Ch->Tr->Prop
 |_,[],c,X=>Q c X
 |b,wd::rest,c,X=>(wd∈b->om pg n row ws Q (wd::b) rest c X)/\(wd∉b->X.lays c pg 3/\∃PS,yp X n wd PS/\vv pg n wd (dH n wd PS row).1 (setOf af ((dH n wd PS row).2++fv row wd ws 0)) (om pg n row ws Q (wd::b) rest) c X)
def rC(L:Ct)(row:Int)(ws b:List ByteArray):Ct:=fun wd=>if wd∈b then setOf af (L wd++fv row wd ws 0)else L wd
theorem NM(L:Ct)(row:Int)(ws:List ByteArray){b:List ByteArray}{wd:ByteArray}(h:wd∉b):GK (rC L row ws b) wd (setOf af (rC L row ws b wd++fv row wd ws 0))=rC L row ws (wd::b):=by
 funext w2
 unfold GK rC;by_cases e:w2=wd
 ·subst e;rw[if_pos rfl,if_neg h,if_pos aQ]
 rw[if_neg e];by_cases q:w2∈b
 ·rw[if_pos q,if_pos (aJ _ q)]
 rw[if_neg q,if_neg (by simp[e,q])]
theorem Rm(L:Ct)(row:Int)(ws:List ByteArray){b:List ByteArray}{wd:ByteArray}(h:wd∈b):rC L row ws b=rC L row ws (wd::b):=by
 funext w2
 unfold rC;by_cases e:w2=wd
 ·subst e;rw[if_pos h,if_pos aQ]
 by_cases q:w2∈b
 ·rw[if_pos q,if_pos (aJ _ q)]
 rw[if_neg q,if_neg (by simp[e,q])]
section
variable{pg:Nat->ByteArray}{n:ByteArray}{N:Nat}{L:Ct}
theorem mD.Dv(hn:cI n)(b:n.size<=1){row:Int}(S:1<=row/\row<=8000){ws:List ByteArray}(G:ws.length<=20)(B:∀w∈ws,cI w/\w.size<=12):
  ∀(rest q:List ByteArray) {V:Nat} {K:LP} {c:Ch} {X:Tr},(∀w∈rest,w∈ws)->mD pg n V (rC L row ws q) N K c X->bV K bw=some (iA N)->V+ry ws q rest<12145->
   om pg n row ws (fun U Y=>∃M H,(∀w,w∈H↔w∈q\/w∈rest)/\mD pg n (V+ry ws q rest) (rC L row ws H) N M U Y/\bV M bw=some (iA N)) q rest c X
 |[],q,V,K,c,X,_,h,I,D=>⟨K,q,by simp,h,I⟩
 |wd::rest,q,V,K,c,X,y,h,I,D=>by
  obtain⟨hw,hs⟩:=B wd (y wd aQ);refine⟨fun hd=>?_,fun hd=>⟨h.tg.lays,?_⟩⟩
  ·have O:ry ws q (wd::rest)=ry ws (wd::q) rest:=if_pos hd;rw[O]at D⊢;have J:=mD.Dv hn b S G B rest (wd::q) (fun w hw=>y w (aJ _ hw)) (by rw[<-Rm L row ws hd];exact h) I D;have z:∀w,(w∈wd::q\/w∈rest)↔(w∈q\/w∈wd::rest):=fun w=>by
    simp only[bv]
    constructor
    ·rintro((b|b)|b)
     ·exact .inr (.inl b)
     ·exact .inl b
     exact .inr (.inr b)
    rintro(b|b|b)
    ·exact .inl (.inr b)
    ·exact .inl (.inl b)
    exact .inr b
   simpa only[z]using J
  have O:ry ws q (wd::rest)=(19+wd.size)*(fv 0 wd ws 0).length+ry ws (wd::q) rest:=if_neg hd;rw[O]at D⊢;rw[Dt (s:=row)]at D⊢;obtain⟨PS,h2,h3,h4⟩:=h.save hn b I hw hs (row:=row) (l:=fv row wd ws 0) (fun p Q=>(ux Q).1) (fun p Q=>by
   have:=ux Q;unfold gI;omega) (by omega)
  refine⟨PS,h2,h4.mono fun U Y ⟨M,Z,h6⟩=>?_⟩;rw[NM L row ws hd]at Z;have J:=mD.Dv hn b S G B rest (wd::q) (fun w hw=>y w (aJ _ hw)) Z h6 (by omega);have z:∀w,(w∈wd::q\/w∈rest)↔(w∈q\/w∈wd::rest):=fun w=>by
   simp only[bv]
   constructor
   ·rintro((b|b)|b)
    ·exact .inr (.inl b)
    ·exact .inl b
    exact .inr (.inr b)
   rintro(b|b|b)
   ·exact .inl (.inr b)
   ·exact .inl (.inl b)
   exact .inr b
  rw[Nat.add_assoc]at J;simpa only[z]using J
end
end
section
open Go Go.RowKit Go.Shelf Go.Lib Go.Sort
def Ub:bM->Nat| .slice _ n _=>n|_=>0
def nE(PB DB M:Nat)(w:az)(v:bM)(xs:List aa):Prop:=(v=.slice none 0 0/\xs=[])\/∃b q c,v=.slice (some ⟨b,q,none⟩) xs.length c/\xs.length<=c/\b<w.heap.size/\(b≠PB/\b≠DB/\b≠M)/\cq w b q xs
theorem nE.gr{PB DB M:Nat}{w w':az}{v:bM}{xs:List aa}(h:nE PB DB M w v xs)(g:Gr w w'):nE PB DB M w' v xs:=by
 rcases h with h|⟨b,q,c,s,y,z,B,D⟩
 ·exact .inl h
 exact .inr ⟨b,q,c,s,y,aS z g.size,B,D.gr g⟩
theorem nE.pg{PB DB M:Nat}{w w':az}{v:bM}{xs:List aa}(h:nE PB DB M w v xs)(g:aY PB DB M M w w'):nE PB DB M w' v xs:=by
 rcases h with h|⟨b,s,c,z,B,D,q,y⟩
 ·exact .inl h
 exact .inr ⟨b,s,c,z,B,aS D g.size,q,fun i hi=>⟨g.keeps q.1 q.2.1 q.2.2 (y i hi).1,g.keeps q.1 q.2.1 q.2.2 (y i hi).2⟩⟩
theorem nE.lZ{PB DB M:Nat}{w:az}{v:bM}{xs:List aa}(h:nE PB DB M w v xs):kT w v xs:=by
 rcases h with h|⟨b,q,c,s,B,y,D,z⟩
 ·exact .inl h
 exact .inr ⟨b,q,c,s,y,z⟩
theorem yy{w:az}{b q:Nat}{xs:List aa}(h:cq w b q xs)(n:Nat):cq w b q (xs.take n):=fun i hi=>by
 rw[bc]at hi;rw[List.getElem_take];exact h i (by omega)
theorem Js{w:az}{b q:Nat}{xs:List aa}(h:cq w b q xs)(n:Nat):cq w b (q+n*2) (xs.drop n):=fun i hi=>by
 rw[bC]at hi;rw[List.getElem_drop];have s:=h (n+i) (by omega);rw[show q+n*2+i*2=q+(n+i)*2 by omega];exact s
theorem DO(c:Int):∀(xs:List aa) (i:Nat),(∃p∈xs,p.1=c)->ez (fun _ (y:aa)=>y.1==c) default xs i=((i+fY xs c:Nat):Int)
 |[],_,h=>by
  obtain⟨p,b,_⟩:=h;cases b
 |x::xs,i,h=>by
  unfold fY;rw[List.findIdx_cons];cases q:(x.1==c)with
  |true=>simp[ez,q]
  |false=>
   simp only[ez,q,cond_false];have z:∃p∈xs,p.1=c:=by
    obtain⟨p,b,e⟩:=h;rcases bv.1 b with B|b
    ·rw[B]at e;simp[e]at q
    exact⟨p,b,e⟩
   have s:=DO c xs (i+1) z;unfold fY at s;simp only[eA,if_false];rw[s]
   congr 1
   omega
theorem Uc(W:az)(B:Nat)(k:Int)(x:aa)(h:W.cell? ⟨B,0,none⟩=some (.int .i64 k)):
  bZ prog 95 #[x.val,.pointer (some ⟨B,0,none⟩)] W (ar W (.bool (x.1==k))):=by
 obtain⟨b,q⟩:=x;unfold aa.val;have g1:Gr W (W.alloc (.cells #[.int .i64 b,.int .i64 q] 104)):=(Gr.refl W).alloc _;have s:(W.alloc (.cells #[.int .i64 b,.int .i64 q] 104)).cell? ⟨W.heap.size,0,none⟩=some (.int .i64 b):=by rw[ak];rfl
 have y:=g1.keeps h;go_enter func95,ntmps95;go_wp2_with fail
 go_ret;exact ar.mk rfl g1
def DP(l:List aa)(n:Nat):Prop:=0<n/\n<=l.length/\Whole l n/\∃f,n<=f/\qK l f n=nn l
theorem Jt{l:List aa}(b:l≠[]):DP l l.length:=⟨cg.2 b,bP _,fun p _ q s=>by simp at s,l.length,bP _,rfl⟩
theorem Od{l:List aa}{n:Nat}(h:DP l n)(hs:(cT (l.take n)).length<=100):n=nn l:=by
 obtain⟨q,_,_,f,s,b⟩:=h;cases f with
 |zero=>omega
 |succ f=>
  rw[<-b];unfold qK;rw[if_pos hs]
theorem LL{l:List aa}(hc:fV l){n:Nat}(h:DP l n)(hs:¬(cT (l.take n)).length<=100):DP l (fY l (fu (l.take n)))/\fY l (fu (l.take n))<n:=by
 obtain⟨z,b,B,f,D,q⟩:=h;obtain⟨s,y⟩:=Lh hc b hs;cases f with
 |zero=>omega
 |succ f=>
  refine⟨⟨s,by omega,uq hc.rows _,f,by omega,?_⟩,y⟩;rw[<-q]
  conv=>rhs;unfold qK
  rw[if_neg hs]
theorem VP{l:List aa}{n:Nat}(hn:0<n)(G:n<=l.length):(setOf aG ((l.take n).map (·.1)))[(setOf aG ((l.take n).map (·.1))).length/2]?=some (fu (l.take n))/\(setOf aG ((l.take n).map (·.1))).length/2<(setOf aG ((l.take n).map (·.1))).length/\∃p∈l,p.1=fu (l.take n):=by
 have z:setOf aG ((l.take n).map (·.1))≠[]:=by
  intro e;cases s:l.take n with
  |nil=>
   have h:=congrArg dr s;rw[bc,fy]at h;omega
  |cons p r=>
   have:=(bO aG ((l.take n).map (·.1)) p.1).2 (by rw[s];simp);rw[e]at this;cases this
 have y:=cg.2 z;have b:(setOf aG ((l.take n).map (·.1))).length/2<(setOf aG ((l.take n).map (·.1))).length:=by omega
 have e:(setOf aG ((l.take n).map (·.1)))[(setOf aG ((l.take n).map (·.1))).length/2]=fu (l.take n):=by
  unfold fu;rw[b_,aV b]
  rfl
 refine⟨by rw[aV b,e],b,?_⟩;have B:fu (l.take n)∈setOf aG ((l.take n).map (·.1)):=by rw[<-e];exact bj _
 obtain⟨p,D,q⟩:=dJ.1 ((bO aG _ _).1 B);exact⟨p,eb D,q⟩
end
section
open Go Go.RowKit
theorem ci.block{a0 w w':az}{v:bM}{xs:List aa}(h:ci a0 w v xs)(z:∀b,v.ownBlock=some b->w'.heap[b]?=w.heap[b]?):ci a0 w' v xs:=by
 obtain⟨B,q⟩:=h.row;refine⟨B,?_⟩;rcases q with q|⟨b,cap,s,hv,y,D,r⟩
 ·exact .inl q
 exact .inr ⟨b,cap,s,hv,y,by rw[z b (by rw[hv];rfl)];exact D,r⟩
theorem ci.Ud{a0 w:az}{v:bM}{xs:List aa}(h:ci a0 w v xs)(B:xs≠[]):∃b cap,v=.slice (some ⟨b,0,none⟩) xs.length cap/\a0.heap.size<=b/\b<w.heap.size/\v.ownBlock=some b/\∀y q,w.heap[b]?≠some (.map y q):=by
 obtain⟨I,D⟩:=h.row;rcases D with⟨_,G⟩|⟨b,cap,H,hv,s,z,r⟩
 ·exact absurd (cO G) B
 exact⟨b,cap,hv,s,(di.1 z).1,by rw[hv];rfl,fun y q e=>by rw[z]at e;cases e⟩
def Ju(v b:bM)(w w':az):Prop:=w.heap.size<=w'.heap.size/\∀k,k<w.heap.size->v.ownBlock≠some k->b.ownBlock≠some k/\w'.heap[k]?=w.heap[k]?
theorem uI{a0 w:az}{D:Array Oper}{rest:List Oper}{o:Oper}{a:Act}{Q:Exit->Act->az->Prop}(L:o.guard=none)(s x:Operand)
  (Y:o.op=.call {callee:=.builtin .append,args:=#[s,x],argTypes:=#[57,57]}) (v:bM) (us:List aa) (hs:a.eval s=v) (y:ci a0 w v us) (p:aa)
  (Z:a.eval x=.slice (some ⟨w.heap.size,0,none⟩) 1 1) (hl:us.length+1<=1000000) (U:Gr a0 w)
  (h:∀z w',ci a0 w' z (us++[p])->Gr a0 w'->Ju v z w w'->wpList prog D Q rest (a.put o.dst z) w'):wpList prog D Q (o::rest) a (w.alloc (.cells #[.int .i64 p.1,.int .i64 p.2] 104)):=by
 obtain⟨b,I,V⟩:∃b,prog.info? 104=some b/\(b.zero,b.size,b.bytes)=(some (.agg #[.int .i64 0,.int .i64 0]),2,16):=by
  have h:=lj;cases G:prog.info? 104 with
  |none=>rw[G]at h;cases h
  |some b=>rw[G]at h;exact⟨b,rfl,cl h⟩
 simp only[hI]at V;obtain⟨M,O,S⟩:=V;refine wpList_append_own_at _ L s x 57 Y a0.heap.size 104 b (.agg #[.int .i64 0,.int .i64 0]) 2 16 underlying57 I M O S rfl (by decide) v us.length (dp us) hs (y.row.alloc _) ⟨w.heap.size,0,none⟩ 1 1 [.int .i64 p.1,.int .i64 p.2] Z rfl ?_ (by intro u hu;simp only[bv,dD,or_false]at hu;rcases hu with rfl|rfl<;>rfl) (by unfold maxLen;omega) (by omega) (by have:=U.size;simp;omega)
  (fun z w' h1 J _ B=>h z w' (sA h1) (iG (U.alloc _) J (aP y.row)) ⟨by have:=J.size;simp at this;omega,fun k hk H=>⟨fun e=>by
   rcases B with B|B
   ·exact H (B.symm.trans e)
   rw[B]at e;have:=cl e;simp at this;omega,(J.block k (by simp;omega) (fun e=>H e.symm)).trans (Below.heap_alloc _ _ _ hk)⟩⟩)
 intro j u q;have he:(⟨w.heap.size,0,none⟩:Addr).add j=⟨w.heap.size,j,none⟩:=by
  unfold Addr.add
  split
  ·rename_i G;rw[G]
  simp
 rw[he,ak]
 match j,q with
 |0,q=>cases q;rfl
 |1,q=>cases q;rfl
 |j+2,q=>simp at q
structure uJ(a0 w:az)(F:ByteArray->Option bM)(G:ByteArray->List aa):Prop where
 RE:∀k,F k=none↔G k=[]
 own:∀k v,F k=some v->ci a0 w v (G k)
 apart:∀k k' v v',k≠k'->F k=some v->F k'=some v'->v.ownBlock≠v'.ownBlock
structure Oe(a0 w:az)(M n:Nat)(G:ByteArray->List aa):Prop where
 ex:∃F:ByteArray->Option bM,dy mb w M n F/\uJ a0 w F G
 lo:a0.heap.size<=M
theorem uJ.gr{a0 w w':az}{F:ByteArray->Option bM}{G:ByteArray->List aa}(h:uJ a0 w F G)(g:Gr w w'):uJ a0 w' F G:=⟨h.RE,fun k v hv=>(h.own k v hv).gr g,h.apart⟩
theorem Jv(w:az):(zeroValue 57).run prog w=.ok (.slice none 0 0) w:=by kernel_rfl
theorem mF:prog.underlying 100=some (.map 9 57):=by kernel_rfl
theorem mG{w:az}{M n:Nat}{F:ByteArray->Option bM}(h:dy mb w M n F):∃q b,w.heap[M]?=some (.map q b):=by
 obtain⟨D,⟨q,b,s,_⟩,_⟩:=h;exact⟨q,b,s⟩
theorem uJ.slot{a0 w:az}{M n:Nat}{F:ByteArray->Option bM}{G:ByteArray->List aa}(h:uJ a0 w F G)(B:dy mb w M n F)(k:ByteArray):ci a0 w ((F k).getD (.slice none 0 0)) (G k)/\((F k).getD (.slice none 0 0)).ownBlock≠some M:=by
 cases s:F k with
 |none=>
  refine⟨?_,fun e=>by cases e⟩;rw[(h.RE k).1 s];exact bX _ _ _ _
 |some v=>
  have hv:=h.own k v s;refine⟨hv,fun e=>?_⟩;obtain⟨D,q,H⟩:=mG B;obtain⟨b,cap,_,_,_,y,z⟩:=hv.Ud (fun I=>by rw[(h.RE k).2 I]at s;cases s);have e:v.ownBlock=some M:=e;rw[y]at e;cases e;exact z D q H
theorem uJ.step{a0 w V Y:az}{M n:Nat}{F:ByteArray->Option bM}{G:ByteArray->List aa}(h:uJ a0 w F G)(J:dy mb w M n F)(k:ByteArray){L:bM}{p:aa}(y:Ju ((F k).getD (.slice none 0 0)) L w V)(ho:ci a0 V L (G k++[p]))(hg:V.grownBy Y (some M)):
  uJ a0 Y (yx F k (some L)) (fun i=>if i=k then G k++[p]else G i):=by
 obtain⟨b3,O⟩:=h.slot J k;have a1:=(y.2 M J.lt O).1;have b4:=(y.2 M J.lt O).2;have z:∀j v,j≠k->F j=some v->∃b,v.ownBlock=some b/\b<w.heap.size/\L.ownBlock≠some b/\Y.heap[b]?=w.heap[b]?:=fun j v hj Q=>by
  have hv:=h.own j v Q;obtain⟨b,cap,_,_,B,q,S⟩:=hv.Ud (fun e0=>by rw[(h.RE j).2 e0]at Q;cases Q);have s:((F k).getD (.slice none 0 0)).ownBlock≠some b:=by
   cases hk:F k with
   |none=>intro e;cases e
   |some u=>
    have:=h.apart j k v u hj Q hk;rw[q]at this;exact fun e=>this e.symm
  obtain⟨m1,m2⟩:=y.2 b B s;have a2:b≠M:=fun e=>by
   obtain⟨es,H,I⟩:=mG J;rw[e]at S;exact S es H I
  exact⟨b,q,B,m1,(hg.block b (aS B y.1) (fun e=>a2 (cl e))).trans m2⟩
 refine⟨fun j=>?_,fun j v hv=>?_,fun j Z v u D hv hu=>?_⟩
 ·by_cases e:j=k
  ·subst e;rw[kU,if_pos rfl];simp
  rw[iV _ _ e,if_neg e];exact h.RE j
 ·by_cases e:j=k
  ·subst e;rw[kU]at hv;cases hv;rw[if_pos rfl];refine ho.block fun b I=>hg.block b (bd ho.row b I) fun e=>?_;have:=cl e;rw[this]at I;exact a1 I
  rw[iV _ _ e]at hv;rw[if_neg e];obtain⟨b,q,_,_,a3⟩:=z j v e hv;refine(h.own j v hv).block fun b2 U=>?_;rw[q]at U;cases U;exact a3
 by_cases e:j=k
 ·subst e;rw[kU]at hv;cases hv;rw[iV _ _ (fun e=>D e.symm)]at hu;obtain⟨b,q,_,s,_⟩:=z Z u (fun e=>D e.symm) hu;rw[q];exact s
 rw[iV _ _ e]at hv;obtain⟨b,q,_,s,_⟩:=z j v e hv;by_cases e':Z=k
 ·subst e';rw[kU]at hu;cases hu;rw[q];exact fun h=>s h.symm
 rw[iV _ _ e']at hu;exact h.apart j Z v u D hv hu
structure Bh(a0 w:az)(M n:Nat)(G:ByteArray->List aa)(lo:Nat):Prop where
 at0:a0.heap.size<=M
 ex:∃F:ByteArray->Option bM,dy mb w M n F/\uJ a0 w F G/\∀k v,F k=some v->∀b,v.ownBlock=some b->lo<=b
theorem Bh.gr{a0 w w':az}{M n:Nat}{G:ByteArray->List aa}{b:Nat}(h:Bh a0 w M n G b)(g:Gr w w'):Bh a0 w' M n G b:=by
 obtain⟨q,F,s,y,z⟩:=h;exact⟨q,F,s.gr g,y.gr g,z⟩
theorem Bh.step{z w I Q B:az}{M n:Nat}{F:ByteArray->Option bM}{G:ByteArray->List aa}{q:Nat}(h0:z.heap.size<=M)(Y:uJ z w F G)(hm:dy mb w M n F)(hl:∀k v,F k=some v->∀b,v.ownBlock=some b->q<=b)(a9:q<=w.heap.size)(k:ByteArray){J:bM}{p:aa}
  (s:Ju ((F k).getD (.slice none 0 0)) J w I) (ho:ci z I J (G k++[p])) (Z:dy mb B M (n+1) (yx F k (some J))) (S:I.grownBy B (some M)) (U:Gr z w) (g1:Gr z I) (hx:ag (fun x=>x=M\/q<=x) Q w) (h2:q=Q.heap.size):
  Bh z B M (n+1) (fun i=>if i=k then G k++[p]else G i) q/\Gr z B/\ag (fun x=>x=M\/q<=x) Q B:=by
 have D:∀b,((F k).getD (.slice none 0 0)).ownBlock=some b->q<=b:=fun b H=>by
  cases V:F k with
  |none=>rw[V]at H;cases H
  |some v=>rw[V]at H;exact hl k v V b H
 have a0:∀b,J.ownBlock=some b->q<=b:=fun b H=>by
  rcases Nat.lt_or_ge b q with h|h
  ·have:=(s.2 b (by omega) (fun e=>by have:=D b e;omega)).1;exact absurd H this
  exact h
 have y:ag (fun x=>x=M) I B:=ag.ce S rfl;refine⟨⟨h0,_,Z,Y.step hm k s ho S,fun j v hv=>?_⟩,y.gr g1 (fun j e=>by have e:j=M:=e;omega),?_⟩
 ·by_cases e:j=k
  ·subst e;rw[kU]at hv;cases hv;exact a0
  rw[iV _ _ e]at hv;exact hl j v hv
 refine ag.trans hx ⟨y.1.trans (g1.os.trans U.os.symm),y.2.1.trans (g1.tape.trans U.tape.symm),y.2.2.1.trans (g1.output.trans U.output.symm),be s.1 S.size,fun x a1 L=>?_⟩;have h3:¬x=M:=fun e=>L (.inl e);have h4:¬q<=x:=fun e=>L (.inr e);have O:x<w.heap.size:=a1;exact(y.block (aS O s.1) h3).trans (s.2 x O (fun e=>h4 (D x e))).2
theorem Ue(row:Int)(s:ByteArray)(hs:s.size<=1000)(w:az)(he:fP w)(b9:(aD s).length<=1000)(hw:∀x∈aD s,x.size<=1000):
  bZ prog 41 #[.int .i64 row,.string s] w fun e J=>∃M,e=.returned (.map (some M))/\Oe w J M 1000 (fun wd=>fv row wd (aD s) 0)/\Gr w J:=by
 have q:=yr s (by omega);obtain⟨ws,a1⟩:∃ws,aD s=ws:=⟨_,rfl⟩;simp only[a1]at q b9 hw⊢;have c6:=ae q;have HE:=ae he;have h0:=@run_makeMap prog;clear q he a1 hs;go_enter func41,ntmps41;go_wp2_with fail
 have gA:Gr w (w.alloc (.map #[] 0)):=(Gr.refl w).alloc _;have L:∀n,Bh w (w.alloc (.map #[] 0)) w.heap.size 0 (fun wd=>fv row wd (ws.take 0) 0) n:=fun n=>⟨bP _,_,dy.made w,⟨fun k=>by simp[fv],(fun k v h=>by cases h),(fun k k' v v' _ h=>by cases h)⟩,fun k v h=>by cases h⟩;have q:=c6.out (w.alloc (.map #[] 0)) (HE.out.gr gA);have HG:=ae (And.intro gA L);clear gA L;refine q.mono ?_;rintro e w2 ⟨v2,rfl,a4,S⟩;obtain⟨ao,c,b,rfl,a5,a6⟩:=fk a4;have y:=(HG.out.2 w2.heap.size).gr S;have O:=HG.out.1.trans S;obtain⟨I,a7⟩:∃I,w.heap.size=I:=⟨_,rfl⟩;rw[a7]at y⊢;have a8:=ae y;have c7:=ae O;have c8:=ae a6;have c9:=ae a5;clear a4 S q y O a5 a6 a7;go_wp2_with fail
 go_loopw [12] (fun iv J=>∃i:Nat,i<=ws.length/\iv=.int .i64 i/\Bh w J I i (fun wd=>fv row wd (ws.take i) 0) w2.heap.size/\Gr w J/\ag (fun x=>x=I\/w2.heap.size<=x) w2 J) (fun iv _=>ws.length-(intOf iv).toNat)
 case atStart=>exact⟨0,cf _,rfl,a8.out,c7.out,ag.refl _ _⟩
 case round=>
  obtain⟨i,hi,rfl,B,hg,hx⟩:=hrel;by_cases G:i<ws.length
  ·have d0:(i:Int)<(ws.length:Int):=by omega
   have d1:=c9.out (by omega);subst d1;obtain⟨d2,F,hm,U,d3⟩:=B;have Q:=c8.out i G;rw[de]at Q;have h6:b≠I:=fun e=>by
    obtain⟨_,F0,d4,_⟩:=a8.out;obtain⟨es,e5,hb⟩:=mG d4;rw[e]at Q;simp[fl,hb]at Q
   have d5:=ad Q;have ck:=hx.keeps (fun e=>by omega) Q;obtain⟨k,hk⟩:∃k,ws[i]=k:=⟨_,rfl⟩;rw[hk]at ck;have b2:k.size<=maxLen:=by
    have:=hw ws[i] (bj G);rw[hk]at this;unfold maxLen;omega
   have V:=U.slot hm k;obtain⟨vk,Y⟩:∃vk,(F k).getD (.slice none 0 0)=vk:=⟨_,rfl⟩;rw[Y]at V;have b3:=ae V;have H:=ae hm;have d6:=ae U;have b4:=ae Y;have b5:=ae hg;have b6:=ae hx;have HK:=ae hk;have b7:(fv row k (ws.take i) 0).length+1<=1000000:=by
    have h3:∀(Z:List ByteArray) (j:Nat),(fv row k Z j).length<=Z.length:=fun Z=>by
      induction Z with
      |nil=>intro j;exact bP _
      |cons x Z ih=>
        intro j;have:=ih (j+1);unfold fv
        split
        ·rw[aX,aX];omega
        rw[aX];omega
    have h4:=h3 (ws.take i) 0;rw[bc]at h4;omega
   have d7:=ae b7;clear hm U hg hx Q hk V Y b7 d5;go_wp2_with(first
    |( at_lookup;refine Fj (kk:=mb) mF Jv rfl _ _ rfl H.out rfl (k:=k) rfl b2 b4.out ?_)
    |( at_builtin;refine uI (a0:=w) rfl _ _ rfl _ (fv row k (ws.take i) 0) rfl b3.out.1 (row,(i:Int)) rfl d7.out b5.out ?_;intro v3 w3 d8 d9 z)
    |( at_mapUpdate;refine uH (kk:=mb) mF rfl _ _ _ rfl (H.out.block (z.2 I H.out.lt b3.out.2).2) (by omega) rfl (k:=k) rfl b2 rfl ?_;intro w4 e0 e1))
   rw[<-b4.out]at z;obtain⟨s1,s2,s3⟩:=Bh.step d2 d6.out H.out d3 b6.out.2.2.2.1 k z d8 e0 e1 b5.out d9 b6.out rfl;refine⟨⟨i+1,G,by go_num,?_,s2,s3⟩,by simp[intOf];omega⟩;have e:(fun j=>if j=k then fv row k (ws.take i) 0++[(row,(i:Int))]else fv row j (ws.take i) 0)=fun wd=>fv row wd (ws.take (i+1)) 0:=by
    funext j
    rw[aU G,AS,HK.out];have e2:(ws.take i).length=i:=by rw[bc];omega
    rw[e2,de];by_cases ej:j=k
    · subst ej
      rw[if_pos rfl];unfold fv;rw[if_pos rfl]
      rfl
    rw[if_neg ej];have:fv row j [k] i=[]:=uy.2 (by simpa using ej);rw[this,dS]
   rw[e]at s1;exact s1
  have d0:¬(i:Int)<(ws.length:Int):=by omega
  have b8:ws.take i=ws:=cD (by omega);rw[b8]at B;have HE:=ae (And.intro B hg);clear B hg hx b8;go_wp2_with fail
  go_ret;obtain⟨h3,F,h1,h2,_⟩:=HE.out.1;obtain⟨D,h4,h5⟩:=h1;exact⟨I,rfl,⟨⟨F,⟨D,h4.mono (by omega),h5⟩,h2⟩,h3⟩,HE.out.2⟩
end
section
open Go Go.RowKit Go.Shelf Go.Lib Go.Sort
theorem yE(b:List (List UInt8)):fS b=aq b:=by
 have y:∀m,m<=b.length->Lib.compactUpTo b.toArray m=aq (b.take m):=by
  intro m
  induction m with
  |zero=>intro _;rfl
  |succ m D=>
   intro G;rw[Lib.compactUpTo_succ,D (by omega)];rcases Nat.eq_zero_or_pos m with rfl|z
   ·have:gf b.toArray 0=true:=by simp[gf]
    rw[this,if_pos rfl]
    match b,G with
    |a::t,_=>simp[aq]
   rw[jq b m z (by omega)];have s:b.toArray[m]! =b[m]:=by simp[show m<b.length by omega]
   have B:b.toArray[m-1]! =b[m-1]'(by omega):=by simp[show m-1<b.length by omega]
   by_cases q:b[m]=b[m-1]'(by omega)
   ·rw[if_pos q,Lib.keeps_neg z (by rw[s,B];exact q)];simp
   rw[if_neg q,Lib.keeps_pos (by rw[s,B];exact q),if_pos rfl,s]
 unfold fS;rw[y _ (bP _),dF]
theorem uP:∀ws:List ByteArray,aq (ws.map fun x=>x.data.toList)=(aq ws).map fun x=>x.data.toList
 |[]=>rfl
 |[a]=>rfl
 |a::b::t=>by
  have y:=uP (b::t);rw[ch,ch]at*;by_cases e:a=b
  ·subst e;have q:aq (a::a::t)=aq (a::t):=if_pos rfl;have s:aq (a.data.toList::a.data.toList::t.map fun x=>x.data.toList)=aq (a.data.toList::t.map fun x=>x.data.toList):=if_pos rfl;rw[q,s];exact y
  have z:¬a.data.toList=b.data.toList:=fun h=>e (bE h);have q:aq (a::b::t)=a::aq (b::t):=if_neg e;have s:aq (a.data.toList::b.data.toList::t.map fun x=>x.data.toList)=a.data.toList::aq (b.data.toList::t.map fun x=>x.data.toList):=if_neg z;rw[q,s,ch,y]
def Yx(w:az)(v:bM)(ws:List ByteArray):Prop:=∃(q:Option Addr) (c b:Nat),v=.slice q ws.length c/\(0<ws.length->q=some ⟨b,0,none⟩/\b<w.heap.size)/\iE w b 0 ws
theorem Fo(a0 w:az)(v:bM)(ws:List ByteArray)(h:iB w a0.heap.size v ws)(y:Gr a0 w)(hl:ws.length<=1000000):
  bZ prog 66 #[v] w fun e z=>∃O,e=.returned O/\Yx z O (aq ws)/\Gr a0 z:=by
 have hc:=fun g y=>fT (g:=g) h y;rcases h.2 with⟨rfl,Y⟩|⟨g,cap,a5,rfl,Z,Q,a6,_⟩
 ·have:ws=[]:=cO Y;subst this;refine(Tryz.slices_Compact_string_empty none 0 w).mono ?_;rintro e z ⟨rfl,rfl⟩;exact⟨_,rfl,⟨none,0,0,rfl,(fun h=>absurd h (Nat.lt_irrefl _)),fun i hi=>absurd hi (Nat.not_lt_zero _)⟩,y⟩
 have J:=(di.1 Q).1;have e:∀j,(⟨g,0,none⟩:Addr).add j=⟨g,0+j,none⟩:=by
  intro j;unfold Addr.add;split<;>simp_all
 have S:Holds fM w g 0 (ws.map fun x=>x.data.toList).toArray:=fun j hj=>by
  have B:j<ws.length:=by simpa using hj
  have U:=hc g rfl j (.string ws[j]) (by simp[B]);rw[e]at U;refine⟨?_,Lib.frozen_of_heap Q _⟩;rw[U];simp[B,fM]
 have s:=Tryz.slices_Compact_string g 0 cap (ws.map fun x=>x.data.toList) w S (by rw[ap];omega) (by rw[ap];omega);rw[yE,uP,ap,ap]at s;refine s.mono ?_;rintro e2 z ⟨rfl,q,rfl⟩;have a7:=ig ws;obtain⟨D,I⟩:∃D,(gw (fun x:ByteArray=>x.data.toList) (aq ws)++List.replicate (ws.length-(aq ws).length) []).toArray=D:=⟨_,rfl⟩;have G:D.size=ws.length:=by
  rw[<-I];simp;omega
 have L:=holds_putRow fM (eB w q) g 0 (ws.map fun x=>x.data.toList).toArray D (holds_ahead _ _ q _ _ _ S) (by rw[G];simp);have hs:(gc fM (eB w q) g 0 D).heap.size=w.heap.size:=by
  unfold gc mapBlock;simp[eB]
 rw[I];refine⟨_,rfl,⟨some ⟨g,0,none⟩,cap,g,rfl,fun _=>⟨rfl,by rw[hs];exact J⟩,fun i hi=>?_⟩,?_⟩
 ·have h7:=(L i (by rw[G];omega)).1;have H:i<(gw (fun x:ByteArray=>x.data.toList) (aq ws)).length:=by rw[ap];exact hi
  have h8:D[i]! =(aq ws)[i].data.toList:=by
   rw[<-I];simp only[List.getElem!_toArray];rw[List.getElem!_eq_getElem?_getD,List.getElem?_append_left H,aV H];simp
  rw[h7,h8]
 have gx:ag (fun b=>b=g) w (gc fM (eB w q) g 0 D):=⟨rfl,rfl,rfl,by rw[hs];exact bP _,fun k V M=>by
  unfold gc mapBlock;simp[Array.getElem?_modify,Ne.symm M]⟩
 exact gx.gr y fun k V=>by rw[V];exact Z
structure Uk(X:Tr)(n:ByteArray)(ls:List (ByteArray×Int×ByteArray)):Prop where
 is:(mq X (jL n)).takeWhile (fun x=>preB (jL n) x.1)=ls.map fun e=>(cP n e.1 e.2.1,e.2.2)
 ok:∀e∈ls,cI e.1/\(1<=e.2.1/\e.2.1<=1073741824)
 len:(mq X (jL n)).length<=1000000
def nW(s:ByteArray)(ls:List (ByteArray×Int×ByteArray)):List ByteArray:=(ls.map (·.1)).filter fun x=>preB s x
theorem On(s:ByteArray)(ls:List (ByteArray×Int×ByteArray))(i:Nat)(h:i<ls.length):nW s (ls.take (i+1))=nW s (ls.take i)++if preB s ls[i].1 then[ls[i].1]else[]:=by
 unfold nW;rw[aU h,dQ,List.filter_append]
 congr 1
 simp only[ch,List.map_nil,eY,List.filter_nil]
theorem DX(s:ByteArray)(ls:List (ByteArray×Int×ByteArray)):(nW s ls).length<=ls.length:=by
 unfold nW;have:=dU (fun x=>preB s x) (ls.map (·.1));rw[ap]at this;exact this
section
variable{w:az}{FP TP PB DB M:Nat}{c:Ch}{sv:Head}{t:Int}{d:Dk}
theorem Ul(h:jn w FP TP PB DB M c sv t d)(b5:mA w){X:Tr}(hl:X.lays c d.pg 3){n:ByteArray}(hn:cI n){ls:List (ByteArray×Int×ByteArray)}(Y:Uk X n ls)(s:ByteArray):
  bZ prog 18 #[.pointer (some ⟨FP,0,none⟩),.string n,.string s] w fun e w'=>∃v,e=.returned (.tuple #[v,.nilIface])/\Yx w' v (aq (nW s ls))/\Gr w w':=by
 obtain⟨i0,b7,b8,e4,e5⟩:=info_parts lN;have hp:=h.p;have i7:ls.length<=1000000:=by
  have h1:=Y.len;have h2:=congrArg dr Y.is;rw[ap]at h2;have h3:=(cF (fun x=>preB (jL n) x.1) (l:=mq X (jL n))).length_le;omega
 have y:=fun(W:az) (g:Gr w W)=>Gu (h.pg.gr g) (h.t.gr g) (by omega) (jL n) hl Y.len;rw[Y.is]at y;have c2:=I5 [ia n] w.heap.size 1 _ (Nu w n) (jM hn.aE rq) (by simp);have gA:Gr w (w.alloc (.cells #[.int .i64 2,.int .i64 0,.string n] 132)):=(Gr.refl w).alloc _;have e6:=ae y;have e7:Hid (bZ prog 63 #[.slice (some ⟨w.heap.size,0,none⟩) 1 1] (w.alloc (.cells #[.int .i64 2,.int .i64 0,.string n] 132)) (ar (w.alloc (.cells #[.int .i64 2,.int .i64 0,.string n] 132)) (.tuple #[.string (jL n),.nilIface]))):=ae c2;have e8:=ae gA;have e9:=ae Y.ok;have g0:=ae b5;have HN:=ae hn;have c5:=ae (And.intro b7 b8);clear y c2 gA h Y hl b5 hn b7 b8;go_enter func18,ntmps18;go_wp2_with fail
 refine e7.out.mono ?_;rintro e w2 ⟨rfl,c6⟩;have z:=e8.out.trans c6;have g3:=z.keeps hp;have y:=e6.out w2 z;have g4:=ae y;have g5:=ae z;clear c6 z y;go_wp2_with fail
 refine g4.out.mono ?_;rintro e U ⟨v3,rfl,a5,c7⟩;obtain⟨a3,c3,c8⟩:=a5.form;rw[ap]at c8;subst c8;have g6:=ae a5;have c9:=ae (g5.out.trans c7);clear a5 c7 g3;go_wp2_with fail
 go_loopw [12,39] (fun ov iv w'=>∃i:Nat,i<=ls.length/\iv=.int .i64 i/\iB w' U.heap.size ov (nW s (ls.take i))/\Gr U w') (fun _ iv _=>ls.length-(intOf iv).toNat)
 case atStart=>exact⟨0,cf _,rfl,bX _ _ _ _,Gr.refl _⟩
 case round=>
  obtain⟨i,hi,rfl,V,Z⟩:=hrel;by_cases b:i<ls.length
  ·have g7:(i:Int)<(ls.length:Int):=by omega
   obtain⟨B,rfl,hB,I⟩:∃B,a3=some ⟨B,0,none⟩/\B<U.heap.size/\U.cell? ⟨B,i*2,none⟩=some (.string (cP n ls[i].1 ls[i].2.1))/\U.cell? ⟨B,i*2+1,none⟩=some (.string ls[i].2.2):=by
    rcases g6.out with⟨_,h2⟩|⟨B,cap,h1,h2,h3,h4⟩
    ·rw[en.1 h2]at b;exact absurd b (by simp)
    rw[ap]at h1;cases h1;have h5:=h4 i (by rw[ap];exact b);simp only[eV]at h5;exact⟨B,rfl,h3,h5⟩
   have D:=e9.out ls[i] (bj b);have J:=On s ls i b;have G:=DX s (ls.take i);rw[bc]at G;obtain⟨⟨wd,r,e1⟩,d0⟩:∃e,ls[i]=e:=⟨_,rfl⟩;rw[d0]at I D J;simp only at I D J;have c0:=Z.keeps I.1;have c1:=Z.keeps I.2;have a6:fU (cP n wd r).data.toList=some [ia n,ia wd,lE r]:=zw [ia n,ia wd,lE r] (jM HN.out.aE (jM D.1.aE (jM (ro D.2) rq)));have d1:(cP n wd r).size<4294967281:=by
    have h1:=HN.out.len;have h2:=D.1.len;rw[pt,size_data,size_data];omega
   have a7:=fun(W:az) (g:Gr w W)=>Px (cP n wd r) d1 W (g0.out.gr g);obtain⟨us,d2⟩:∃us,nW s (ls.take i)=us:=⟨_,rfl⟩;rw[d2]at V J G;obtain⟨K,hK⟩:∃K,cP n wd r=K:=⟨_,rfl⟩;rw[hK]at c0 a6 a7;have g8:=ae a7;have g9:=ae a6;have S:=ae J;have HO:=ae V;have HG:=ae Z;have a1:=ae G;clear I D J a6 d1 a7 hK d2 V Z d0 G;go_wp2_with fail
   have gP:Gr wr (wr.alloc (.cells #[.string K,.string e1] 140)):=(Gr.refl wr).alloc _;have a8:=HG.out.trans gP;have h0:=ae a8;have h6:=ae gP;have d3:=g8.out _ (c9.out.trans a8);refine d3.mono ?_;intro e w6 q;unfold li at q;rw[g9.out]at q;obtain⟨v6,rfl,d4,a9⟩:=q;obtain⟨k1,b6,k2,rfl,L,O⟩:=d4.Wy;have L:=L (by simp);subst L;have cw:w6.cell? ⟨b6,5,none⟩=some (.string wd):=(O 1 (by simp)).2.2;have d5:([ia n,ia wd,lE r]:List dl).length=3:=rfl;rw[d5];have Q:=aF HO.out (h6.out.trans a9);have d6:=ae (h0.out.trans a9);have a2:=ae Q;clear d3 d4 O d5 gP a8 a9 Q;cases H:preB s wd with
   |true=>
    rw[H,if_pos rfl]at S;have b0:=ae H;clear H;go_wp2_with(first
     |(go_at_call 60;refine(Tryz.strings_HasPrefix _ _ _).mono ?_;rintro e w7 ⟨rfl,rfl⟩;rw[pu,b0.out])
     |(at_builtin;refine bK (a0:=U) rfl _ _ 22 rfl 9 i0 (.string ⟨#[]⟩) 1 16 underlying22 c5.out.1 c5.out.2 e4 e5 rfl (by decide) _ us.length (us.map Value.string) rfl a2.out [_] rfl (by simp;rfl) rfl d6.out (by have:=a1.out;omega) (by have:=a1.out;omega) ?_;intro v8 w8 b3 h7))
    refine⟨⟨i+1,b,by go_num,?_,h7⟩,by simp[intOf];omega⟩;rw[S.out];unfold iB;rw[bt,dQ];exact b3
   |false=>
    rw[H,if_neg (by simp),dS]at S;have b0:=ae H;clear H;go_wp2_with(go_at_call 60;refine(Tryz.strings_HasPrefix _ _ _).mono ?_;rintro e w7 ⟨rfl,rfl⟩;rw[pu,b0.out])
    exact⟨⟨i+1,b,by go_num,by rw[S.out];exact a2.out,d6.out⟩,by simp[intOf];omega⟩
  have g7:¬(i:Int)<(ls.length:Int):=by omega
  have d7:ls.take i=ls:=cD (by omega);rw[d7]at V;have k3:=DX s ls;have d8:=Fo U wr _ _ V Z (by omega);have h8:=ae d8;obtain⟨ao,co,bo,h9,_,_⟩:=fk V;clear V d8 d7;subst h9;go_wp2_with fail
  refine h8.out.mono ?_;rintro e w4 ⟨v4,rfl,d9,e0⟩;have HE:=ae (And.intro d9 (c9.out.trans e0));obtain⟨a4,c4,b4,i1,_⟩:=d9;clear e0 Z;subst i1;go_wp2_with fail
  go_ret2;exact⟨_,rfl,HE.out.1,HE.out.2⟩
end
section
variable{w:az}{FP TP PB DB M:Nat}{c:Ch}{sv:Head}{t:Int}{d:Dk}
structure JH(Q:Ch->Tr->Prop)(w0 w:az)(FP TP PB DB M:Nat)(sv:Head)(t:Int)(d:Dk)(n wd:ByteArray)(v:bM)(rem:List aa):Prop where
 ex:∃c X,jn w FP TP PB DB M c sv t d/\lM d.pg n wd Q (kA rem) c X
 fr:aY PB DB M M w0 w
 ok:fV rem
 inr:∀p∈rem,iD p=true
 len:rem.length<=100000
 rem:nE PB DB M w v rem
theorem row_in{l:List aa}(h:∀p∈l,iD p=true)(b:l≠[]):1<=rowOf l/\rowOf l<=1073741824:=by
 obtain⟨p,q,e⟩:=ip b;have:=iM.1 (h p q);omega
theorem Mb{l:List aa}{k:Nat}(b:0<k):rowOf (l.take k)=rowOf l:=by
 cases l with
 |nil=>simp
 |cons p r=>
  cases k with
  |zero=>omega
  |succ k=>rfl
theorem OU{l:List aa}(h:0<l.length):rowOf l=l[0].1:=by
 cases l with
 |nil=>simp at h
 |cons p r=>rfl
theorem OV(n:Nat)(h:n<=100000):ea ((n:Int)/2)=((n/2:Nat):Int):=by
 unfold ea;omega
theorem Wf{Q:Ch->Tr->Prop}{n wd:ByteArray}(hn:cI n)(i2:cI wd)(hF:jn w FP TP PB DB M c sv t d){X:Tr}(hl:X.lays c d.pg 3){old:ByteArray}{l:List aa}
   (a3:vv d.pg n wd old l Q c X) {v:bM} (hv:nE PB DB M w v l):
   bZ prog 47 #[.pointer (some ⟨FP,0,none⟩),.string n,.string wd,.string old,v] w fun e J=>e=.returned .nilIface/\∃c' X',jn J FP TP PB DB M c' sv t d/\Q c' X'/\aY PB DB M M w J:=by
 have HO:=ae (And.intro hn i2);have hp:=hF.p;have i4:old≠⟨#[]⟩->∃Z X1,lM d.pg n wd Q (kA l) Z X1/\bZ prog 93 #[.pointer (some ⟨TP,0,none⟩),.string old] w fun e J=>e=.returned .nilIface/\cG J PB DB M Z sv t d/\aY PB DB M M w J:=fun G=>by
   rcases a3.op with⟨e,_⟩|⟨_,Z,X1,e,hq⟩
   · exact absurd e G
   refine⟨Z,X1,hq,?_⟩;have:=VO hF.pg hF.t hF.tn (by omega) old hl;rw[e]at this;exact this
 have i5:old=⟨#[]⟩->lM d.pg n wd Q (kA l) c X:=fun G=>by
   rcases a3.op with⟨_,h⟩|⟨e,_⟩
   · exact h
   exact absurd G e
 have n3:=ae i4;have n4:=ae i5;have HX:=ae (And.intro hF (And.intro a3.cut (And.intro a3.inr (And.intro a3.len hv))));clear hn i2 hF hl a3 hv i4 i5;go_enter func47,ntmps47;go_upto_if 19 with(fail)
 obtain⟨cb,B⟩:∃cb,(!old.toList.isEmpty)=cb:=⟨_,rfl⟩;rw[B];have i7:=ae B;clear B;go_cut [11] (fun _ wx=>∃Z X1,jn wx FP TP PB DB M Z sv t d/\lM d.pg n wd Q (kA l) Z X1/\aY PB DB M M w wx)
 case first=>as_aux_lemma=>
  by_cases G:old=⟨#[]⟩
  · have HE:=ae (n4.out G)
    have B:=i7.out;rw[G]at B;have n5:(⟨#[]⟩:ByteArray).toList.isEmpty=true:=by rw[bQ];rfl
    rw[n5]at B;have b1:cb=false:=B.symm;subst b1;clear B G;go_wp2_with fail
    go_meet
    exact⟨c,_,HX.out.1,HE.out,aY.refl _ _ _ _⟩
  obtain⟨Z,X1,hq,hd⟩:=n3.out G;have HQ:=ae hq;have HD:=ae hd;have i9:old.toList.isEmpty=false:=by
   cases h:old.toList.isEmpty with
   |false=>rfl
   |true=>
     rw[eT,bQ]at h;exact absurd (bE (b:=⟨#[]⟩) h) G
  have B:=i7.out;rw[i9]at B;have b1:cb=true:=B.symm;subst b1;clear hq hd G i9 B;go_wp2_with fail
  refine HD.out.mono ?_;rintro e w1 ⟨rfl,j0,V⟩;have HR:=ae (And.intro (HX.out.1.act j0 V) V);clear j0 V;go_wp2_with fail
  go_meet
  exact⟨Z,X1,HR.out.1,HQ.out,HR.out.2⟩
 case rest=>as_aux_lemma=>
  obtain⟨Z,X1,j1,j2,V⟩:=hcut;have a6:JH Q w wc FP TP PB DB M sv t d n wd v l:=⟨⟨Z,X1,j1,j2⟩,V,HX.out.2.1,HX.out.2.2.1,HX.out.2.2.2.1,HX.out.2.2.2.2.pg V⟩;have n6:=ae a6;clear j1 j2 V a6;go_wp2_with fail
  go_loopw [4,12,13,14,15,16,17] (fun lv _ _ _ _ _ _ J=>∃q,JH Q w J FP TP PB DB M sv t d n wd lv q) (fun lv _ _ _ _ _ _ _=>Ub lv)
  case atStart=>exact⟨l,n6.out⟩
  case round=>as_aux_lemma=>
   obtain⟨q,hs⟩:=hrel;have L:=ae hs;obtain⟨ao,H,n7⟩:=hs.rem.lZ.form;clear hs;subst n7;by_cases G:q=[]
   ·subst G;have HE:Hid (∃c' X',jn wr FP TP PB DB M c' sv t d/\Q c' X'/\aY PB DB M M w wr):=ae (by
      obtain⟨c2,X2,b6,b7⟩:=L.out.ex;exact⟨c2,X2,b6,b7,L.out.fr⟩)
    go_wp2_with fail
    go_ret;exact⟨rfl,HE.out⟩
   have d1:0<q.length:=cg.2 G;have s2:(0:Int)<(q.length:Int):=by omega
   obtain⟨b,s,e1,d2,hb,j3,D⟩:∃b s,ao=some ⟨b,s,none⟩/\q.length<=H/\b<wr.heap.size/\(b≠PB/\b≠DB/\b≠M)/\cq wr b s q:=by
     rcases L.out.rem with⟨_,e⟩|⟨b,s,c2,h1,h2,h3,h4,h5⟩
     ·exact absurd e G
     cases h1;exact⟨b,s,rfl,h2,h3,h4,h5⟩
   subst e1;have e7:=Dl q b s H (some ⟨b,s,none⟩) (fun _=>rfl) (by have:=L.out.len;omega) wr D;have e8:∀k,wS (q.take k)=cT (q.take k)/\AM (q.take k)=.nilIface:=fun k=>by
     have h5:dG (q.take k)=true:=gW (fun p hp=>L.out.inr p (eb hp)) (L.out.ok.up.sublist (List.take_sublist k q));unfold wS AM;rw[h5];exact⟨rfl,rfl⟩
   have b8:=e8 q.length;rw[dF]at b8;rw[b8.1,b8.2]at e7;have z:=ae (And.intro d2 (And.intro hb (And.intro j3 D)));have j4:=ae e8;clear d2 hb j3 D e8 b8;go_wp2_with fail
   refine e7.mono ?_;rintro e w1 ⟨rfl,j5⟩;have n8:=ae j5;clear j5 e7;go_wp2_with fail
   obtain⟨wo,n9⟩:∃wo,wo=wr:=⟨_,rfl⟩;subst n9;go_loopw [12,13,14,15,16] (fun nv o0 ev _ _ J=>∃k:Nat,nv=.int .i64 k/\o0=.string (tD (cT (q.take k)))/\ev=.nilIface/\DP q k/\Gr wo J) (fun nv _ _ _ _ _=>(intOf nv).toNat)
   case atStart=>exact⟨q.length,rfl,by rw[dF];rfl,rfl,Jt G,n8.out⟩
   case round=>as_aux_lemma=>
    obtain⟨k,rfl,rfl,rfl,S,Y⟩:=hrel;have HK:=ae S;have j6:=ae Y;obtain⟨sz,a4⟩:∃sz,tD (cT (q.take k))=sz:=⟨_,rfl⟩;have d4:sz.size=(cT (q.take k)).length:=by rw[<-a4,rm]
    rw[a4];have s3:=ae a4;by_cases hs:(cT (q.take k)).length<=100
    ·as_aux_lemma=>
     have o1:¬(100:Int)<(sz.size:Int):=by omega
     have b9:=Od S hs;have c0:=S.1;have a8:=S.2.1;have b5:k<=H:=be S.2.1 z.out.1;obtain⟨c2,X2,b6,b7⟩:=L.out.ex;rw[Q4 L.out.ok G]at b7;obtain⟨j7,c3,X3,d5,j8⟩:=b7;have d6:=row_in L.out.inr G;have I:=b6.gr Y;have D:=z.out.2.2.2.gr Y;have d7:=fun W=>TB HO.out.1 HO.out.2 d6 W;have e9:=fun(W:az) (g:Gr wr W)=>Ty (I.pg.gr g) (I.t.gr g) I.tn (by omega) (bp n wd (q.take (nn q))).1 (bp n wd (q.take (nn q))).2 j7;rw[d5]at e9;have j9:∀(W:az),Gr wr W->bZ prog 89 #[.pointer (some ⟨TP,0,none⟩),.string (cP n wd (rowOf q)),.string sz] W fun e J=>e=.returned .nilIface/\cG J PB DB M c3 sv t d/\aY PB DB M M W J:=fun W g=>by
      have h3:=e9 W g;unfold bp at h3;rw[<-b9,Mb c0,a4]at h3;exact h3
     have pF:=I.p;have p0:=(D 0 d1).1;rw[<-OU d1]at p0;rw[Nat.zero_mul,Nat.add_zero]at p0;have k1:=ae j9;have d8:=ae d7;have o2:=ae I;have o3:=ae j8;obtain⟨R0,k3⟩:∃R0,rowOf q=R0:=⟨_,rfl⟩;simp only[k3]at p0 k1 d8;have o4:=ae b9;have k4:∀(w1 w2:az),aY PB DB M M w1 w2->w1.cell? ⟨FP,0,none⟩=some (.pointer (some ⟨TP,0,none⟩))->w1.cell? ⟨b,s,none⟩=some (.int .i64 R0)->w2.cell? ⟨FP,0,none⟩=some (.pointer (some ⟨TP,0,none⟩))/\w2.cell? ⟨b,s,none⟩=some (.int .i64 R0):=fun w1 w2 hf h1 h2=>⟨hf.keeps I.fn.1 I.fn.2.1 I.fn.2.2 h1,hf.keeps z.out.2.2.1.1 z.out.2.2.1.2.1 z.out.2.2.1.2.2 h2⟩;have KF:=ae k4;have KS:=ae (And.intro c0 (And.intro a8 b5));clear k4 S Y d4 a4 hs b9 b6 d5 j7 d6 D d7 e9 j9 I j8 k3 c0 a8 b5;go_wp2_with fail
     have Y1:wr.drew.cell? ⟨FP,0,none⟩=some (.pointer (some ⟨TP,0,none⟩)):=pF;have Y2:wr.drew.cell? ⟨b,s,none⟩=some (.int .i64 R0):=p0;have Gc:Gr wr wr.drew:=(Gr.refl wr).drew;go_region_held3(fun J=>J.cell? ⟨FP,0,none⟩=some (.pointer (some ⟨TP,0,none⟩))/\J.cell? ⟨b,s,none⟩=some (.int .i64 R0)) (first|exact⟨Y1,Y2⟩|exact⟨pF,p0⟩|(refine⟨?_,?_⟩<;>assumption)) (first
      |( go_at_call 90;refine(d8.out _).mono ?_;rintro e w4 ⟨rfl,O⟩;have Gc:=Gc.trans O;have Y1:=O.keeps Y1;have Y2:=O.keeps Y2)
      |( go_at_call 89;refine(k1.out _ Gc).mono ?_;rintro e w5 ⟨rfl,k7,c4⟩;obtain⟨Y1,Y2⟩:=KF.out _ _ c4 Y1 Y2))
     all_goals
      have k8:JH Q w w5 FP TP PB DB M sv t d n wd (.slice (if H=k then some ⟨b,s,none⟩else some ⟨b,s+k*2,none⟩) (q.length-k) (H-k)) (q.drop k):=by
        obtain⟨k0,kl,kc⟩:=KS.out;have F5:=(o2.out.gr Gc).act k7 c4;have a9:=(aY.ah PB DB M (j6.out.trans Gc)).trans c4;refine⟨⟨c3,X3,F5,by rw[o4.out];exact o3.out⟩,L.out.fr.trans a9,L.out.ok.drop k,fun p hp=>L.out.inr p (List.mem_of_mem_drop hp),by rw[bC];have:=L.out.len;omega,?_⟩;by_cases ec:H=k
        · rw[if_pos ec]
          exact .inr ⟨b,s,H-k,by rw[bC],by rw[bC];have:=z.out.1;omega,aS z.out.2.1 a9.size,z.out.2.2.1,fun i hi=>by rw[bC]at hi;have:=z.out.1;omega⟩
        rw[if_neg ec];refine .inr ⟨b,s+k*2,H-k,by rw[bC],by rw[bC];have:=z.out.1;omega,aS z.out.2.1 a9.size,z.out.2.2.1,?_⟩;refine Js (fun i hi=>?_) k;have h7:=z.out.2.2.2 i hi;exact⟨a9.keeps z.out.2.2.1.1 z.out.2.2.1.2.1 z.out.2.2.1.2.2 h7.1,a9.keeps z.out.2.2.1.1 z.out.2.2.1.2.1 z.out.2.2.1.2.2 h7.2⟩
      have o5:=ae k8;clear k8 k7 c4 Gc Y1 Y2;have c0:(0:Int)<=(k:Int):=by omega
      have a8:(k:Int)<=(q.length:Int):=by have:=KS.out.2.1;omega
      have q2:k<=q.length:=KS.out.2.1;go_wp2_with fail
      exact⟨⟨_,o5.out⟩,by simp only[Ub];have:=KS.out.1;omega⟩
    as_aux_lemma=>
    have o1:(100:Int)<(sz.size:Int):=by omega
    have b9:k<=H:=be S.2.1 z.out.1;have e5:=L.out.len;obtain⟨c5,c6⟩:=LL L.out.ok S hs;obtain⟨g0,a5,g3⟩:=VP S.1 S.2.1;have a8:=S.2.1;have D:=z.out.2.2.2.gr Y;have g4:b<wr.heap.size:=aS z.out.2.1 Y.size;have b2:(q.take k).length=k:=by rw[bc];exact fA S.2.1
    have g5:=VC (q.take k) (.slice (some ⟨b,s,none⟩) k H) wr (.inr ⟨b,s,H,by rw[b2],g4,yy D k⟩) (by rw[b2];omega);obtain⟨R,hR⟩:∃R,setOf aG ((q.take k).map (·.1))=R:=⟨_,rfl⟩;obtain⟨md,l0⟩:∃md,fu (q.take k)=md:=⟨_,rfl⟩;obtain⟨U,g6⟩:∃U,fY q md=U:=⟨_,rfl⟩;simp only[hR,l0]at a5 g0 g3 g5 c5 c6;rw[g6]at c5 c6;have e6:el (fun _ (y:aa)=>y.1==md) q default=(U:Int):=by
     have:=DO md q 0 g3;rw[g6,de]at this;exact this
    have HI:=ae (And.intro D (And.intro g4 (And.intro c5 (And.intro c6 (And.intro e6 e5)))));have HM:=ae (And.intro a5 g0);clear S Y d4 a4 D g4 c5 c6 e6 g3 a5 g0 b2 l0 g6 a8;go_wp2_with fail
    refine g5.mono ?_;rintro e w3 ⟨v3,rfl,o6,l1⟩;rcases o6 with⟨_,e3⟩|⟨B3,q3,rfl,l6,l7,l8,l2⟩
    ·exact absurd HM.out.1 (by rw[e3];simp)
    have a5:=HM.out.1;have cm:w3.cell? ⟨B3,R.length/2,none⟩=some (.int .i64 md):=by
     have h7:=(l2 (R.length/2) (by simpa using a5)).1;have h8:=HM.out.2;simpa[h8]using h7
    have hq:ea ((R.length:Int)/2)=((R.length/2:Nat):Int):=by
     have h9:R.length<=100000:=by
       have h5:=jc aG ((q.take k).map (·.1));rw[hR,ap,bc]at h5;omega
     exact OV _ h9
    have q4:((R.length/2:Nat):Int)<(R.length:Int):=Int.ofNat_lt.2 a5;have o7:=ae l1;clear hR e5 g5 l1 l2 l6 l7 l8;go_wp2_with fail
    have gB:Gr w3 (w3.alloc (.cells #[.int .i64 md] 3)):=(Gr.refl w3).alloc _;have b0:=fh w3 (.int .i64 md) 3;obtain⟨W4,l3⟩:∃W4,w3.alloc (.cells #[.int .i64 md] 3)=W4:=⟨_,rfl⟩;rw[l3]at gB b0⊢;have O:=o7.out.trans gB;have g7:=Ly q (.slice (some ⟨b,s,none⟩) q.length H) 95 #[.pointer (some ⟨w3.heap.size,0,none⟩)] (fun y=>y.1==md) W4 (.inr ⟨b,s,H,rfl,aS HI.out.2.1 O.size,HI.out.1.gr O⟩) (by have:=HI.out.2.2.2.2.2;omega) (fI func95 (by kernel_rfl) rfl) (fun W x g=>Uc W _ md x (g.keeps b0));rw[HI.out.2.2.2.2.1]at g7;have o8:=ae O;have o9:=ae g7;clear gB b0 l3 O g7 cm;refine o9.out.mono ?_;rintro e w5 ⟨rfl,l4⟩;have b3:=o8.out.trans l4;have q5:U<=H:=be HI.out.2.2.1.2.1 z.out.1;have q6:(0:Int)<=(U:Int):=by omega
    have q7:(U:Int)<=(H:Int):=by omega
    have a2:(q.take U).length=U:=by rw[bc];exact fA HI.out.2.2.1.2.1
    have b4:=Dl (q.take U) b s H (some ⟨b,s,none⟩) (fun _=>rfl) (by rw[a2];have:=HI.out.2.2.2.2.2;have:=HI.out.2.2.1.2.1;omega) w5 (yy (HI.out.1.gr b3) U);rw[a2,(j4.out U).1,(j4.out U).2]at b4;have p1:=ae b4;have p2:=ae (j6.out.trans b3);clear l4 b3 b4 a2;go_wp2_with fail
    refine p1.out.mono ?_;rintro e w6 ⟨rfl,l5⟩;have p3:=ae (p2.out.trans l5);clear l5;go_wp2_with fail
    exact⟨⟨U,rfl,rfl,rfl,HI.out.2.2.1,p3.out⟩,by have:=HI.out.2.2.2.1;simp only[intOf];omega⟩
end
end
section
open Go Go.RowKit
theorem Wh(W:az)(B:Nat)(k:Int)(x:aa)(h:W.cell? ⟨B,0,none⟩=some (.int .i64 k)):
  bZ prog 43 #[x.val,.pointer (some ⟨B,0,none⟩)] W (ar W (.bool (x.1==k))):=by
 obtain⟨b,q⟩:=x;unfold aa.val;have g1:Gr W (W.alloc (.cells #[.int .i64 b,.int .i64 q] 104)):=(Gr.refl W).alloc _;have s:(W.alloc (.cells #[.int .i64 b,.int .i64 q] 104)).cell? ⟨W.heap.size,0,none⟩=some (.int .i64 b):=by rw[ak];rfl
 have y:=g1.keeps h;go_enter func43,ntmps43;go_wp2_with fail
 go_ret;exact ar.mk rfl g1
structure Ca(w0:az)(PB DB M:Nat):Prop where
 ends:fP w0
 err:dL w0
 max:mA w0
 lo:w0.heap.size<=PB/\w0.heap.size<=DB/\w0.heap.size<=M
theorem Ca.pg{w0 w w':az}{PB DB M:Nat}(h:Ca w0 PB DB M)(g:Gr w0 w)(k:aY PB DB M M w w'):Gr w0 w':=k.2.gr g fun b q=>by
 rcases q with rfl|rfl|rfl
 ·exact h.lo.1
 ·exact h.lo.2.1
 exact h.lo.2.2
theorem dP.rem{a0 w:az}{v:bM}{xs:List aa}(h:dP a0 w v xs){PB DB M:Nat}(z:PB<a0.heap.size/\DB<a0.heap.size/\M<a0.heap.size):nE PB DB M w v xs:=by
 rcases h with h|⟨B,cap,b,q,D,s,y⟩
 ·exact .inl h
 refine .inr ⟨B,0,cap,b,q,s,⟨by omega,by omega,by omega⟩,fun i hi=>?_⟩;have:=y i hi;rw[de];exact⟨this.1.1,this.2.1⟩
structure tm(PB DB M:Nat)(w:az)(MB n:Nat)(G:ByteArray->List aa):Prop where
 ex:∃F:ByteArray->Option bM,dy mb w MB n F/\(∀k,F k=none↔G k=[])/\∀k v,F k=some v->nE PB DB M w v (G k)
 off:MB≠PB/\MB≠DB/\MB≠M
theorem Oe.rem{a0 w:az}{b n:Nat}{G:ByteArray->List aa}(h:Oe a0 w b n G){PB DB M:Nat}(s:PB<a0.heap.size/\DB<a0.heap.size/\M<a0.heap.size):tm PB DB M w b n G:=by
 obtain⟨⟨F,y,q⟩,z⟩:=h;exact⟨⟨F,y,q.RE,fun k v hv=>(q.own k v hv).own.rem s⟩,by omega⟩
theorem tm.gr{PB DB M:Nat}{w w':az}{b n:Nat}{G:ByteArray->List aa}(h:tm PB DB M w b n G)(g:Gr w w'):tm PB DB M w' b n G:=by
 obtain⟨⟨F,q,s,y⟩,z⟩:=h;exact⟨⟨F,q.gr g,s,fun k v hv=>(y k v hv).gr g⟩,z⟩
theorem tm.pg{PB DB M:Nat}{w w':az}{b n:Nat}{G:ByteArray->List aa}(h:tm PB DB M w b n G)(g:aY PB DB M M w w'):tm PB DB M w' b n G:=by
 obtain⟨⟨F,q,s,y⟩,z⟩:=h;exact⟨⟨F,q.block (g.2.block q.lt (by omega)),s,fun k v hv=>(y k v hv).pg g⟩,z⟩
theorem nE.grown{PB DB M:Nat}{w w':az}{y:Nat}{v:bM}{xs:List aa}(h:nE PB DB M w v xs)(J:∃G q,w.heap[y]?=some (.map G q))(g:w.grownBy w' (some y)):nE PB DB M w' v xs:=by
 rcases h with h|⟨b,B,c,L,O,H,Q,z⟩
 ·exact .inl h
 refine .inr ⟨b,B,c,L,O,aS H g.size,Q,fun i hi=>?_⟩;have D:b≠y:=fun e=>by
  obtain⟨G,q,s⟩:=J;have I:=(z i hi).1;rw[e]at I;simp[fl,s]at I
 have s:=g.block b H (fun e=>D (cl e));exact⟨(eh s).trans (z i hi).1,(eh s).trans (z i hi).2⟩
theorem tm.del{PB DB M:Nat}{w w':az}{b n:Nat}{F:ByteArray->Option bM}{G:ByteArray->List aa}(s:dy mb w b n F)(y:∀k,F k=none↔G k=[])(z:∀k v,F k=some v->nE PB DB M w v (G k))(B:b≠PB/\b≠DB/\b≠M)(k:ByteArray)(q:dy mb w' b n (yx F k none))(g:w.grownBy w' (some b)):
  tm PB DB M w' b n (fun i=>if i=k then[]else G i):=by
 refine⟨⟨_,q,fun j=>?_,fun j v hv=>?_⟩,B⟩
 ·by_cases e:j=k
  ·subst e;rw[kU,if_pos rfl];simp
  rw[iV _ _ e,if_neg e];exact y j
 by_cases e:j=k
 ·subst e;rw[kU]at hv;cases hv
 rw[iV _ _ e]at hv;rw[if_neg e];exact(z j v hv).grown (mG s) g
theorem Mc(n wd:ByteArray)(PS:List (List aa))(row:Int):(dH n wd PS row).2.length<=PS.flatten.length:=by
 unfold dH;cases nU PS row with
 |zero=>exact cf _
 |succ k=>
  simp only;cases h:PS[k]? with
  |none=>exact cf _
  |some l=>
   obtain⟨b,e⟩:=List.getElem?_eq_some_iff.1 h;have q:PS=PS.take k++PS[k]::PS.drop (k+1):=by
    rw[<-bF b,bW]
   have s:=congrArg (fun z=>(fK z).length) q;simp only[bT,cs,bt]at s;rw[<-e];simp only;omega
theorem PY(r:Int)(wd:ByteArray):∀(xs:List ByteArray) (j:Nat),(fv r wd xs j).length<=xs.length
 |[],_=>bP _
 |x::xs,j=>by
  have:=PY r wd xs (j+1);unfold fv
  split
  ·rw[aX,aX];omega
  rw[aX];omega
theorem aY.after{PB DB M q:Nat}{w s y:az}(h:aY PB DB M M w s)(g:ag (fun b=>b=q) s y)(B:w.heap.size<=q):aY PB DB M M w y:=
 ⟨.inl rfl,g.1.trans h.2.1,g.2.1.trans h.2.2.1,g.2.2.1.trans h.2.2.2.1,be h.2.2.2.2.1 g.2.2.2.1,fun k z hs=>(g.2.2.2.2 k (aS z h.2.2.2.2.1) (fun e=>by have e:k=q:=e;omega)).trans (h.2.2.2.2.2 k z hs)⟩
theorem jn.ay{S:Nat->Prop}{w w':az}{FP TP PB DB M:Nat}{c:Ch}{sv:Head}{t:Int}{d:Dk}(h:jn w FP TP PB DB M c sv t d)(g:ag S w w')(hS:¬S FP/\¬S TP/\¬S PB/\¬S DB/\¬S M):jn w' FP TP PB DB M c sv t d:=
 ⟨h.pg.ay g hS.2.2.1 hS.2.2.2.1 hS.2.2.2.2,g.keeps hS.1 h.p,⟨g.keeps hS.2.1 h.t.p,g.keeps hS.2.1 h.t.r⟩,h.fn,h.tn⟩
section
variable{w0 w:az}{FP TP PB DB M:Nat}{c:Ch}{sv:Head}{t:Int}{d:Dk}
structure JI(Q:Ch->Tr->Prop)(w0 w1 w:az)(FP TP PB DB M:Nat)(sv:Head)(t:Int)(d:Dk)(n:ByteArray)(row:Int)(ws:List ByteArray)(MB:Nat)(dn rest:List ByteArray):Prop where
 ex:∃c X,jn w FP TP PB DB M c sv t d/\om d.pg n row ws Q dn rest c X
 ZW:tm PB DB M w MB 1000 (fun wd=>if wd∈dn then[]else fv row wd ws 0)
 fr:aY PB DB M M w1 w
 gr0:Gr w0 w
theorem Xx{Q:Ch->Tr->Prop}(hB:Ca w0 PB DB M)(a7:Gr w0 w)(hF:jn w FP TP PB DB M c sv t d){X:Tr}(hl:X.lays c d.pg 3){n text:ByteArray}(hn:cI n)(n3:1<=n.size/\n.size<=16){row:Int}(L:1<=row/\row<=1073741824)(F0:text.size<=40)
  (c7:∀wd∈aD text,cI wd/\∃PS,yp X n wd PS/\∀p∈PS.flatten,p.1≠row) {N:Nat} (i3:(X.get bw=none/\N=0)\/X.get bw=some (iA N)) (hN:N+(aD text).length<=500)
  (O:∃c1 X1,kh c 3 X bw (iA (N+(aD text).length))=(c1,X1,0)/\om d.pg n row (aD text) Q [] (aD text) c1 X1):
  bZ prog 10 #[.pointer (some ⟨FP,0,none⟩),.string n,.int .i64 row,.string text] w fun e w'=>e=.returned .nilIface/\∃c' X',jn w' FP TP PB DB M c' sv t d/\Q c' X'/\aY PB DB M M w w':=by
 have d6:=fun W=>TC (n:=n) (r:=row) hn n3 L W;have a3:=fun(W:az) (g:Gr w0 W)=>Ue row text (by omega) W (hB.ends.gr g) (by omega) (fun x hx=>by have:=(c7 x hx).1.len;rw[size_data];omega);have a4:=fun(W:az) (g:Gr w0 W)=>yr text (by omega) W (hB.ends.gr g);obtain⟨ws,n6⟩:∃ws,aD text=ws:=⟨_,rfl⟩;simp only[n6]at a3 a4 c7 hN O;have x1:=ae d6;have x2:=ae a3;have x3:=ae a4;have c8:=ae c7;have q:=ae (And.intro hB (And.intro a7 (And.intro hF (And.intro hl (And.intro hn (And.intro L (And.intro i3 O)))))));have D6:¬(40:Int)<(text.size:Int):=by omega
 clear d6 a3 a4 c7 hB a7 hF hl hn n3 L i3 O n6;go_enter func10,ntmps10;go_wp2_with fail
 have gA:Gr w (w.alloc (.cells #[.int .i64 row] 3)):=(Gr.refl w).alloc _;have b0:=fh w (.int .i64 row) 3;obtain⟨RB,n8⟩:∃RB,w.heap.size=RB:=⟨_,rfl⟩;rw[n8]at b0⊢;have n9:RB≠PB/\RB≠DB/\RB≠M:=by
  have:=q.out.2.2.1.lt;omega
 obtain⟨W1,o0⟩:∃W1,w.alloc (.cells #[.int .i64 row] 3)=W1:=⟨_,rfl⟩;rw[o0]at gA b0⊢;have o1:=x1.out W1;have x4:=ae gA;have d0:=ae n9;have x5:=ae b0;clear gA o0 n8 n9 b0;refine o1.mono ?_;rintro e w2 ⟨rfl,k0⟩;have b2:=k0.keeps x5.out;have e4:=x4.out.trans k0;have d1:=x2.out w2 (q.out.2.1.trans e4);have s1:=ae d1;have o2:=ae e4;clear o1 k0 e4 d1;go_wp2_with fail
 refine s1.out.mono ?_;rintro e w3 ⟨MB,rfl,d2,k1⟩;have Z:=q.out.2.2.1.lt;have i5:=o2.out.size;have x6:=ae (And.intro d2.lo i5);have i6:=ad b2;have x7:=ae (show RB<MB from aS i6 d2.lo);clear i6;obtain⟨⟨F,o4,o5,o6⟩,i7⟩:=d2.rem (PB:=PB) (DB:=DB) (M:=M) (by omega);have g5:=ae (o2.out.trans k1);have k2:=ae (k1.keeps b2);have x8:=ae o4;have o7:=ae o5;have x9:=ae o6;have e5:=ae i7;have k3:=ae (q.out.2.2.1.gr g5.out);have g6:=ae (And.intro k3.out.lt (ad k2.out));obtain⟨y,o8⟩:∃y,w3.heap.size=y:=⟨_,rfl⟩;have a0:=ae o8;clear d2 k1 Z i5 o4 o5 o6 i7 o8 b2;go_wp2_with(at_range;refine DM (kk:=mb) mF rfl _ rfl x8.out rfl ?_;intro w4 D7 k4 d3 y0)
 rw[a0.out]at k4⊢;go_frame;have e6:ag (fun b=>b=y) w3 w4:=ag.ah ⟨d3.os,d3.tape,d3.output,d3.size,fun k hk=>d3.block k hk (by simp)⟩;have D8:=ae e6;go_loopw [11] (fun _ w'=>∃left o9,dB mb w' MB y 1000 F left o9/\ag (fun b=>b=y) w3 w') (fun _ w'=>w'.rangeLeft MB y)
 case atStart=>exact⟨_,_,k4,e6⟩
 case round=>
  obtain⟨left,o9,g7,hx⟩:=hrel;have k5:=ae g7;have s:=ae hx;clear k4 d3 y0 e6 hx;go_wp2_with(at_next;refine kB (kk:=mb) rfl _ rfl rfl g7 ?_ ?_)
  ·intro _ _;clear g7;have k6:Gr w0 wr:=s.out.gr (q.out.2.1.trans g5.out) (fun j e=>by
    have e:j=y:=e;have h1:=(q.out.2.1.trans g5.out).size;have h2:=a0.out;omega)
   have d8:¬FP=y/\¬TP=y/\¬PB=y/\¬DB=y/\¬M=y:=by
    have h1:=g6.out.1;have h2:=a0.out;omega
   have p0:=x3.out wr k6;have Fr:=k3.out.ay s.out d8;have GP:tm PB DB M wr MB 1000 (fun wd=>if wd∈([]:List ByteArray)then[]else fv row wd ws 0):=by
    obtain⟨_,_,F1⟩:=k5.out;refine⟨⟨F,k5.out.map,fun k=>by simpa using o7.out k,fun k v hv=>?_⟩,e5.out⟩;have h9:nE PB DB M wr v (fv row k ws 0):=by
     rcases x9.out k v hv with h3|⟨b,y1,c3,h3,h4,h5,h6,h7⟩
     ·exact .inl h3
     refine .inr ⟨b,y1,c3,h3,h4,aS h5 s.out.2.2.2.1,h6,fun i hi=>?_⟩;have hb:¬b=y:=by have:=a0.out;omega
     exact⟨s.out.keeps hb (h7 i hi).1,s.out.keeps hb (h7 i hi).2⟩
    simpa using h9
   have BR:=s.out.keeps (fun e=>by have h1:=g6.out.2;have h2:=a0.out;omega) k2.out;have g8:=ae k6;have FR:=ae Fr;have y2:=ae GP;have y3:=ae BR;have y4:=ae (show aY PB DB M M w wr from⟨.inl rfl,ag.trans (ag.ah g5.out) ⟨s.out.1,s.out.2.1,s.out.2.2.1,s.out.2.2.2.1,fun j hj _=>s.out.2.2.2.2 j hj (fun e=>by
    have e:j=y:=e;have:=a0.out;omega)⟩⟩)
   clear k6 d8 Fr GP BR;go_wp2_with fail
   refine p0.mono ?_;rintro e w5 ⟨v5,rfl,k7,z⟩;obtain⟨ao,co,Y,rfl,k8,B⟩:=fk k7;have i9:0<ws.length->wr.heap.size<=Y:=fun h0=>aP k7 Y (by rw[k8 h0];rfl);have s2:=ae i9;clear i9;have y5:=ae k8;have y6:=ae B;have y7:=ae z;have k9:=ae (z.keeps y3.out);have p4:=PA (FR.out.gr z) (q.out.1.err.gr (g8.out.trans z)) (q.out.1.max.gr (g8.out.trans z)) q.out.2.2.2.1 (n:=N) (by omega) q.out.2.2.2.2.2.2.1;clear k7 z p0 k8 B;go_wp2_with fail
   refine p4.mono ?_;rintro e w6 ⟨rfl,a1⟩;have a8:=ae (y7.out.trans a1);have y8:=ae (a1.keeps k9.out);have j0:=ae (y6.out.gr a1);obtain⟨c1,X1,O,g3⟩:=q.out.2.2.2.2.2.2.2;have p5:=Vr (FR.out.gr a8.out) (q.out.1.err.gr (g8.out.trans a8.out)) (q.out.1.max.gr (g8.out.trans a8.out)) q.out.2.2.2.1 (n:=N) (by omega) q.out.2.2.2.2.2.2.1 (m:=(ws.length:Int)) (n2:=N+ws.length) (by omega) (by omega) O;have F3:dZ.wrap ((N:Int)+(ws.length:Int))=((N+ws.length:Nat):Int):=by
    rw[cL];omega
   have D9:¬(500:Int)<((N+ws.length:Nat):Int):=by omega
   have y9:=ae p5;have m7:=ae g3;clear a1 p4 p5 O g3;go_wp2_with fail
   refine y9.out.mono ?_;rintro e w7 ⟨rfl,p6,d9⟩;have e7:=y4.out.trans ((aY.ah PB DB M a8.out).trans d9);have D:0<ws.length->Y<w6.heap.size/\(Y≠PB/\Y≠DB/\Y≠M):=fun h0=>by
    have h1:=s2.out h0;have h2:=FR.out.lt;have h3:=ad (j0.out 0 h0);omega
   have j1:iE w7 Y 0 ws:=fun i hi=>d9.keeps (D (by omega)).2.1 (D (by omega)).2.2.1 (D (by omega)).2.2.2 (j0.out i hi);have p7:=d9.keeps d0.out.1 d0.out.2.1 d0.out.2.2 y8.out;have z0:=ae (show JI Q w0 w w7 FP TP PB DB M sv t d n row ws MB [] ws from⟨⟨c1,X1,p6,m7.out⟩,(y2.out.gr a8.out).pg d9,e7,q.out.1.pg q.out.2.1 e7⟩);have s3:=ae j1;have z1:=ae p7;have z2:=ae D;clear p6 d9 e7 j1 p7 D;go_wp2_with fail
   go_loopw [86] (fun iv w'=>∃(i:Nat) (dn:List ByteArray),i<=ws.length/\iv=.int .i64 i/\(∀x,x∈dn↔x∈ws.take i)/\JI Q w0 w w' FP TP PB DB M sv t d n row ws MB dn (ws.drop i)/\iE w' Y 0 ws/\w'.cell? ⟨RB,0,none⟩=some (.int .i64 row)) (fun iv _=>ws.length-(intOf iv).toNat)
   case atStart=>exact⟨0,[],cf _,rfl,by simp,z0.out,s3.out,z1.out⟩
   case round=>
    obtain⟨i,dn,hi,rfl,e0,hs,B,hb⟩:=hrel;by_cases Z:i<ws.length
    ·have z3:(i:Int)<(ws.length:Int):=by omega
     have z4:=y5.out (by omega);subst z4;have c5:=B i Z;rw[de]at c5;have g9:ws.drop i=ws[i]::ws.drop (i+1):=bF Z;have e1:ws.take (i+1)=ws.take i++[ws[i]]:=aU Z;have U:ws[i]∈ws:=bj Z;obtain⟨wd,d1⟩:∃wd,ws[i]=wd:=⟨_,rfl⟩;rw[d1]at c5 g9 e1 U;rw[g9]at hs;have l0:wd.size<=maxLen:=by
      have:=(c8.out wd U).1.len;rw[size_data];unfold maxLen;omega
     obtain⟨⟨F2,z5,e2,h8⟩,_⟩:=hs.ZW;have d4:=ae z5;by_cases hd:wd∈dn
     ·have G:F2 wd=none:=(e2 wd).2 (if_pos hd);have HE:Hid (∃H:List ByteArray,(∀x,x∈H↔x∈ws.take (i+1))/\JI Q w0 w wr FP TP PB DB M sv t d n row ws MB H (ws.drop (i+1))/\iE wr Y 0 ws/\wr.cell? ⟨RB,0,none⟩=some (.int .i64 row)):=ae (by
       obtain⟨⟨c2,X2,G,d5⟩,l1,I,a7⟩:=hs;refine⟨wd::dn,fun x=>?_,⟨⟨c2,X2,G,d5.1 hd⟩,?_,I,a7⟩,B,hb⟩
       · rw[e1,bz,<-e0 x]
         simp only[bv,dD,or_false]
         constructor
         · rintro(h|h)
           ·exact .inr h
           exact .inl h
         rintro(h|h)
         ·exact .inr h
         exact .inl h
       have e:(fun k=>if k∈wd::dn then([]:List aa)else fv row k ws 0)=fun k=>if k∈dn then[]else fv row k ws 0:=by
         funext k
         by_cases ek:k=wd
         ·subst ek;rw[if_pos aQ,if_pos hd]
         by_cases J:k∈dn
         ·rw[if_pos J,if_pos (aJ _ J)]
         rw[if_neg J,if_neg (by simp[ek,J])]
       rw[e];exact l1)
      clear hs B hb e2 h8 g9 e1 d1 U e0;go_wp2_with(at_lookup;refine rG (kk:=mb) mF Jv rfl _ _ rfl d4.out rfl (k:=wd) rfl l0 (v:=.slice none 0 0) (b:=false) (by rw[G];rfl) (by rw[G];rfl) ?_)
      obtain⟨H,h1,h2,h3,h4⟩:=HE.out;exact⟨⟨i+1,H,Z,by go_num,h1,h2,h3,h4⟩,by simp[intOf];omega⟩
     obtain⟨v,l2⟩:∃v,F2 wd=some v:=by
      cases h:F2 wd with
      |some v=>exact⟨v,rfl⟩
      |none=>
        have:=(e2 wd).1 h;rw[if_neg hd]at this;exact absurd U (uy.1 this)
     have l3:=h8 wd v l2;rw[if_neg hd]at l3;obtain⟨⟨c2,X2,G,d5⟩,l1,I,a7⟩:=hs;obtain⟨p9,PS,V,b1⟩:=d5.2 hd;have z6:=ae G;have q0:=ae p9;have q1:=ae V;have z7:=ae b1;have s4:=ae I;have E0:=ae a7;have z8:=ae l3;have z9:=ae e2;have A0:=ae h8;have s5:=ae B;have A1:=ae hb;have j4:=ae U;have A2:=ae e1;have A3:=ae e0;clear B hb e2 h8 g9 e1 d1 U e0 G d5 l1 I a7 p9 V b1 l3;have C5:=ae c5;go_wp2_with(first
      |( at_lookup;refine rG (kk:=mb) mF Jv rfl _ _ rfl d4.out rfl (k:=wd) rfl l0 (v:=v) (b:=true) (by rw[l2];rfl) (by rw[l2];rfl) ?_)
      |( at_delete;refine Jr (kk:=mb) mF rfl _ _ rfl d4.out rfl (k:=wd) rfl l0 ?_;intro w8 q2 e3;have B8:=(ag.ce (S:=fun b=>b=MB) e3 rfl).keeps (by have:=x7.out;omega) A1.out))
     have i0:ag (fun b=>b=MB) wr w8:=ag.ce e3 rfl;have s6:=q.out.2.2.1.lt;have s7:=e5.out;have s8:=x6.out;have F8:=z6.out.ay i0 (by omega);have j5:Y≠MB:=fun e=>by
      obtain⟨es,D2,A4⟩:=mG d4.out;have h6:=C5.out;rw[e]at h6;simp[fl,A4]at h6
     have S8:iE w8 Y 0 ws:=fun j hj=>i0.keeps j5 (s5.out j hj);have R8:=z8.out.grown (mG d4.out) e3;have G8:=tm.del d4.out z9.out A0.out e5.out wd q2 e3;have q3:=s4.out.after i0 (by omega);have l4:=TQ F8 q0.out q.out.2.2.2.2.1 (c8.out wd j4.out).1 q1.out q.out.2.2.2.2.2.1;have c0:=Mc n wd PS row;have g4:=PY row wd ws 0;have b1:=z7.out;have A5:=q1.out.Jf;obtain⟨pk,q4⟩:∃pk,dH n wd PS row=pk:=⟨_,rfl⟩;obtain⟨F4,P⟩:=pk;obtain⟨oc,q6⟩:∃oc,fv row wd ws 0=oc:=⟨_,rfl⟩;rw[q4]at l4 c0 b1;rw[q6]at b1 R8 g4;have q7:=ae F8;have A6:=ae S8;have A7:=ae B8;have A8:=ae R8;have A9:=ae G8;have s9:=ae q3;have B0:=ae l4;have t0:=ae b1;have t1:Hid (P.length+oc.length<=1000000):=ae (by
      simp only at c0;omega)
     clear F8 S8 B8 R8 G8 q3 l4 b1 q4 c0 g4 A5 i0 e3 q2 s7 s8 s6 j5 q6 c5;refine B0.out.mono ?_;rintro e w9 ⟨v9,rfl,l5,l6⟩;have q8:=yo P oc v9 v w9 l5.own.lZ (A8.out.lZ.gr l6) t1.out;have B1:=ae q8;have q9:=ae l6;obtain⟨a9,c9,r0⟩:=l5.own.form;clear q8 l6 l5;simp only at r0;subst r0;go_wp2_with fail
     refine B1.out.mono ?_;rintro e F6 ⟨F7,rfl,e8,j6⟩;have c4:=q9.out.trans j6;have t2:=(q7.out.gr q9.out).lt;have r3:=Wf q.out.2.2.2.2.1 (c8.out wd j4.out).1 (q7.out.gr c4) q0.out t0.out (e8.rem (PB:=PB) (DB:=DB) (M:=M) (by omega));have B2:=ae r3;have a2:=ae c4;obtain⟨F9,G0,t3⟩:=e8.form;clear r3 c4 t2 e8 j6;subst t3;go_wp2_with fail
     refine B2.out.mono ?_;rintro e l7 ⟨rfl,B3,B4,r4,j7,a5⟩;have HE:Hid (∃H:List ByteArray,(∀x,x∈H↔x∈ws.take (i+1))/\JI Q w0 w l7 FP TP PB DB M sv t d n row ws MB H (ws.drop (i+1))/\iE l7 Y 0 ws/\l7.cell? ⟨RB,0,none⟩=some (.int .i64 row)):=ae (by
      have D:=z2.out (by omega);have I:=s9.out.trans ((aY.ah PB DB M a2.out).trans a5);refine⟨wd::dn,fun x=>?_,⟨⟨B3,B4,r4,j7⟩,?_,I,q.out.1.pg q.out.2.1 I⟩,fun j hj=>a5.keeps D.2.1 D.2.2.1 D.2.2.2 (a2.out.keeps (A6.out j hj)),a5.keeps d0.out.1 d0.out.2.1 d0.out.2.2 (a2.out.keeps A7.out)⟩
      · rw[A2.out,bz,<-A3.out x]
        simp only[bv,dD,or_false]
        constructor
        · rintro(h|h)
          ·exact .inr h
          exact .inl h
        rintro(h|h)
        ·exact .inr h
        exact .inl h
      have e:(fun k=>if k=wd then([]:List aa)else if k∈dn then[]else fv row k ws 0)=fun k=>if k∈wd::dn then[]else fv row k ws 0:=by
        funext k
        by_cases ek:k=wd
        ·subst ek;rw[if_pos aQ,if_pos rfl]
        by_cases J:k∈dn
        ·rw[if_neg ek,if_pos J,if_pos (aJ _ J)]
        rw[if_neg ek,if_neg J,if_neg (by simp[ek,J])]
      have h9:=(A9.out.gr a2.out).pg a5;rw[e]at h9;exact h9)
     clear r4 j7 a5;go_wp2_with fail
     obtain⟨H,h1,h2,h3,h4⟩:=HE.out;exact⟨⟨i+1,H,Z,by go_num,h1,h2,h3,h4⟩,by simp[intOf];omega⟩
    have z3:¬(i:Int)<(ws.length:Int):=by omega
    have r5:ws.drop i=[]:=List.drop_eq_nil_of_le (by omega);rw[r5]at hs;have HE:Hid (∃c' X',jn wr FP TP PB DB M c' sv t d/\Q c' X'/\aY PB DB M M w wr):=ae (by
     obtain⟨⟨c2,X2,G,d5⟩,_,I,_⟩:=hs;exact⟨c2,X2,G,d5,I⟩)
    clear hs B hb e0 r5;go_wp2_with fail
    go_ret;obtain⟨c2,X2,h1,h2,h3⟩:=HE.out;exact⟨rfl,c2,h1,⟨X2,h2⟩,h3⟩
  intro k v w5 t4 hk B5 l8 j8 j9 z B6 B7;have i1:ag (fun b=>b=y) w3 w5:=s.out.trans (ag.ce z rfl);have d8:¬FP=y/\¬TP=y/\¬PB=y/\¬DB=y/\¬M=y:=by
   have h1:=g6.out.1;have h2:=a0.out;omega
  have F5:=k3.out.ay i1 d8;have r6:k∈ws:=by
   rcases hO (k∈ws)with h|h
   ·exact h
   have:=(o7.out k).2 (uy.2 h);rw[this]at l8;cases l8
  obtain⟨r7,PS,V,L⟩:=c8.out k r6;have l9:=GG F5 q.out.2.2.2.1 q.out.2.2.2.2.1 r7 V;have Y:=i1.keeps (fun e=>by have h1:=g6.out.2;have h2:=a0.out;omega) k2.out;have e9:PS.flatten.any (fun x=>x.1==row)=false:=by
   rw[List.any_eq_false];intro x hx;simpa using L x hx
  have m9:=V.Jf;obtain⟨PL,r8⟩:∃PL,PS.flatten=PL:=⟨_,rfl⟩;rw[r8]at l9 e9 m9;have B9:=ae l9;have C0:=ae i1;have m0:=ae (And.intro j8 j9);have k9:=ae Y;have t5:=ae e9;clear g7 hk B5 l8 j8 j9 z B6 i1 d8 F5 r6 r7 V L l9 Y e9 r8;go_wp2_with fail
  refine B9.out.mono ?_;rintro e w6 ⟨v6,rfl,r9,a1⟩;have m1:=r9.own.lZ;have m2:=yv PL v6 43 #[.pointer (some ⟨RB,0,none⟩)] (fun x=>x.1==row) w6 m1 (by omega) (fI func43 (by kernel_rfl) rfl) (fun W x g=>Wh W RB row x (g.keeps (a1.keeps k9.out)));rw[t5.out]at m2;obtain⟨a6,c6,C1⟩:=m1.form;subst C1;have C2:=ae m2;have a8:=ae a1;clear r9 a1 m1 m2 B7;go_wp2_with fail
  refine C2.out.mono ?_;rintro e w7 ⟨rfl,s0⟩;have m3:=ae (a8.out.trans s0);clear s0;go_wp2_with fail
  refine⟨⟨_,t4,m0.out.1.gr m3.out,C0.out.trans (ag.ah m3.out)⟩,?_⟩;rw[(m0.out.1.gr m3.out).left_eq,k5.out.left_eq];exact m0.out.2
end
