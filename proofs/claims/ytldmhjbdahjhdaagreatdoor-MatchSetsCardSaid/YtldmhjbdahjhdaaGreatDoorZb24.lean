/-
  Part 24 of the proof.
-/
import Derived.Test.YtldmhjbdahjhdaaGreatDoorZb23
import Derived.Test.YtldmhjbdahjhdaaGreatDoorZb21
open Go.Lib renaming hid->aui,idxByFrom->au3,idxBy->au9,compact->avh
open List renaming length_map->auj,getElem?_eq_getElem->aul,mem_cons_of_mem->aum,mem_cons_self->aun,mem_append_left->auo,take_succ_eq_append_getElem->auq,mem_append_right->aur,getElem_mem->aus,length_append->aut,takeWhile_cons->auu,mem_map_of_mem->auv,length_take->auy,mem_append->auz,mem_cons->auA,getD_eq_getElem?_getD->auB,length_cons->auC,flatten_append->auD,map_cons->auE,mem_filter->auF,takeWhile_sublist->auI,take_append_drop->auK,nil_append->auL,length_pos_iff->auN,mem_singleton->auP,drop_eq_getElem_cons->auR,flatten_cons->auS,length->auT,prefix_iff_eq_take->auV,take_of_length_le->auW,mem_map->auX,map_append->auY,takeWhile_prefix->auZ,length_filter_le->au0,map_eq_nil_iff->au2,append_assoc->au7,getElem_map->au8,filter_cons->au_,mem_flatten->ava,length_nil->avc,append_nil->avd
open Go.World renaming cell?_alloc_new->auk,ownsRow_nil->auH
open Go.Proofs.Tryz renaming prog->aup,ntmps19->ave,func19->avf,func92->avg
open Nat renaming le_trans->auw,le_refl->auG,le_mul_of_pos_left->auJ,mul_le_mul_left->auO,zero_le->au1,lt_of_lt_of_le->au6
open Go.ByteArray renaming toList_eq->auM
open Prod renaming fst->auQ
open Go.IntKind renaming wrap_i64->auU,i64->avb
open Bool renaming false_eq_true->au4
open Go.Sort renaming ahead->au5
open Go.World.ownsRow renaming cells->avi
set_option maxRecDepth 100000
set_option maxHeartbeats 100000000
set_option linter.all false
namespace Go.Proofs.YtldmhjbdahjhdaaGreatDoor
section
open Go Go.RowKit
theorem JH{xs:List cD}(h:∀v∈xs,jh v):fc xs=none:=by
 induction xs with
 |nil=>rfl
 |cons v xs b=>
  unfold fc;rw[(h v aun).1,if_pos rfl,b fun u hu=>h u (aum _ hu)]
  rfl
theorem JI{v:cD}(h:jh v):(-9223372036854775808<=v.num/\v.num<=9223372036854775807)/\v.text.size<=1000000:=by
 refine⟨h.2,?_⟩;rcases pA v h with rfl|⟨n,rfl,_⟩|⟨s,rfl,_,b⟩
 ·show(0:Nat)<=1000000;omega
 ·show(0:Nat)<=1000000;omega
 ·show s.size<=1000000;rw[size_data];omega
theorem G4(xs:List cD)(b k:Nat)(W:World)(hc:lR W b 0 xs)(q:∀v∈xs,jh v)(s:xs.length<=10):
  Calls aup 63 #[.slice (some ⟨b,0,none⟩) xs.length k] W (ar W (.tuple #[.string (sq (dW xs)),.nilIface])):=by
 refine(UQ xs b 0 k (some ⟨b,0,none⟩) (fun _=>rfl) (by omega) (fun i hi=>JI (q _ (aus hi))) W hc).mono ?_;intro e w' h;unfold xa at h;rw[JH q]at h;exact h
theorem Pr(W:World)(a b:ByteArray):lR (W.alloc (.cells #[.int .i64 2,.int .i64 0,.string a,.int .i64 2,.int .i64 0,.string b] 132)) W.heap.size 0 [gu a,gu b]:=by
 intro i h;have q:i<2:=h;rcases(show i=0\/i=1 by omega)with rfl|rfl<;>exact⟨by rw[auk];rfl,by rw[auk];rfl,by rw[auk];rfl⟩
theorem JJ(W:World)(a b:ByteArray)(r:Int):lR (W.alloc (.cells #[.int .i64 2,.int .i64 0,.string a,.int .i64 2,.int .i64 0,.string b,.int .i64 1,.int .i64 r,.string ⟨#[]⟩] 132)) W.heap.size 0 [gu a,gu b,kT r]:=by
 intro i h;have q:i<3:=h;rcases(show i=0\/i=1\/i=2 by omega)with rfl|rfl|rfl<;>exact⟨by rw[auk];rfl,by rw[auk];rfl,by rw[auk];rfl⟩
theorem Ps(W:World)(r:Int):lR (W.alloc (.cells #[.int .i64 1,.int .i64 r,.string ⟨#[]⟩] 132)) W.heap.size 0 [kT r]:=by
 intro i h;have b:i<1:=h;rcases(show i=0 by omega)with rfl
 exact⟨by rw[auk];rfl,by rw[auk];rfl,by rw[auk];rfl⟩
theorem Mc(W:World)(a:ByteArray):lR (W.alloc (.cells #[.int .i64 2,.int .i64 0,.string a] 132)) W.heap.size 0 [gu a]:=by
 intro i h;have b:i<1:=h;rcases(show i=0 by omega)with rfl
 exact⟨by rw[auk];rfl,by rw[auk];rfl,by rw[auk];rfl⟩
theorem jk{xs:List cD}{v:cD}(h:jh v)(hs:∀u∈xs,jh u):∀u∈v::xs,jh u:=fun u hu=>by
 rcases auA.1 hu with e|hu
 ·rw[e];exact h
 ·exact hs u hu
theorem qC:∀u∈([]:List cD),jh u:=fun u hu=>by cases hu
theorem NH{n w:ByteArray}(hn:bQ n)(hw:bQ w)(W:World):Calls aup 69 #[.string n,.string w] W (ar W (.string (cN n w))):=by
 have q:=G4 [gu n,gu w] W.heap.size 2 _ (Pr W n w) (jk hn.aA (jk hw.aA qC)) (by simp);have g:Gr W (W.alloc (.cells #[.int .i64 2,.int .i64 0,.string n,.int .i64 2,.int .i64 0,.string w] 132)):=(Gr.refl W).alloc _;have s:=aui q;have y:=aui g;clear q g hn hw;go_enter Tryz.func69,Tryz.ntmps69;go_wp2_with fail
 refine s.out.mono ?_;rintro e z ⟨rfl,b⟩;have HR:=aui (y.out.trans b);clear b;go_wp2_with fail
 go_ret;exact ar.mk rfl HR.out
theorem RH{n w:ByteArray}(hn:bQ n)(hw:bQ w){r:Int}(q:1<=r/\r<=1073741824)(W:World):Calls aup 90 #[.string n,.string w,.int .i64 r] W (ar W (.string (bS n w r))):=by
 have s:=G4 [gu n,gu w,kT r] W.heap.size 3 _ (JJ W n w r) (jk hn.aA (jk hw.aA (jk (qB q) qC))) (by simp);have g:Gr W (W.alloc (.cells #[.int .i64 2,.int .i64 0,.string n,.int .i64 2,.int .i64 0,.string w,.int .i64 1,.int .i64 r,.string ⟨#[]⟩] 132)):=(Gr.refl W).alloc _;have y:=aui s;have z:=aui g;clear s g hn hw q;go_enter Tryz.func90,Tryz.ntmps90;go_wp2_with fail
 refine y.out.mono ?_;rintro e B ⟨rfl,b⟩;have HR:=aui (z.out.trans b);clear b;go_wp2_with fail
 go_ret;exact ar.mk rfl HR.out
theorem RI(n:ByteArray)(hn:bQ n)(b:1<=n.size/\n.size<=16){r:Int}(q:1<=r/\r<=1073741824)(W:World):Calls aup 40 #[.string n,.int .i64 r] W (ar W .nilIface):=by
 have s:n.toList.isEmpty=false:=by
  cases h:n.toList.isEmpty with
  |false=>rfl
  |true=>
   rw[List.isEmpty_iff,auM]at h;have G:n.size=0:=by rw[size_data,h];rfl
   omega
 have y:¬16<(n.size:Int):=by omega
 have z:¬0<=Lib.indexByte n.data.toList 0:=by
  have h:=te n.data.toList 0;rw[hn.nz]at h;have:=of_decide_eq_true h;omega
 have B:¬r<1:=by omega
 have D:¬1073741824<r:=by omega
 clear q b hn;go_enter Tryz.func40,Tryz.ntmps40;go_wp2_with(go_at_call 72;refine(Tryz.strings_IndexByte _ _ _).mono ?_;rintro e H ⟨rfl,rfl⟩)
 go_ret;exact ar.mk rfl (Gr.refl _)
def gQ(n:Nat):ByteArray:=sq (dW [kT (n:Int)])
theorem vN(n:Nat):(gQ n).size=9:=by
 unfold gQ;rw[qA]
 rfl
theorem EN{n:Nat}(h:n<=1000000):jh (kT (n:Int)):=by
 refine⟨?_,by show(-9223372036854775808:Int)<=(n:Int);omega,by show(n:Int)<=9223372036854775807;omega⟩;unfold eD kT;simp
section
variable{w:World}{FP TP PB DB M:Nat}{c:Ch}{sv:Head}{t:Int}{d:Dk}
theorem NI(h:fR w FP TP PB DB M c sv t d)(hE:eG w)(hM:jj w){X:Tr}(hl:X.lays c d.pg 3){n:Nat}(hn:n<=1000000)(D:(X.get aW=none/\n=0)\/X.get aW=some (gQ n)):
  Calls aup 19 #[.pointer (some ⟨FP,0,none⟩)] w (ar w (.tuple #[.int .i64 (n:Int),.nilIface])):=by
 have hp:=h.p;have q:=L7 h.pg h.t (by omega) aW hl;have O:=fun(W:World) (g:Gr w W)=>hE.gr g;have Q:=fun(W:World) (g:Gr w W)=>hM.gr g;unfold aW at q D;have S:=aui O;have a1:=aui Q;clear O Q hE hM h hl;rcases D with⟨D,rfl⟩|D
 ·rw[D]at q;have H:Hid (Calls aup 67 #[.pointer (some ⟨TP,0,none⟩),.string ⟨#[1]⟩] w (ar w (.tuple #[.string eZ,.iface 24 (.int .i64 7)]))):=aui q;clear q D hn;go_enter avf,ave;go_wp2_with fail
  refine H.out.mono ?_;rintro e w1 ⟨rfl,s⟩;have z:=M8 (.iface 24 (.int .i64 7)) 7 (-1) w1 (S.out _ s) (.inr (.inl ⟨rfl,rfl⟩));have I:=aui s;clear s;go_wp2_with fail
  refine z.mono ?_;rintro e w2 ⟨rfl,B⟩;have HR:=aui (I.out.trans B);clear B z;go_wp2_with fail
  go_ret2;exact ar.mk rfl HR.out
 ·rw[D]at q;have H:Hid (Calls aup 67 #[.pointer (some ⟨TP,0,none⟩),.string ⟨#[1]⟩] w (ar w (.tuple #[.string (gQ n),.nilIface]))):=aui q;clear q D;go_enter avf,ave;go_wp2_with fail
  refine H.out.mono ?_;rintro e w1 ⟨rfl,s⟩;have z:=M8 .nilIface 0 (-1) w1 (S.out _ s) (.inl ⟨rfl,rfl,rfl⟩);have I:=aui s;clear s;go_wp2_with fail
  refine z.mono ?_;rintro e w2 ⟨rfl,B⟩;have J:=I.out.trans B;have U:=NF (gQ n) (by rw[vN];omega) w2 (a1.out _ J);have a2:=aui U;have a3:=aui J;clear B z U J;go_wp2_with fail
  refine a2.out.mono ?_;intro e w3 y;unfold kr at y;have V:fi (gQ n).data.toList=some [kT (n:Int)]:=yp [kT (n:Int)] (jk (EN hn) qC);rw[V]at y;obtain⟨v,rfl,hv,Y⟩:=y;obtain⟨ao,b,cp,rfl,L,G⟩:=hv.Ub;have L:=L (by simp);subst L;have c1:w3.cell? ⟨b,1,none⟩=some (.int .i64 (n:Int)):=(G 0 (by simp)).2.1;have HR:=aui (a3.out.trans Y);clear hv G Y V;have Z:([kT (n:Int)]:List cD).length=1:=rfl;rw[Z];clear Z;go_wp2_with fail
  go_ret2;exact ar.mk rfl HR.out
theorem Ts(h:fR w FP TP PB DB M c sv t d)(Y:eG w)(Z:jj w){X:Tr}(O:X.lays c d.pg 3){n:Nat}(hn:n<=1000000)(hK:(X.get aW=none/\n=0)\/X.get aW=some (gQ n)){m:Int}{n2:Nat}(hm:(n:Int)+m=n2)(Q:n2<=1000000){D:Ch}{X':Tr}(q:jC c 3 X aW (gQ n2)=(D,X',0)):
  Calls aup 45 #[.pointer (some ⟨FP,0,none⟩),.int .i64 m] w fun e w'=>e=.returned .nilIface/\fR w' FP TP PB DB M D sv t d/\aM PB DB M M w w':=by
 have G:=NI h Y Z O hn hK;have S:=aui G;have s:=aui (And.intro h (And.intro O q));have a8:avb.wrap ((n:Int)+m)=(n2:Int):=by
  rw[hm];rw[auU];omega
 have hp:=h.p;clear G h Y Z O hK q;go_enter Tryz.func45,Tryz.ntmps45;go_wp2_with fail
 refine S.out.mono ?_;rintro e B ⟨rfl,H⟩;have hk:=G4 [kT (n2:Int)] B.heap.size 1 _ (Ps B (n2:Int)) (jk (EN Q) qC) (by simp);have gA:Gr B (B.alloc (.cells #[.int .i64 1,.int .i64 (n2:Int),.string ⟨#[]⟩] 132)):=(Gr.refl B).alloc _;have HK:=aui hk;have U:=aui (H.trans gA);clear hk gA H;go_wp2_with fail
 refine HK.out.mono ?_;rintro e w2 ⟨rfl,I⟩;have b:=U.out.trans I;have a9:=b.keeps hp;have y:=RD (s.out.1.pg.gr b) (s.out.1.t.gr b) s.out.1.tn (by omega) aW (gQ n2) s.out.2.1;rw[s.out.2.2]at y;have V:Hid (Calls aup 89 #[.pointer (some ⟨TP,0,none⟩),.string ⟨#[1]⟩,.string (sq (dW [kT (n2:Int)]))] w2 fun e w'=>e=.returned .nilIface/\bF w' PB DB M D sv t d/\aM PB DB M M w2 w'):=aui y;have J:=aui b;clear y I b;go_wp2_with fail
 refine V.out.mono ?_;rintro e w3 ⟨rfl,L,z⟩;have HR:Hid (fR w3 FP TP PB DB M D sv t d/\aM PB DB M M w w3):=aui ⟨(s.out.1.gr J.out).act L z,(aM.ak PB DB M J.out).trans z⟩;clear L z;go_wp2_with fail
 go_ret;exact⟨rfl,HR.out⟩
end
theorem cS.gr{a0 w w':World}{v:Value}{xs:List aa}(h:cS a0 w v xs)(g:Gr w w'):cS a0 w' v xs:=aL h g
theorem cS.back{a0 s w:World}{v:Value}{xs:List aa}(h:cS s w v xs)(g:Gr a0 s):cS a0 w v xs:=by
 refine⟨h.row.1,?_⟩;rcases h.row.2 with b|⟨g',cap,q,b,y,z⟩
 ·exact .inl b
 ·exact .inr ⟨g',cap,q,b,auw g.size y,z⟩
structure xe(X:Tr)(n wd:ByteArray)(PS:List (List aa)):Prop where
 is:(lA X (cN n wd)).takeWhile (fun x=>preB (cN n wd) x.1)=PS.map (aV n wd)
 ok:gv PS
 len:(lA X (cN n wd)).length<=1000000
 Dr:PS.flatten.length<=100000
theorem rZ{l:List aa}(h:∀p∈l,jL p=true)(q:bH ae l):eR l=true:=by
 refine pK fun k b=>?_;unfold nV;have s:l.getD k (0,0)=l[k]:=by
  rw[auB,aul b]
  rfl
 rw[s,h _ (aus b),Bool.true_and,Bool.or_eq_true];cases k with
 |zero=>exact .inl rfl
 |succ k=>
  refine .inr ?_;have y:=(List.pairwise_iff_getElem.1 q) k (k+1) (by omega) b (by omega);show ae (l.getD k (0,0)) l[k+1]=true;rw[auB,aul (by omega)];exact y
theorem ER:∀{PS:List (List aa)},(∀l∈PS,l≠[])->PS.length<=PS.flatten.length
 |[],_=>auG _
 |l::PS,h=>by
  have q:=ER (PS:=PS) fun m b=>h m (aum _ b);have s:0<l.length:=auN.2 (h l aun);rw[auS,aut,auC];omega
theorem Cj{PS:List (List aa)}(ok:gv PS){l:List aa}(b:l∈PS)(W:World):
  Calls aup 70 #[.string (sq (bV l))] W fun e w'=>∃v,e=.returned (.tuple #[v,.nilIface])/\cS W w' v l/\Gr W w':=by
 have q:=ok.pc.ne l b;refine(S6 (sq (bV l)) (by rw[qA];omega) W).mono ?_;intro e w' h;unfold jV at h;rw[yr,zB (rZ (ok.aA l b) (ok.up l b))]at h;exact h
theorem yu{w:World}{v:Value}{n wd:ByteArray}{PS:List (List aa)}(h:vJ w v (PS.map (aV n wd))){i:Nat}(hi:i<PS.length):∃b z,v=.slice (some ⟨b,0,none⟩) PS.length z/\b<w.heap.size/\w.cell? ⟨b,i*2,none⟩=some (.string (bS n wd (rowOf PS[i])))/\w.cell? ⟨b,i*2+1,none⟩=some (.string (sq (bV PS[i]))):=by
 rcases h with⟨_,s⟩|⟨B,cap,y,s,D,G⟩
 ·have:=au2.1 s;rw[this]at hi;exact absurd hi (by simp)
 ·rw[auj]at y;have q:=G i (by rw[auj];exact hi);simp only[au8]at q;exact⟨B,cap,y,D,q.1,q.2⟩
section
variable{w:World}{FP TP PB DB M:Nat}{c:Ch}{sv:Head}{t:Int}{d:Dk}
theorem ES(h:fR w FP TP PB DB M c sv t d){X:Tr}(b:X.lays c d.pg 3){n wd:ByteArray}{PS:List (List aa)}(hw:xe X n wd PS){W:World}(g:Gr w W):
  Calls aup 64 #[.pointer (some ⟨TP,0,none⟩),.string (cN n wd)] W fun e w'=>∃v,e=.returned (.tuple #[v,.nilIface])/\vJ w' v (PS.map (aV n wd))/\Gr W w':=by
 have:=EM (h.pg.gr g) (h.t.gr g) (by omega) (cN n wd) b hw.len;rw[hw.is]at this;exact this
theorem ET(h:fR w FP TP PB DB M c sv t d){X:Tr}(J:X.lays c d.pg 3){n wd:ByteArray}(hn:bQ n)(L:bQ wd){PS:List (List aa)}(hw:xe X n wd PS):
  Calls aup 21 #[.pointer (some ⟨FP,0,none⟩),.string n,.string wd] w fun e w'=>∃v,e=.returned (.tuple #[v,.nilIface])/\cS w w' v PS.flatten/\Gr w w':=by
 have O:=h.p;have Q:=fun(W:World) (g:Gr w W)=>ES h J hw g;have S:=fun(W:World)=>NH hn L W;have a9:=aui Q;have b0:=aui S;have U:=aui hw;clear Q S hw h J hn L;go_enter Tryz.func21,Tryz.ntmps21;go_wp2_with fail
 go_region_held3(fun w'=>w'.cell? ⟨FP,0,none⟩=some (.pointer (some ⟨TP,0,none⟩))/\Gr w w') (first|exact⟨O,Gr.refl _⟩|exact⟨O,(Gr.refl _).drew⟩|exact⟨s.keeps O,s⟩|exact⟨y.keeps O,y⟩) (first|(go_at_call 69;refine(b0.out _).mono ?_;rintro e w1 ⟨rfl,V⟩;have y:=((Gr.refl w).drew).trans V)|(go_at_call 64;refine(a9.out _ (by assumption)).mono ?_;rintro e H ⟨v,rfl,hq,Y⟩;have s:=y.trans Y))
 have HQ:=aui hq;have HG:=aui s;clear y V Y s hq;obtain⟨av,cv,Z⟩:=HQ.out.form;rw[auj]at Z;subst Z;go_wp2_with fail
 go_loopw [10,31] (fun ov iv w'=>∃i:Nat,i<=PS.length/\iv=.int .i64 i/\cS H w' ov (PS.take i).flatten/\Gr H w') (fun _ iv _=>PS.length-(intOf iv).toNat)
 case atStart=>exact⟨0,au1 _,rfl,auH _ _ _ _,Gr.refl _⟩
 case round=>
  obtain⟨i,hi,rfl,I,B⟩:=hrel;have HO:=aui I;have b1:=aui B;by_cases q:i<PS.length
  ·obtain⟨b,cp,e1,hb,k0,k1⟩:=yu HQ.out q;cases e1;replace k0:=B.keeps k0;replace k1:=B.keeps k1;have b2:(i:Int)<(PS.length:Int):=by omega
   clear I B;go_wp2_with fail
   have gA:Gr wr (wr.alloc (.cells #[.string (bS n wd (rowOf PS[i])),.string (sq (bV PS[i]))] 140)):=(Gr.refl wr).alloc _;refine(Cj U.out.ok (aus q) _).mono ?_;rintro e w4 ⟨v4,rfl,a1,a2⟩;have D:=gA.trans a2;have G:=a1.own.lp;have z:Hid (cS H w4 u10 (PS.take i).flatten/\mG w4 v4 PS[i]/\Gr H w4/\(PS.take i).flatten.length+PS[i].length<=1000000):=aui ⟨HO.out.gr D,G,b1.out.trans D,by
    have h1:=U.out.Dr;have h2:(PS.take (i+1)).flatten.length=(PS.take i).flatten.length+PS[i].length:=by
     rw[auq q,auD,aut];simp
    have h3:(PS.take (i+1)).flatten.length<=PS.flatten.length:=by
     have:PS.flatten=(PS.take (i+1)).flatten++(PS.drop (i+1)).flatten:=by rw[<-auD,auK]
     rw[this,aut];omega
    omega⟩
   obtain⟨a4,c4,b3⟩:=G.form;clear gA a1 a2 D G k0 k1;subst b3;go_wp2_with(at_builtin;refine nY (a0:=H) rfl _ _ rfl _ (PS.take i).flatten rfl z.out.1 _ PS[i] rfl z.out.2.1 z.out.2.2.2 z.out.2.2.1 ?_;intro v6 w6 b4 b5)
   have e:wrap64 ((i:Int)+1)=((i+1:Nat):Int):=by
    have:=U.out.Dr;have h5:PS.length<=PS.flatten.length:=ER fun l J=>(U.out.ok.pc.ne l J).1;unfold wrap64;omega
   rw[e];refine⟨⟨i+1,q,rfl,?_,b5⟩,?_⟩
   ·rw[auq q,auD];simpa using b4
   ·show PS.length-(((i+1:Nat):Int)).toNat<PS.length-((i:Int)).toNat;omega
  ·have b2:¬(i:Int)<(PS.length:Int):=by omega
   have a3:PS.take i=PS:=auW (by omega);have HR:Hid (cS w wr u10 PS.flatten/\Gr w wr):=aui ⟨by rw[a3]at I;exact I.back HG.out,HG.out.trans B⟩;clear I B a3;go_wp2_with fail
   go_ret2;exact⟨_,rfl,HR.out⟩
end
theorem NK{b:Type}{p:b->Bool}:∀{l:List b} {x:b},x∈l.takeWhile p->p x=true
 |[],_,h=>by cases h
 |a::l,x,h=>by
  rw[auu]at h;cases q:p a with
  |true=>
   rw[q]at h;simp only[if_true]at h;rcases auA.1 h with e|h
   ·rw[e];exact q
   ·exact NK h
  |false=>
   rw[q]at h;simp at h
def mQ(PS:List (List aa))(row:Int):Nat:=(PS.takeWhile fun l=>decide (rowOf l<=row)).length
theorem tq(PS:List (List aa))(row:Int):mQ PS row<=PS.length:=(auI _).length_le
theorem Pw{PS:List (List aa)}{row:Int}:∀l∈PS.take (mQ PS row),rowOf l<=row:=by
 intro l b;have h:PS.take (mQ PS row)=PS.takeWhile fun l=>decide (rowOf l<=row):=(auV.1 (auZ _)).symm;rw[h]at b;have:=NK b;simpa using this
theorem Ck{PS:List (List aa)}(ok:gv PS){row:Int}:∀l∈PS.drop (mQ PS row),row<rowOf l:=by
 have y:PS.Pairwise fun a b=>rowOf a<rowOf b:=ok.pc.apart.imp_of_mem fun{a b} ha z h=>xd (ok.pc.ne a ha).1 (ok.pc.ne b z).1 h;clear ok;unfold mQ
 induction PS with
 |nil=>intro l q;simp at q
 |cons a PS B=>
  obtain⟨D,G⟩:=List.pairwise_cons.1 y;intro l q;rw[auu]at q;cases s:decide (rowOf a<=row)with
  |true=>
   rw[s]at q;simp only[if_true,auC,List.drop_succ_cons]at q;exact B G l q
  |false=>
   rw[s]at q;simp only[au4,if_false,avc,List.drop_zero]at q;have H:¬rowOf a<=row:=of_decide_eq_false s;rcases auA.1 q with e|q
   ·rw[e];omega
   ·have:=D l q;omega
theorem JS{PS:List (List aa)}(ok:gv PS){row:Int}(h:mQ PS row=0):rI PS [] [] PS row:=
 ⟨rfl,by simp,fun _=>rfl,(fun l b=>by cases b),fun l b=>Ck ok l (by rw[h];exact b)⟩
theorem JT{PS:List (List aa)}(ok:gv PS){row:Int}{k:Nat}(h:mQ PS row=k+1)(q:k<PS.length):rI PS (PS.take k) [PS[k]] (PS.drop (k+1)) row:=by
 refine⟨?_,by simp,(fun h=>by cases h),fun l b=>?_,fun l b=>Ck ok l (by rw[h];exact b)⟩
 ·have s:=auK k PS;rw[auR q]at s;exact s.symm
 ·rw[auP.1 b];refine Pw (PS:=PS) _ ?_;rw[h,auq q];exact aur _ (auP.2 rfl)
theorem Tv(x s:ByteArray):(!Op.bytesLess x.toList s.toList&&!(x.toList==s.toList))=decide (ay s x):=by
 rw[auM,auM];have z:=Ky x.data.toList s.data.toList;have B:=nM x.data.toList s.data.toList;have q:ay s x↔Lib.compareBytes x.data.toList s.data.toList=1:=by
  rw[jO,vC x s];unfold gh;omega
 rcases yI x.data.toList s.data.toList with h|h|h
 ·rw[z.2 h,decide_eq_false (fun b=>by rw[q,h]at b;cases b)]
  rfl
 ·rw[B.1 h];rw[decide_eq_false (fun b=>by rw[q,h]at b;cases b)];simp
 ·have b:Op.bytesLess x.data.toList s.data.toList=false:=by
   cases y:Op.bytesLess x.data.toList s.data.toList with
   |false=>rfl
   |true=>rw[z.1 y]at h;cases h
  have D:(x.data.toList==s.data.toList)=false:=by
   cases y:(x.data.toList==s.data.toList)with
   |false=>rfl
   |true=>
    rw[B.2 (by simpa using y)]at h;cases h
  rw[b,D,decide_eq_true (q.2 h)]
  rfl
theorem Px(W:World)(B:Nat)(s:ByteArray)(x:cM)(h:W.cell? ⟨B,0,none⟩=some (.string s)):
  Calls aup 92 #[.agg #[.string x.1,.string x.2],.pointer (some ⟨B,0,none⟩)] W (ar W (.bool (decide (ay s x.1)))):=by
 obtain⟨b,q⟩:=x;have g1:Gr W (W.alloc (.cells #[.string b,.string q] 140)):=(Gr.refl W).alloc _;have y:(W.alloc (.cells #[.string b,.string q] 140)).cell? ⟨W.heap.size,0,none⟩=some (.string b):=by rw[auk];rfl
 have z:=g1.keeps h;go_enter avg,Tryz.ntmps92;go_wp2_with fail
 go_ret;exact ar.mk (congrArg Value.bool (Tv b s)) g1
section
variable{w:World}{FP TP PB DB M:Nat}{c:Ch}{sv:Head}{t:Int}{d:Dk}
def cZ(n wd:ByteArray)(PS:List (List aa))(row:Int):ByteArray×List aa:=match mQ PS row with
 |0=>(⟨#[]⟩,[])
 |k+1=>match PS[k]? with
  |some l=>((aV n wd l).1,l)
  |none=>(⟨#[]⟩,[])
theorem NM{b q:Type}(f:b->q)(p:q->Bool):∀l:List b,(l.map f).takeWhile p=(l.takeWhile fun x=>p (f x)).map f
 |[]=>rfl
 |a::l=>by
  rw[auE,auu,auu,NM f p l];cases p (f a)<;>rfl
theorem EW{b:Type}{p q:b->Bool}:∀{l:List b},(∀x∈l,p x=q x)->l.takeWhile p=l.takeWhile q
 |[],_=>rfl
 |a::l,h=>by
  rw[auu,auu,h a aun,EW fun x s=>h x (aum _ s)]
theorem RP(h:fR w FP TP PB DB M c sv t d){X:Tr}(hl:X.lays c d.pg 3){n wd:ByteArray}(hn:bQ n)(U:bQ wd){PS:List (List aa)}(hw:xe X n wd PS){row:Int}(hr:1<=row/\row<=1073741824):
  Calls aup 46 #[.pointer (some ⟨FP,0,none⟩),.string n,.string wd,.int .i64 row] w fun e w'=>∃v,e=.returned (.tuple #[.string (cZ n wd PS row).1,v,.nilIface])/\cS w w' v (cZ n wd PS row).2/\Gr w w':=by
 have hp:=h.p;have b1:=fun(W:World) (g:Gr w W)=>ES h hl hw g;have b2:=fun(W:World)=>NH hn U W;have b3:=fun(W:World)=>RH hn U hr W;have z:=ti (fun x=>decide (ay (bS n wd row) x.1)) (PS.map (aV n wd)) 0;have b4:((PS.map (aV n wd)).takeWhile fun x=>!decide (ay (bS n wd row) x.1))=(PS.take (mQ PS row)).map (aV n wd):=by
  rw[NM];have e:PS.take (mQ PS row)=PS.takeWhile fun l=>decide (rowOf l<=row):=(auV.1 (auZ _)).symm;rw[e]
  congr 1
  refine EW fun l d1=>?_;have q:=wZ (n:=n) hn U hr (hw.ok.row d1);show(!decide (ay (bS n wd row) (bS n wd (rowOf l))))=_;by_cases H:row<rowOf l
  ·rw[decide_eq_true (q.2 H),decide_eq_false (by omega)]
   rfl
  ·rw[decide_eq_false (fun h3=>H (q.1 h3)),decide_eq_true (by omega)]
   rfl
 rw[b4]at z;have z:(au9 (fun _ y=>decide (ay (bS n wd row) y.1)) (PS.map (aV n wd)) default=-1/\mQ PS row=PS.length)\/au9 (fun _ y=>decide (ay (bS n wd row) y.1)) (PS.map (aV n wd)) default=(mQ PS row:Int):=by
  rcases z with⟨q,H⟩|⟨k,I,q,H⟩
  ·refine .inl ⟨q,?_⟩;have:=congrArg auT H;rw[auj,auj,auy]at this;have:=tq PS row;omega
  ·refine .inr ?_;have h3:=congrArg auT H;rw[auj,auy,auy,auj]at h3;rw[auj]at I;have h4:=tq PS row;have h5:au9 (fun _ y=>decide (ay (bS n wd row) y.1)) (PS.map (aV n wd)) default=((0+k:Nat):Int):=q;rw[h5]
   congr 1
   omega
 obtain⟨ix,B⟩:∃ix,au9 (fun _ (y:cM)=>decide (ay (bS n wd row) y.1)) (PS.map (aV n wd)) default=ix:=⟨_,rfl⟩;rw[B]at z;have S:PS.length<=1000000:=by
  have q:=hw.len;have H:=congrArg auT hw.is;rw[auj]at H;have h3:=(auI (fun x=>preB (cN n wd) x.1) (l:=lA X (cN n wd))).length_le;omega
 have d2:=aui b1;have d3:=aui b2;have d4:=aui b3;have d5:=aui z;have HW:=aui hw;have c3:=aui B;have L:=aui S;clear b1 b2 b3 hw h hl hn U z b4 B S hr;go_enter Tryz.func46,Tryz.ntmps46;go_wp2_with fail
 go_region_held3(fun w'=>w'.cell? ⟨FP,0,none⟩=some (.pointer (some ⟨TP,0,none⟩))/\Gr w w') (first|exact⟨hp,Gr.refl _⟩|exact⟨hp,(Gr.refl _).drew⟩|exact⟨V.keeps hp,V⟩|exact⟨Y.keeps hp,Y⟩) (first|(go_at_call 69;refine(d3.out _).mono ?_;rintro e w1 ⟨rfl,b6⟩;have Y:=((Gr.refl w).drew).trans b6)|(go_at_call 64;refine(d2.out _ (by assumption)).mono ?_;rintro e w2 ⟨v,rfl,hq,b7⟩;have V:=Y.trans b7))
 have HQ:=aui hq;have HG:=aui V;clear Y b6 b7 V hq hp;obtain⟨av,cv,b8⟩:=HQ.out.form;rw[auj]at b8;subst b8;go_wp2_with fail
 refine(d4.out _).mono ?_;rintro e w3 ⟨rfl,b9⟩;have c0:=aui b9;clear b9;go_wp2_with fail
 have gB:Gr w3 (w3.alloc (.cells #[.string (bS n wd row)] 9)):=(Gr.refl w3).alloc _;have b0:=jx w3 (.string (bS n wd row)) 9;obtain⟨W4,c1⟩:∃W4,w3.alloc (.cells #[.string (bS n wd row)] 9)=W4:=⟨_,rfl⟩;rw[c1]at gB b0⊢;clear c1;have B:=JF (PS.map (aV n wd)) (.slice av PS.length cv) 92 #[.pointer (some ⟨w3.heap.size,0,none⟩)] (fun x=>decide (ay (bS n wd row) x.1)) W4 (HQ.out.gr (c0.out.trans gB)) (by rw[auj];exact L.out) (enters_of avg (by kernel_rfl) rfl) (fun W x g=>Px W _ _ x (g.keeps b0));rw[c3.out]at B;have c2:=aui (c0.out.trans gB);clear gB b0;refine B.mono ?_;rintro e w5 ⟨rfl,a4⟩;have a3:=aui (c2.out.trans a4);have J:=aui (HG.out.trans (c2.out.trans a4));clear a4 B z;rcases d5.out with⟨q,H⟩|q
 ·subst q;cases I:mQ PS row with
  |zero=>
   rw[I]at H;have d6:((PS.length:Nat):Int)=0:=by omega
   have s:cZ n wd PS row=(⟨#[]⟩,[]):=by
    unfold cZ;rw[I]
   have HR:Hid (⟨#[]⟩=(cZ n wd PS row).1/\cS w w5 (.slice none 0 0) (cZ n wd PS row).2/\Gr w w5):=aui ⟨by rw[s],by rw[s];exact auH _ _ _ _,J.out⟩;clear s;go_wp2_with fail
   go_ret3
   refine⟨.slice none 0 0,?_,HR.out.2⟩;rw[<-HR.out.1]
   rfl
  |succ k=>
   rw[I]at H;have d6:((PS.length:Nat):Int)=((k+1:Nat):Int):=by omega
   have Z:k<PS.length:=by have:=tq PS row;omega
   have s:cZ n wd PS row=((aV n wd PS[k]).1,PS[k]):=by
    unfold cZ;rw[I];simp only[aul Z]
   obtain⟨b,cp,e1,hb,k0,k1⟩:=yu (HQ.out.gr a3.out) Z;cases e1;have O:=Cj HW.out.ok (aus Z) w5;have a5:=aui O;have Q:=aui s;have d7:avb.wrap (((k+1:Nat):Int)-1)=(k:Int):=by rw[auU];have:=L.out;omega
   have d8:wrap64 (k:Int)=(k:Int):=by unfold wrap64;have:=L.out;omega
   have d9:(k:Int)<(PS.length:Int):=by omega
   have e0:¬((k+1:Nat):Int)=0:=by omega
   have e2:¬((k+1:Nat):Int)<0:=by omega
   have K0:=aui k0;clear O s k0;go_wp2_with fail
   refine a5.out.mono ?_;rintro e w6 ⟨v6,rfl,D,G⟩;have k0:=G.keeps K0.out;have HR:Hid ((aV n wd PS[k]).1=(cZ n wd PS row).1/\cS w w6 v6 (cZ n wd PS row).2/\Gr w w6):=aui ⟨by rw[Q.out],by rw[Q.out];exact D.back J.out,J.out.trans G⟩;obtain⟨a6,c6,a7⟩:=D.own.form;clear D G;subst a7;go_wp2_with fail
   go_ret3
   refine⟨_,?_,HR.out.2⟩;rw[<-HR.out.1]
   rfl
 ·cases I:mQ PS row with
  |zero=>
   rw[I]at q;subst q;have s:cZ n wd PS row=(⟨#[]⟩,[]):=by
    unfold cZ;rw[I]
   have HR:Hid (⟨#[]⟩=(cZ n wd PS row).1/\cS w w5 (.slice none 0 0) (cZ n wd PS row).2/\Gr w w5):=aui ⟨by rw[s],by rw[s];exact auH _ _ _ _,J.out⟩;clear s;go_wp2_with fail
   go_ret3
   refine⟨.slice none 0 0,?_,HR.out.2⟩;rw[<-HR.out.1]
   rfl
  |succ k=>
   rw[I]at q;subst q;have Z:k<PS.length:=by have:=tq PS row;omega
   have s:cZ n wd PS row=((aV n wd PS[k]).1,PS[k]):=by
    unfold cZ;rw[I];simp only[aul Z]
   obtain⟨b,cp,e1,hb,k0,k1⟩:=yu (HQ.out.gr a3.out) Z;cases e1;have O:=Cj HW.out.ok (aus Z) w5;have a5:=aui O;have Q:=aui s;have d7:avb.wrap (((k+1:Nat):Int)-1)=(k:Int):=by rw[auU];have:=L.out;omega
   have d8:wrap64 (k:Int)=(k:Int):=by unfold wrap64;have:=L.out;omega
   have d9:(k:Int)<(PS.length:Int):=by omega
   have e0:¬((k+1:Nat):Int)=0:=by omega
   have e2:¬((k+1:Nat):Int)<0:=by omega
   have K0:=aui k0;clear O s k0;go_wp2_with fail
   refine a5.out.mono ?_;rintro e w6 ⟨v6,rfl,D,G⟩;have k0:=G.keeps K0.out;have HR:Hid ((aV n wd PS[k]).1=(cZ n wd PS row).1/\cS w w6 v6 (cZ n wd PS row).2/\Gr w w6):=aui ⟨by rw[Q.out],by rw[Q.out];exact D.back J.out,J.out.trans G⟩;obtain⟨a6,c6,a7⟩:=D.own.form;clear D G;subst a7;go_wp2_with fail
   go_ret3
   refine⟨_,?_,HR.out.2⟩;rw[<-HR.out.1]
   rfl
end
def kW(pg:Nat->ByteArray)(n wd:ByteArray)(Q:Ch->Tr->Prop):List (List aa)->Ch->Tr->Prop
 |[],c,X=>Q c X
 |l::b,c,X=>X.lays c pg 3/\∃q s,jC c 3 X (aV n wd l).1 (aV n wd l).2=(q,s,0)/\kW pg n wd Q b q s
theorem kW.mono{pg:Nat->ByteArray}{n wd:ByteArray}{Q Q':Ch->Tr->Prop}(q:∀c X,Q c X->Q' c X):∀{b:List (List aa)} {c:Ch} {X:Tr},kW pg n wd Q b c X->kW pg n wd Q' b c X
 |[],_,_,h=>q _ _ h
 |_::_,_,_,⟨s,y,z,B,D⟩=>⟨s,y,z,B,D.mono q⟩
structure t_(pg:Nat->ByteArray)(n wd old:ByteArray)(l:List aa)(Q:Ch->Tr->Prop)(c:Ch)(X:Tr):Prop where
 cut:fj l
 inr:∀p∈l,jL p=true
 len:l.length<=100000
 op:(old=⟨#[]⟩/\kW pg n wd Q (jP l) c X)\/(old≠⟨#[]⟩/\∃c1 X1,lz c 3 X old=(c1,X1,0)/\kW pg n wd Q (jP l) c1 X1)
theorem t_.mono{pg:Nat->ByteArray}{n wd old:ByteArray}{l:List aa}{Q Q':Ch->Tr->Prop}(s:∀c X,Q c X->Q' c X){c:Ch}{X:Tr}(h:t_ pg n wd old l Q c X):t_ pg n wd old l Q' c X:=by
 refine⟨h.cut,h.inr,h.len,?_⟩;rcases h.op with⟨b,q⟩|⟨b,y,z,q,B⟩
 ·exact .inl ⟨b,q.mono s⟩
 ·exact .inr ⟨b,y,z,q,B.mono s⟩
abbrev Ct:Type:=ByteArray->List aa
def EY(L:Ct)(wd:ByteArray)(x:List aa):Ct:=fun b=>if b=wd then x else L b
structure lG(pg:Nat->ByteArray)(n:ByteArray)(V:Nat)(L:Ct)(N:Nat)(K:LP)(c:Ch)(X:Tr):Prop where
 tg:TG oP pg aW 3 c X K aW 0 V (fun y=>y∈K.map auQ)
 xg:(K=[]/\N=0)\/bq K aW=some (gQ N)
 has:∀wd,bQ wd->∃PS,eF K (cN n wd)=PS.map (aV n wd)/\gv PS/\PS.flatten=L wd
 small:∀wd,∀p∈L wd,fN p
 keys:∀e∈K,e.1=aW\/∃wd r,bQ wd/\wd.size<=12/\(1<=r/\r<=1073741824)/\e.1=bS n wd r
theorem iy{b:Type}[DecidableEq b](lt:b->b->Bool)(l:List b):(setOf lt l).length<=l.length:=by
 unfold setOf;have:=jq (l.mergeSort fun x y=>!lt y x);rw[List.length_mergeSort]at this;exact this
theorem uQ{l:List aa}(h:bH ae l):l.Nodup:=h.imp fun{a b} q e=>by
 subst e;rw[dL]at q;omega
theorem vQ:∀{l m:List aa},l.Nodup->(∀p∈l,p∈m)->l.length<=m.length
 |[],_,_,_=>au1 _
 |a::l,m,h,y=>by
  obtain⟨z,B⟩:=List.nodup_cons.1 h;obtain⟨s,t,rfl⟩:=List.append_of_mem (y a aun);have D:=vQ (m:=s++t) B fun p q=>by
   rcases auz.1 (y p (aum _ q))with b|b
   ·exact auo _ b
   ·rcases auA.1 b with e|b
    ·rw[e]at q;exact absurd q z
    ·exact aur _ b
  rw[aut]at D⊢;rw[auC,auC];omega
theorem PA{l m:List aa}(h:bH ae l)(b:∀p∈l,p∈m):l.length<=(setOf ae m).length:=
 vQ (uQ h) fun p q=>(bm _ _ _).2 (b p q)
theorem yv:∀K:LP,2*K.length<=aN oP K
 |[]=>au1 _
 |x::K=>by
  have b:=yv K;have q:=tZ x.1 x.2;have s:pz x.1 x.2=2+x.1.size+x.2.size:=rfl;rw[fL,auC];omega
theorem rK(p:ByteArray×ByteArray->Bool):∀K:LP,aN oP (K.filter p)<=aN oP K
 |[]=>auG _
 |x::K=>by
  have b:=rK p K;rw[au_]
  split
  ·rw[fL,fL];omega
  ·rw[fL];omega
theorem Mf{K:LP}(k v:ByteArray):∀y∈K.map auQ,y∈(aq K k v).map auQ:=fun y q=>by
 obtain⟨e,b,rfl⟩:=auX.1 q;unfold aq;rw[auY,auE];rcases ka e.1 k with h|h|h
 ·exact auo _ (auv (auF.2 ⟨b,decide_eq_true h⟩))
 ·rw[h];exact aur _ aun
 ·exact aur _ (aum _ (auv (auF.2 ⟨b,decide_eq_true h⟩)))
theorem PD{K:LP}{k v:ByteArray}(h:bq K k=some v):k∈K.map auQ:=by
 unfold bq at h;cases hf:K.find? (fun x=>decide (x.1=k))with
 |none=>rw[hf]at h;cases h
 |some x=>
  have b:=List.find?_some hf;have q:=List.mem_of_find?_eq_some hf;have s:x.1=k:=by simpa using b
  rw[<-s];exact auv q
section
variable{pg:Nat->ByteArray}{n:ByteArray}{V N:Nat}{L:Ct}{K:LP}{c:Ch}{X:Tr}
theorem lG.get(h:lG pg n V L N K c X):(X.get aW=none/\N=0)\/X.get aW=some (gQ N):=by
 rw[h.tg.get (bg _)];rcases h.xg with⟨b,q⟩|b
 ·refine .inl ⟨?_,q⟩;rw[b]
  rfl
 ·exact .inr b
theorem lG.parts(h:lG pg n V L N K c X){wd:ByteArray}{PS:List (List aa)}(ok:gv PS)(e:PS.flatten=L wd):∀l∈PS,l≠[]/\(∀p∈l,fN p)/\bH ae l:=fun l b=>
 ⟨(ok.pc.ne l b).1,fun p q=>h.small wd p (by rw[<-e];exact ava.2 ⟨l,b,q⟩),ok.up l b⟩
theorem lG.RT(h:lG pg n V L N K c X)(hn:bQ n)(q:n.size<=1){wd:ByteArray}(hw:bQ wd){PS:List (List aa)}(b:eF K (cN n wd)=PS.map (aV n wd))(ok:gv PS)(e:PS.flatten=L wd):(19+wd.size)*(L wd).length<=V:=by
 have s:=Cm hn hw q (h.parts ok e);rw[<-e,<-s];unfold mq;rw[<-b];exact auw (rK _ K) h.tg.aN
theorem lG.RU(h:lG pg n V L N K c X)(hn:bQ n)(y:n.size<=1)(D:V<12145){wd:ByteArray}(hw:bQ wd){PS:List (List aa)}(b:eF K (cN n wd)=PS.map (aV n wd))(ok:gv PS)(e:PS.flatten=L wd):xe X n wd PS:=by
 have q:=h.tg.walk (s:=cN n wd) (di (zw n wd));refine⟨by rw[q,EJ h.tg.GY,b],ok,?_,?_⟩
 ·rw[q];have z:(iT K (cN n wd)).length<=K.length:=au0 _ _;have B:=yv K;have G:=h.tg.aN;omega
 ·have z:=h.RT hn y hw b ok e;rw[e];have B:(L wd).length<=(19+wd.size)*(L wd).length:=auJ _ (by omega);omega
theorem JV(m:Nat):oP aW (gQ m)=12:=by
 have b:pz aW (gQ m)=12:=by
  unfold pz;rw[vN]
  rfl
 unfold oP;rw[b];have q:fi aW.data.toList=some [⟨0,0,⟨#[]⟩⟩]:=by rfl
 rw[q]
 rfl
theorem lG.VF(h:lG pg n V L N K c X){b:Nat}(I:(K=[]/\b=V+12)\/(K≠[]/\b=V))(O:b<12145)(m:Nat):
  ∃z B J,jC c 3 X aW (gQ m)=(z,B,0)/\lG pg n b L m J z B/\bq J aW=some (gQ m):=by
 have Z:oP aW (gQ m)-oz oP K aW=b-V/\V<=b:=by
  rw[JV];rcases I with⟨q,D⟩|⟨q,D⟩
  ·rw[q,BS (by rfl)];omega
  ·rcases h.xg with⟨G,_⟩|G
   ·exact absurd G q
   ·rw[Jy G,JV];omega
 have Q:=((h.tg.add (b-V)).less (r':=0+(oP aW (gQ m)-oz oP K aW)) (V':=b) (A':=fun y=>y∈(aq K aW (gQ m)).map auQ) (by omega) (by omega) (fun y H=>Mf _ _ y H));obtain⟨z,B,q,D⟩:=Q.put tZ (by omega) (fun _=>rfl) (by decide) (by rw[vN];omega) O (fun y H=>H);refine⟨z,B,_,q,⟨D,.inr (xc h.tg.GY _ _),fun M hw=>?_,h.small,fun e s=>?_⟩,xc h.tg.GY _ _⟩
 ·obtain⟨S,U,Y⟩:=h.has M hw;exact⟨S,by rw[uN h.tg.GY _ (Dn n M)];exact U,Y⟩
 ·rcases nF s with s|s
  ·exact h.keys e s
  ·rw[s];exact .inl rfl
theorem yw{ω:Wt}{w:ByteArray}{D:LP}{B:List (List aa)}{S:Nat}(q:∀k v,pz k v<=ω k v)(hn:bQ n)(hw:bQ w)(s:n.size+w.size<=13)(G:V<12145):
  ∀(b:List (List aa)) {c:Ch} {X:Tr} {K:LP} {A:List (List aa)},Ds ω pg 3 n w c X K D A b B V S->kW pg n w (fun y z=>∃I,Ds ω pg 3 n w y z I D (A++b) [] B V S) b c X
 |[],c,X,K,A,h=>⟨K,by rw[avd];exact h⟩
 |l::b,c,X,K,A,h=>by
  obtain⟨y,z,J,L⟩:=h.put q (by omega) hn hw s G;obtain⟨_,_,M,_⟩:=h.tg;refine⟨M.lays,y,z,J,(yw q hn hw s G b L).mono fun Q U ⟨O,H⟩=>⟨O,?_⟩⟩;rw[au7,List.singleton_append]at H;exact H
theorem Dt{a b:List aa}(h:a≠[]):rowOf (a++b)=rowOf a:=by
 cases a with
 |nil=>exact absurd rfl h
 |cons p r=>rfl
theorem Mg{P l:List aa}{row:Int}(I:P≠[])(J:bH ae P)(L:∀p∈l,p.1=row)(H:rowOf P<=row)(hc:fj (setOf ae (P++l))):∃m∈jP (setOf ae (P++l)),rowOf m=rowOf P:=by
 obtain⟨y,M⟩:=xb hc;obtain⟨G,b,S⟩:=gK I;have s:setOf ae (P++l)≠[]:=fun e=>by
  have:=(bm ae (P++l) G).2 (auo _ b);rw[e]at this;cases this
 cases z:jP (setOf ae (P++l))with
 |nil=>rw[z]at y;exact absurd y.symm s
 |cons m r=>
  refine⟨m,aun,?_⟩;have D:m≠[]:=(M.ne m (by rw[z];exact aun)).1;have O:rowOf m=rowOf (setOf ae (P++l)):=by
   rw[<-y,z,auS,Dt D]
  rw[O];obtain⟨q,Q,U⟩:=gK s;have V:=nh (bT bw (P++l)) G ((bm _ _ _).2 (auo _ b));rcases auz.1 ((bm _ _ _).1 Q)with B|B
  ·have:=nh J q B;omega
  ·have:=L q B;omega
theorem JW{K:LP}{s:ByteArray}{e:ByteArray×ByteArray}(h:e∈eF K s):e∈K:=(auF.1 h).1
theorem Co(L:Ct)(wd:ByteArray)(x:List aa):EY L wd x wd=x:=if_pos rfl
theorem zF(L:Ct){wd b:ByteArray}(x:List aa)(h:b≠wd):EY L wd x b=L b:=if_neg h
theorem lG.save(hn:bQ n)(h1:n.size<=1)(h:lG pg n V L N K c X)(hK:bq K aW=some (gQ N)){wd:ByteArray}(hw:bQ wd)(hs:wd.size<=12){row:Int}{l:List aa}(hl:∀p∈l,p.1=row)(b2:∀p∈l,fN p)(hV:V+(19+wd.size)*l.length<12145):
  ∃PS,xe X n wd PS/\PS.flatten=L wd/\t_ pg n wd (cZ n wd PS row).1 (setOf ae ((cZ n wd PS row).2++l)) (fun U Y=>∃H,lG pg n (V+(19+wd.size)*l.length) (EY L wd (setOf ae (L wd++l))) N H U Y/\bq H aW=some (gQ N)) c X:=by
 obtain⟨PS,Z,ok,e⟩:=h.has wd hw;have c3:=h.RU hn h1 (by omega) hw Z ok e;have e6:=h.parts ok e;refine⟨PS,c3,e,?_⟩;have b3:∀p∈l,jL p=true:=fun p q=>(b2 p q).jL;have g9:=c3.Dr;have e7:l.length<=(19+wd.size)*l.length:=auJ _ (by omega);have c4:l.length<=12145:=auw e7 (by omega);have d3:PS.flatten.length<=12145:=by
  have h2:=h.RT hn h1 hw Z ok e;rw[e];have M:(L wd).length<=(19+wd.size)*(L wd).length:=auJ _ (by omega);exact auw M (auw h2 (by omega))
 have a6:bq K aW≠none:=by rw[hK];simp
 have c5:∀(A P:List (List aa)) (B:List (List aa)) (G:rI PS A P B row) (hc:fj (setOf ae (P.flatten++l))) (V' S:Nat),V'<=V+(19+wd.size)*l.length->
   ∀U Y H,Ds oP pg 3 n wd U Y H K (A++jP (setOf ae (P.flatten++l))) [] B V' S->lG pg n (V+(19+wd.size)*l.length) (EY L wd (setOf ae (L wd++l))) N H U Y/\bq H aW=some (gQ N):=by
  intro A P B G hc V' S e8 U Y H s;obtain⟨_,b6⟩:=G.ok ok hl b3 hc;have a5:bq H aW=some (gQ N):=s.rest.xg.trans hK;have d4:∀y∈K.map auQ,y∈H.map auQ:=fun y hy=>by
   obtain⟨x,hx,rfl⟩:=auX.1 hy;rcases h.keys x hx with e1|⟨I,r,a7,_,_,e1⟩
   ·rw[e1];exact PD a5
   ·have a9:preB (cN n I) x.1=true:=by rw[e1];exact kq n I r
    by_cases ew:I=wd
    ·subst ew;have a4:x∈eF K (cN n I):=auF.2 ⟨hx,a9⟩;rw[Z]at a4;obtain⟨m,J,rfl⟩:=auX.1 a4;have Q:∀m2∈A++jP (setOf ae (P.flatten++l))++B,(aV n I m2).1∈H.map auQ:=fun m2 b4=>by
      have:aV n I m2∈eF H (cN n I):=by
       rw[s.is];exact auv b4
      exact auv (JW this)
     rw[G.is]at J;rcases auz.1 J with J|J
     ·exact Q m (auo _ (auo _ J))
     ·rcases auz.1 J with J|J
      ·have e9:P=[m]:=by
        have:=G.one;cases P with
        |nil=>cases J
        |cons a r=>
         cases r with
         |nil=>rw[auP.1 J]
         |cons b r=>simp at this
       subst e9;have b0:m∈PS:=by rw[G.is];simp
       have e3:[m].flatten=m:=by simp
       rw[e3]at hc Q;obtain⟨m2,b4,e2⟩:=Mg (ok.pc.ne m b0).1 (ok.up m b0) hl (G.low m (by simp)) hc;have:=Q m2 (auo _ (aur _ b4));unfold aV at this⊢;rw[e2]at this;exact this
      ·exact Q m (aur _ J)
    ·have a4:x∈eF K (cN n I):=auF.2 ⟨hx,a9⟩;rw[<-s.rest.Tu I a7 ew]at a4;exact auv (JW a4)
  obtain⟨g0,_⟩:=s.done d4;refine⟨⟨g0.less (auG _) e8 fun y hy=>hy,.inr a5,fun I a7=>?_,fun I p q=>?_,fun x hx=>?_⟩,a5⟩
  ·by_cases ew:I=wd
   ·subst ew;refine⟨A++jP (setOf ae (P.flatten++l))++B,s.is,?_,?_⟩
    ·have:=s.ok;rw[auL]at this;exact this
    ·rw[Co,<-e,<-b6,au7]
   ·obtain⟨g3,a1,a2,a3⟩:=h.has I a7;exact⟨g3,by rw[s.rest.Tu I a7 ew];exact a1,a2,by rw[zF _ _ ew];exact a3⟩
  ·by_cases ew:I=wd
   ·subst ew;rw[Co,bm]at q;rcases auz.1 q with q|q
    ·exact h.small I p q
    ·exact b2 p q
   ·rw[zF _ _ ew]at q;exact h.small I p q
  ·rcases s.rest.keys x hx with h2|⟨r,h2,M⟩
   ·exact h.keys x h2
   ·exact .inr ⟨wd,r,hw,hs,h2,M⟩
 have D:∀P:List aa,(∀p∈P,fN p)->∀p∈setOf ae (P++l),fN p:=fun P hP p q=>by
  rcases auz.1 ((bm _ _ _).1 q)with q|q
  ·exact hP p q
  ·exact b2 p q
 have c8:∀P:List aa,(∀p∈P,fN p)->mq oP n wd (jP (setOf ae (P++l)))=(19+wd.size)*(setOf ae (P++l)).length:=fun P hP=>by
  have g4:=vP (bT bw (P++l)) (D P hP);obtain⟨p1,p2⟩:=xb g4;have:=Cm hn hw h1 (PS:=jP (setOf ae (P++l))) fun m J=>⟨(p2.ne m J).1,fun p q=>D P hP p (by rw[<-p1];exact ava.2 ⟨m,J,q⟩),by
   have M:bH ae (jP (setOf ae (P++l))).flatten:=by rw[p1];exact bT bw _
   exact(List.pairwise_flatten.1 M).1 m J⟩
  rw[p1]at this;exact this
 cases h0:mQ PS row with
 |zero=>
  have hR:cZ n wd PS row=(⟨#[]⟩,[]):=by
   unfold cZ;rw[h0]
  rw[hR];have G:=JS ok h0;have hc:fj (setOf ae ([]++l)):=vP (bT bw _) (D [] fun p q=>by cases q);have a8:=c8 [] fun p q=>by cases q
  have O:=iy ae ([]++l);rw[auL]at O;have d5:(19+wd.size)*(setOf ae l).length<=(19+wd.size)*l.length:=auO _ O;rw[auL]at a8;refine⟨hc,fun p q=>(D [] (fun p q=>by cases q) p q).jL,by show(setOf ae ([]++l)).length<=_;rw[auL];exact auw O (auw c4 (by omega)),.inl ⟨rfl,?_⟩⟩;have s:=RO (ω:=oP) hn hw h.tg a6 Z ok G hl b3 hc;refine(yw tZ hn hw (by omega) (by omega) _ s).mono fun U Y ⟨H,M⟩=>⟨H,c5 [] [] PS G hc _ _ (by omega) U Y H M⟩
 |succ k=>
  have hk:k<PS.length:=by have:=tq PS row;omega
  have hR:cZ n wd PS row=((aV n wd PS[k]).1,PS[k]):=by
   unfold cZ;rw[h0];simp only[aul hk]
  rw[hR];have G:=JT ok h0 hk;obtain⟨q1,q2,q3⟩:=e6 PS[k] (aus hk);have hc:fj (setOf ae (PS[k]++l)):=vP (bT bw _) (D _ q2);have a8:=c8 PS[k] q2;have O:=iy ae (PS[k]++l);rw[aut]at O;have g5:=PA (m:=PS[k]++l) q3 fun p q=>auo _ q;have d2:=NO hn hw h1 q1 q2 q3;have d5:(19+wd.size)*(setOf ae (PS[k]++l)).length<=(19+wd.size)*PS[k].length+(19+wd.size)*l.length:=by
   rw[<-Nat.mul_add];exact auO _ O
  have b9:(19+wd.size)*PS[k].length<=(19+wd.size)*(setOf ae (PS[k]++l)).length:=auO _ g5;have g6:PS[k].length<=PS.flatten.length:=by
   have M:PS=PS.take k++PS[k]::PS.drop (k+1):=by
    rw[<-auR hk,auK]
   have h4:=congrArg (fun z=>(List.flatten z).length) M;simp only[auD,auS,aut]at h4;omega
  obtain⟨c1,X1,hd,s⟩:=RN (ω:=oP) tZ (by omega) hn hw (by omega) h.tg a6 Z ok G hl b3 hc (by rw[a8,d2];exact b9);refine⟨hc,fun p q=>(D _ q2 p q).jL,by show(setOf ae (PS[k]++l)).length<=_;exact auw O (auw (Nat.add_le_add (auw g6 d3) c4) (by omega)),.inr ⟨fun e0=>?_,c1,X1,hd,?_⟩⟩
  ·have M:=congrArg ByteArray.size e0;have h4:=oD n wd (rowOf PS[k]);have h5:(aV n wd PS[k]).1=bS n wd (rowOf PS[k]):=rfl;rw[h5,h4]at M;have h6:(⟨#[]⟩:ByteArray).size=0:=rfl;omega
  ·have e3:[PS[k]].flatten=PS[k]:=by simp
   have b1:V+(mq oP n wd (jP (setOf ae (PS[k]++l)))-oP (aV n wd PS[k]).1 (aV n wd PS[k]).2)<=V+(19+wd.size)*l.length:=by
    rw[a8,d2];omega
   refine(yw tZ hn hw (by omega) (Nat.lt_of_le_of_lt b1 hV) _ s).mono fun U Y ⟨H,M⟩=>⟨H,c5 _ [PS[k]] _ G (by rw[e3];exact hc) _ _ b1 U Y H (by rw[e3];exact M)⟩
end
def ni(pg:Nat->ByteArray)(n:ByteArray)(row:Int)(ws:List ByteArray)(Q:Ch->Tr->Prop):List ByteArray->List ByteArray->Ch->Tr->Prop
 |_,[],c,X=>Q c X
 |b,wd::rest,c,X=>(wd∈b->ni pg n row ws Q (wd::b) rest c X)/\(wd∉b->X.lays c pg 3/\∃PS,xe X n wd PS/\t_ pg n wd (cZ n wd PS row).1 (setOf ae ((cZ n wd PS row).2++eP row wd ws 0)) (ni pg n row ws Q (wd::b) rest) c X)
def qF(L:Ct)(row:Int)(ws b:List ByteArray):Ct:=fun wd=>if wd∈b then setOf ae (L wd++eP row wd ws 0)else L wd
theorem Mh(L:Ct)(row:Int)(ws:List ByteArray){b:List ByteArray}{wd:ByteArray}(h:wd∉b):EY (qF L row ws b) wd (setOf ae (qF L row ws b wd++eP row wd ws 0))=qF L row ws (wd::b):=by
 funext w2
 unfold EY qF;by_cases e:w2=wd
 ·subst e;rw[if_pos rfl,if_neg h,if_pos aun]
 ·rw[if_neg e];by_cases q:w2∈b
  ·rw[if_pos q,if_pos (aum _ q)]
  ·rw[if_neg q,if_neg (by simp[e,q])]
theorem PE(L:Ct)(row:Int)(ws:List ByteArray){b:List ByteArray}{wd:ByteArray}(h:wd∈b):qF L row ws b=qF L row ws (wd::b):=by
 funext w2
 unfold qF;by_cases e:w2=wd
 ·subst e;rw[if_pos h,if_pos aun]
 ·by_cases q:w2∈b
  ·rw[if_pos q,if_pos (aum _ q)]
  ·rw[if_neg q,if_neg (by simp[e,q])]
section
variable{pg:Nat->ByteArray}{n:ByteArray}{N:Nat}{L:Ct}
theorem lG.Cp(hn:bQ n)(b:n.size<=1){row:Int}(U:1<=row/\row<=8000){ws:List ByteArray}(H:ws.length<=20)(D:∀w∈ws,bQ w/\w.size<=12):
  ∀(rest q:List ByteArray) {V:Nat} {K:LP} {c:Ch} {X:Tr},(∀w∈rest,w∈ws)->lG pg n V (qF L row ws q) N K c X->bq K aW=some (gQ N)->V+qE ws q rest<12145->
   ni pg n row ws (fun Y Z=>∃O I,(∀w,w∈I↔w∈q\/w∈rest)/\lG pg n (V+qE ws q rest) (qF L row ws I) N O Y Z/\bq O aW=some (gQ N)) q rest c X
 |[],q,V,K,c,X,_,h,J,G=>⟨K,q,by simp,h,J⟩
 |y::rest,q,V,K,c,X,z,h,J,G=>by
  obtain⟨hw,hs⟩:=D y (z y aun);refine⟨fun hd=>?_,fun hd=>⟨h.tg.lays,?_⟩⟩
  ·have Q:qE ws q (y::rest)=qE ws (y::q) rest:=if_pos hd;rw[Q]at G⊢;have M:=lG.Cp hn b U H D rest (y::q) (fun w hw=>z w (aum _ hw)) (by rw[<-PE L row ws hd];exact h) J G;have B:∀w,(w∈y::q\/w∈rest)↔(w∈q\/w∈y::rest):=fun w=>by
    simp only[auA]
    constructor
    ·rintro((b|b)|b)
     ·exact .inr (.inl b)
     ·exact .inl b
     ·exact .inr (.inr b)
    ·rintro(b|b|b)
     ·exact .inl (.inr b)
     ·exact .inl (.inl b)
     ·exact .inr b
   simpa only[B]using M
  ·have Q:qE ws q (y::rest)=(19+y.size)*(eP 0 y ws 0).length+qE ws (y::q) rest:=if_neg hd;rw[Q]at G⊢;rw[Cn (s:=row)]at G⊢;obtain⟨PS,h2,h3,h4⟩:=h.save hn b J hw hs (row:=row) (l:=eP row y ws 0) (fun p S=>(tt S).1) (fun p S=>by
    have:=tt S;unfold fN;omega) (by omega)
   refine⟨PS,h2,h4.mono fun Y Z ⟨O,h5,h6⟩=>?_⟩;rw[Mh L row ws hd]at h5;have M:=lG.Cp hn b U H D rest (y::q) (fun w hw=>z w (aum _ hw)) h5 h6 (by omega);have B:∀w,(w∈y::q\/w∈rest)↔(w∈q\/w∈y::rest):=fun w=>by
    simp only[auA]
    constructor
    ·rintro((b|b)|b)
     ·exact .inr (.inl b)
     ·exact .inl b
     ·exact .inr (.inr b)
    ·rintro(b|b|b)
     ·exact .inl (.inr b)
     ·exact .inl (.inl b)
     ·exact .inr b
   rw[Nat.add_assoc]at M;simpa only[B]using M
end
end
section
open Go Go.RowKit Go.Shelf Go.Lib Go.Sort
theorem xi(b:List (List UInt8)):avh b=aw b:=by
 have y:∀m,m<=b.length->Lib.compactUpTo b.toArray m=aw (b.take m):=by
  intro m
  induction m with
  |zero=>intro _;rfl
  |succ m D=>
   intro G;rw[Lib.compactUpTo_succ,D (by omega)];rcases Nat.eq_zero_or_pos m with rfl|z
   ·have:Lib.keeps b.toArray 0=true:=by simp[Lib.keeps]
    rw[this,if_pos rfl]
    match b,G with
    |a::t,_=>simp[aw]
   ·rw[lN b m z (by omega)];have s:b.toArray[m]! =b[m]:=by simp[show m<b.length by omega]
    have B:b.toArray[m-1]! =b[m-1]'(by omega):=by simp[show m-1<b.length by omega]
    by_cases q:b[m]=b[m-1]'(by omega)
    ·rw[if_pos q,Lib.keeps_neg z (by rw[s,B];exact q)];simp
    ·rw[if_neg q,Lib.keeps_pos (by rw[s,B];exact q),if_pos rfl,s]
 unfold avh;rw[y _ (auG _),List.take_length]
theorem tv:∀ws:List ByteArray,aw (ws.map fun x=>x.data.toList)=(aw ws).map fun x=>x.data.toList
 |[]=>rfl
 |[a]=>rfl
 |a::b::t=>by
  have y:=tv (b::t);rw[auE,auE]at*;by_cases e:a=b
  ·subst e;have q:aw (a::a::t)=aw (a::t):=if_pos rfl;have s:aw (a.data.toList::a.data.toList::t.map fun x=>x.data.toList)=aw (a.data.toList::t.map fun x=>x.data.toList):=if_pos rfl;rw[q,s];exact y
  ·have z:¬a.data.toList=b.data.toList:=fun h=>e (bz h);have q:aw (a::b::t)=a::aw (b::t):=if_neg e;have s:aw (a.data.toList::b.data.toList::t.map fun x=>x.data.toList)=a.data.toList::aw (b.data.toList::t.map fun x=>x.data.toList):=if_neg z;rw[q,s,auE,y]
def VG(w:World)(v:Value)(ws:List ByteArray):Prop:=∃(q:Option Addr) (c b:Nat),v=.slice q ws.length c/\(0<ws.length->q=some ⟨b,0,none⟩/\b<w.heap.size)/\gV w b 0 ws
theorem Dv(a0 w:World)(v:Value)(ws:List ByteArray)(h:nN w a0.heap.size v ws)(y:Gr a0 w)(hl:ws.length<=1000000):
  Calls aup 66 #[v] w fun e w'=>∃M,e=.returned M/\VG w' M (aw ws)/\Gr a0 w':=by
 have hc:=fun g y=>avi (g:=g) h y;rcases h.2 with⟨rfl,V⟩|⟨g,cap,a4,rfl,Y,O,a5,_⟩
 ·have:ws=[]:=List.eq_nil_of_length_eq_zero V;subst this;refine(Tryz.slices_Compact_string_empty none 0 w).mono ?_;rintro e w' ⟨rfl,rfl⟩;exact⟨_,rfl,⟨none,0,0,rfl,(fun h=>absurd h (Nat.lt_irrefl _)),fun i hi=>absurd hi (Nat.not_lt_zero _)⟩,y⟩
 ·have I:=(Array.getElem?_eq_some_iff.1 O).1;have e:∀j,(⟨g,0,none⟩:Addr).add j=⟨g,0+j,none⟩:=by
   intro j;unfold Addr.add;split<;>simp_all
  have Q:Holds encStr w g 0 (ws.map fun x=>x.data.toList).toArray:=fun j Z=>by
   have z:j<ws.length:=by simpa using Z
   have S:=hc g rfl j (.string ws[j]) (by simp[z]);rw[e]at S;refine⟨?_,Lib.frozen_of_heap O _⟩;rw[S];simp[z,encStr]
  have s:=Tryz.slices_Compact_string g 0 cap (ws.map fun x=>x.data.toList) w Q (by rw[auj];omega) (by rw[auj];omega);rw[xi,tv,auj,auj]at s;refine s.mono ?_;rintro e2 w' ⟨rfl,q,rfl⟩;have a6:=jq ws;obtain⟨D,H⟩:∃D,(List.map (fun x:ByteArray=>x.data.toList) (aw ws)++List.replicate (ws.length-(aw ws).length) []).toArray=D:=⟨_,rfl⟩;have B:D.size=ws.length:=by
   rw[<-H];simp;omega
  have J:=holds_putRow encStr (au5 w q) g 0 (ws.map fun x=>x.data.toList).toArray D (holds_ahead _ _ q _ _ _ Q) (by rw[B];simp);have hs:(putRow encStr (au5 w q) g 0 D).heap.size=w.heap.size:=by
   unfold putRow mapBlock;simp[au5]
  rw[H];refine⟨_,rfl,⟨some ⟨g,0,none⟩,cap,g,rfl,fun _=>⟨rfl,by rw[hs];exact I⟩,fun i hi=>?_⟩,?_⟩
  ·have h7:=(J i (by rw[B];omega)).1;have G:i<(List.map (fun x:ByteArray=>x.data.toList) (aw ws)).length:=by rw[auj];exact hi
   have h8:D[i]! =(aw ws)[i].data.toList:=by
    rw[<-H];simp only[List.getElem!_toArray];rw[List.getElem!_eq_getElem?_getD,List.getElem?_append_left G,aul G];simp
   rw[h7,h8]
  ·have gx:ag (fun b=>b=g) w (putRow encStr (au5 w q) g 0 D):=⟨rfl,rfl,rfl,by rw[hs];exact auG _,fun k U L=>by
    unfold putRow mapBlock;simp[Array.getElem?_modify,Ne.symm L]⟩
   exact gx.gr y fun k U=>by rw[U];exact Y
structure RV(X:Tr)(n:ByteArray)(ls:List (ByteArray×Int×ByteArray)):Prop where
 is:(lA X (ji n)).takeWhile (fun x=>preB (ji n) x.1)=ls.map fun e=>(bS n e.1 e.2.1,e.2.2)
 ok:∀e∈ls,bQ e.1/\(1<=e.2.1/\e.2.1<=1073741824)
 len:(lA X (ji n)).length<=1000000
def mR(s:ByteArray)(ls:List (ByteArray×Int×ByteArray)):List ByteArray:=(ls.map (·.1)).filter fun x=>preB s x
theorem Mj(s:ByteArray)(ls:List (ByteArray×Int×ByteArray))(i:Nat)(h:i<ls.length):mR s (ls.take (i+1))=mR s (ls.take i)++if preB s ls[i].1 then[ls[i].1]else[]:=by
 unfold mR;rw[auq h,auY,List.filter_append]
 congr 1
 simp only[auE,List.map_nil,au_,List.filter_nil]
theorem Cr(s:ByteArray)(ls:List (ByteArray×Int×ByteArray)):(mR s ls).length<=ls.length:=by
 unfold mR;have:=au0 (fun x=>preB s x) (ls.map (·.1));rw[auj]at this;exact this
section
variable{w:World}{FP TP PB DB M:Nat}{c:Ch}{sv:Head}{t:Int}{d:Dk}
theorem RW(h:fR w FP TP PB DB M c sv t d)(b5:jj w){X:Tr}(hl:X.lays c d.pg 3){n:ByteArray}(hn:bQ n){ls:List (ByteArray×Int×ByteArray)}(Z:RV X n ls)(s:ByteArray):
  Calls aup 18 #[.pointer (some ⟨FP,0,none⟩),.string n,.string s] w fun e w'=>∃v,e=.returned (.tuple #[v,.nilIface])/\VG w' v (aw (mR s ls))/\Gr w w':=by
 obtain⟨i0,b7,b8,e4,e5⟩:=info_parts qN;have hp:=h.p;have i7:ls.length<=1000000:=by
  have h1:=Z.len;have h2:=congrArg auT Z.is;rw[auj]at h2;have h3:=(auI (fun x=>preB (ji n) x.1) (l:=lA X (ji n))).length_le;omega
 have y:=fun(W:World) (g:Gr w W)=>EM (h.pg.gr g) (h.t.gr g) (by omega) (ji n) hl Z.len;rw[Z.is]at y;have c2:=G4 [gu n] w.heap.size 1 _ (Mc w n) (jk hn.aA qC) (by simp);have gA:Gr w (w.alloc (.cells #[.int .i64 2,.int .i64 0,.string n] 132)):=(Gr.refl w).alloc _;have e6:=aui y;have e7:Hid (Calls aup 63 #[.slice (some ⟨w.heap.size,0,none⟩) 1 1] (w.alloc (.cells #[.int .i64 2,.int .i64 0,.string n] 132)) (ar (w.alloc (.cells #[.int .i64 2,.int .i64 0,.string n] 132)) (.tuple #[.string (ji n),.nilIface]))):=aui c2;have e8:=aui gA;have e9:=aui Z.ok;have g0:=aui b5;have HN:=aui hn;have c5:=aui (And.intro b7 b8);clear y c2 gA h Z hl b5 hn b7 b8;go_enter Tryz.func18,Tryz.ntmps18;go_wp2_with fail
 refine e7.out.mono ?_;rintro e w2 ⟨rfl,c6⟩;have z:=e8.out.trans c6;have g3:=z.keeps hp;have y:=e6.out w2 z;have g4:=aui y;have g5:=aui z;clear c6 z y;go_wp2_with fail
 refine g4.out.mono ?_;rintro e V ⟨v3,rfl,a6,c7⟩;obtain⟨a3,c3,c8⟩:=a6.form;rw[auj]at c8;subst c8;have g6:=aui a6;have c9:=aui (g5.out.trans c7);clear a6 c7 g3;go_wp2_with fail
 go_loopw [12,39] (fun ov iv w'=>∃i:Nat,i<=ls.length/\iv=.int .i64 i/\nN w' V.heap.size ov (mR s (ls.take i))/\Gr V w') (fun _ iv _=>ls.length-(intOf iv).toNat)
 case atStart=>exact⟨0,au1 _,rfl,auH _ _ _ _,Gr.refl _⟩
 case round=>
  obtain⟨i,hi,rfl,Y,hg⟩:=hrel;by_cases b:i<ls.length
  ·have g7:(i:Int)<(ls.length:Int):=by omega
   obtain⟨B,rfl,hB,I⟩:∃B,a3=some ⟨B,0,none⟩/\B<V.heap.size/\V.cell? ⟨B,i*2,none⟩=some (.string (bS n ls[i].1 ls[i].2.1))/\V.cell? ⟨B,i*2+1,none⟩=some (.string ls[i].2.2):=by
    rcases g6.out with⟨_,h2⟩|⟨B,cap,h1,h2,h3,h4⟩
    ·rw[au2.1 h2]at b;exact absurd b (by simp)
    ·rw[auj]at h1;cases h1;have h5:=h4 i (by rw[auj];exact b);simp only[au8]at h5;exact⟨B,rfl,h3,h5⟩
   have D:=e9.out ls[i] (aus b);have J:=Mj s ls i b;have G:=Cr s (ls.take i);rw[auy]at G;obtain⟨⟨L,r,e1⟩,d0⟩:∃e,ls[i]=e:=⟨_,rfl⟩;rw[d0]at I D J;simp only at I D J;have c0:=hg.keeps I.1;have c1:=hg.keeps I.2;have a7:fi (bS n L r).data.toList=some [gu n,gu L,kT r]:=yp [gu n,gu L,kT r] (jk HN.out.aA (jk D.1.aA (jk (qB D.2) qC)));have d1:(bS n L r).size<4294967281:=by
    have h1:=HN.out.len;have h2:=D.1.len;rw[oD,size_data,size_data];omega
   have a8:=fun(W:World) (g:Gr w W)=>NF (bS n L r) d1 W (g0.out.gr g);obtain⟨us,d2⟩:∃us,mR s (ls.take i)=us:=⟨_,rfl⟩;rw[d2]at Y J G;obtain⟨K,hK⟩:∃K,bS n L r=K:=⟨_,rfl⟩;rw[hK]at c0 a7 a8;have g8:=aui a8;have g9:=aui a7;have U:=aui J;have HO:=aui Y;have HG:=aui hg;have a2:=aui G;clear I D J a7 d1 a8 hK d2 Y hg d0 G;go_wp2_with fail
   have gP:Gr wr (wr.alloc (.cells #[.string K,.string e1] 140)):=(Gr.refl wr).alloc _;have a9:=HG.out.trans gP;have h0:=aui a9;have h6:=aui gP;have d3:=g8.out _ (c9.out.trans a9);refine d3.mono ?_;intro e w6 q;unfold kr at q;rw[g9.out]at q;obtain⟨v6,rfl,d4,b0⟩:=q;obtain⟨k1,b6,k2,rfl,O,Q⟩:=d4.Ub;have O:=O (by simp);subst O;have cw:w6.cell? ⟨b6,5,none⟩=some (.string L):=(Q 1 (by simp)).2.2;have d5:([gu n,gu L,kT r]:List cD).length=3:=rfl;rw[d5];have S:=aL HO.out (h6.out.trans b0);have d6:=aui (h0.out.trans b0);have a5:=aui S;clear d3 d4 Q d5 gP a9 b0 S;cases H:preB s L with
   |true=>
    rw[H,if_pos rfl]at U;have b1:=aui H;clear H;go_wp2_with(first
     |(go_at_call 60;refine(Tryz.strings_HasPrefix _ _ _).mono ?_;rintro e w7 ⟨rfl,rfl⟩;rw[tj,b1.out])
     |(at_builtin;refine dK (a0:=V) rfl _ _ 22 rfl 9 i0 (.string ⟨#[]⟩) 1 16 Tryz.underlying22 c5.out.1 c5.out.2 e4 e5 rfl (by decide) _ us.length (us.map Value.string) rfl a5.out [_] rfl (by simp;rfl) rfl d6.out (by have:=a2.out;omega) (by have:=a2.out;omega) ?_;intro v8 w8 b3 h7))
    refine⟨⟨i+1,b,by go_num,?_,h7⟩,by simp[intOf];omega⟩;rw[U.out];unfold nN;rw[aut,auY];exact b3
   |false=>
    rw[H,if_neg (by simp),avd]at U;have b1:=aui H;clear H;go_wp2_with(go_at_call 60;refine(Tryz.strings_HasPrefix _ _ _).mono ?_;rintro e w7 ⟨rfl,rfl⟩;rw[tj,b1.out])
    exact⟨⟨i+1,b,by go_num,by rw[U.out];exact a5.out,d6.out⟩,by simp[intOf];omega⟩
  ·have g7:¬(i:Int)<(ls.length:Int):=by omega
   have d7:ls.take i=ls:=auW (by omega);rw[d7]at Y;have k3:=Cr s ls;have d8:=Dv V wr _ _ Y hg (by omega);have h8:=aui d8;obtain⟨ao,co,bo,h9,_,_⟩:=iP Y;clear Y d8 d7;subst h9;go_wp2_with fail
   refine h8.out.mono ?_;rintro e w4 ⟨v4,rfl,d9,e0⟩;have HE:=aui (And.intro d9 (c9.out.trans e0));obtain⟨a4,c4,b4,i1,_⟩:=d9;clear e0 hg;subst i1;go_wp2_with fail
   go_ret2;exact⟨_,rfl,HE.out.1,HE.out.2⟩
end
def Sp:Value->Nat| .slice _ n _=>n|_=>0
def mr(PB DB M:Nat)(w:World)(v:Value)(xs:List aa):Prop:=(v=.slice none 0 0/\xs=[])\/∃b q c,v=.slice (some ⟨b,q,none⟩) xs.length c/\xs.length<=c/\b<w.heap.size/\(b≠PB/\b≠DB/\b≠M)/\bC w b q xs
theorem mr.gr{PB DB M:Nat}{w w':World}{v:Value}{xs:List aa}(h:mr PB DB M w v xs)(g:Gr w w'):mr PB DB M w' v xs:=by
 rcases h with h|⟨b,q,c,s,y,z,B,D⟩
 ·exact .inl h
 ·exact .inr ⟨b,q,c,s,y,au6 z g.size,B,D.gr g⟩
theorem mr.pg{PB DB M:Nat}{w w':World}{v:Value}{xs:List aa}(h:mr PB DB M w v xs)(g:aM PB DB M M w w'):mr PB DB M w' v xs:=by
 rcases h with h|⟨b,s,c,z,B,D,q,y⟩
 ·exact .inl h
 ·exact .inr ⟨b,s,c,z,B,au6 D g.size,q,fun i hi=>⟨g.keeps q.1 q.2.1 q.2.2 (y i hi).1,g.keeps q.1 q.2.1 q.2.2 (y i hi).2⟩⟩
theorem mr.lp{PB DB M:Nat}{w:World}{v:Value}{xs:List aa}(h:mr PB DB M w v xs):mG w v xs:=by
 rcases h with h|⟨b,q,c,s,B,y,D,z⟩
 ·exact .inl h
 ·exact .inr ⟨b,q,c,s,y,z⟩
theorem xo{w:World}{b q:Nat}{xs:List aa}(h:bC w b q xs)(n:Nat):bC w b q (xs.take n):=fun i hi=>by
 rw[auy]at hi;rw[List.getElem_take];exact h i (by omega)
theorem Hn{w:World}{b q:Nat}{xs:List aa}(h:bC w b q xs)(n:Nat):bC w b (q+n*2) (xs.drop n):=fun i hi=>by
 rw[List.length_drop]at hi;rw[List.getElem_drop];have s:=h (n+i) (by omega);rw[show q+n*2+i*2=q+(n+i)*2 by omega];exact s
theorem CD(c:Int):∀(xs:List aa) (i:Nat),(∃p∈xs,p.1=c)->au3 (fun _ (y:aa)=>y.1==c) default xs i=((i+fx xs c:Nat):Int)
 |[],_,h=>by
  obtain⟨p,b,_⟩:=h;cases b
 |x::xs,i,h=>by
  unfold fx;rw[List.findIdx_cons];cases q:(x.1==c)with
  |true=>simp[au3,q]
  |false=>
   simp only[au3,q,cond_false];have z:∃p∈xs,p.1=c:=by
    obtain⟨p,b,e⟩:=h;rcases auA.1 b with B|b
    ·rw[B]at e;simp[e]at q
    ·exact⟨p,b,e⟩
   have s:=CD c xs (i+1) z;unfold fx at s;simp only[au4,if_false];rw[s]
   congr 1
   omega
theorem Sq(W:World)(B:Nat)(k:Int)(x:aa)(h:W.cell? ⟨B,0,none⟩=some (.int .i64 k)):
  Calls aup 95 #[x.val,.pointer (some ⟨B,0,none⟩)] W (ar W (.bool (x.1==k))):=by
 obtain⟨b,q⟩:=x;unfold aa.val;have g1:Gr W (W.alloc (.cells #[.int .i64 b,.int .i64 q] 104)):=(Gr.refl W).alloc _;have s:(W.alloc (.cells #[.int .i64 b,.int .i64 q] 104)).cell? ⟨W.heap.size,0,none⟩=some (.int .i64 b):=by rw[auk];rfl
 have y:=g1.keeps h;go_enter Tryz.func95,Tryz.ntmps95;go_wp2_with fail
 go_ret;exact ar.mk rfl g1
def CE(l:List aa)(n:Nat):Prop:=0<n/\n<=l.length/\Whole l n/\∃f,n<=f/\pP l f n=mm l
theorem Ho{l:List aa}(b:l≠[]):CE l l.length:=⟨auN.2 b,auG _,fun p _ q s=>by simp at s,l.length,auG _,rfl⟩
theorem MM{l:List aa}{n:Nat}(h:CE l n)(hs:(bV (l.take n)).length<=100):n=mm l:=by
 obtain⟨q,_,_,f,s,b⟩:=h;cases f with
 |zero=>omega
 |succ f=>
  rw[<-b];unfold pP;rw[if_pos hs]
theorem Ka{l:List aa}(hc:fj l){n:Nat}(h:CE l n)(hs:¬(bV (l.take n)).length<=100):CE l (fx l (eO (l.take n)))/\fx l (eO (l.take n))<n:=by
 obtain⟨z,b,B,f,D,q⟩:=h;obtain⟨s,y⟩:=JL hc b hs;cases f with
 |zero=>omega
 |succ f=>
  refine⟨⟨s,by omega,tl hc.rows _,f,by omega,?_⟩,y⟩;rw[<-q]
  conv=>rhs;unfold pP
  rw[if_neg hs]
theorem TE{l:List aa}{n:Nat}(hn:0<n)(G:n<=l.length):(setOf bU ((l.take n).map (·.1)))[(setOf bU ((l.take n).map (·.1))).length/2]?=some (eO (l.take n))/\(setOf bU ((l.take n).map (·.1))).length/2<(setOf bU ((l.take n).map (·.1))).length/\∃p∈l,p.1=eO (l.take n):=by
 have z:setOf bU ((l.take n).map (·.1))≠[]:=by
  intro e;cases s:l.take n with
  |nil=>
   have h:=congrArg auT s;rw[auy,avc]at h;omega
  |cons p r=>
   have:=(bm bU ((l.take n).map (·.1)) p.1).2 (by rw[s];simp);rw[e]at this;cases this
 have y:=auN.2 z;have b:(setOf bU ((l.take n).map (·.1))).length/2<(setOf bU ((l.take n).map (·.1))).length:=by omega
 have e:(setOf bU ((l.take n).map (·.1)))[(setOf bU ((l.take n).map (·.1))).length/2]=eO (l.take n):=by
  unfold eO;rw[auB,aul b]
  rfl
 refine⟨by rw[aul b,e],b,?_⟩;have B:eO (l.take n)∈setOf bU ((l.take n).map (·.1)):=by rw[<-e];exact aus _
 obtain⟨p,D,q⟩:=auX.1 ((bm bU _ _).1 B);exact⟨p,List.mem_of_mem_take D,q⟩
