/-
  Part 13 of the proof.
-/
import Derived.Test.YtldmhjbdahjhdaaGreatDoorZa12
import Derived.Shelf.Strings.SlTrimAscii
import Derived.Stop.Asserts
open Go.Proofs.Tryz
open Go.Value renaming string->ae
open Go.Lib renaming hid->ak,indexByte->bh,containsAny->bv,trimS->bX
open Nat renaming lt_of_lt_of_le->ap,le_refl->bP,le_trans->ch,succ_pos->cj
open List renaming suffix_refl->az,suffix_cons->aU,length_cons->aV,mem_cons_of_mem->bj,mem_of_getElem?->bT,contains_cons->b_,contains_nil->cg,all_reverse->cD,tail_cons->cW
open Go.World renaming cell?_setCell_other->aJ,cell?_setCell_same->bc,cell?_alloc_new->be,frozen?_setCell->bB
open Go renaming World->aQ,Calls->aS,wpS_region->bM,leaves_cons->bW,wpS_seq->bZ,results->cl,wpOpsS->da,callsD_of_wpS->di,wpS_of_wp->dr,Value->dD,wpS_cond->dF,Leaves->dQ,settle->dS
open Go.ByteArray renaming toList_eq->aX
open Go.Proofs.Tryz renaming ntmps129->bt,ntmps135->bu,func129->bA,func135->bF,results7->bQ,results30->de
open Bool renaming eq_false_iff->bz,false_eq_true->cf,and_eq_true->cF,or_eq_true->cK,or_false->dg,or_assoc->dh
open Go.Exit renaming thenS->bC
open Option.some renaming injEq->co
open Array renaming replicate->cL
open UInt8 renaming toNat_lt->cO,ofNat->dA
open Go.Act renaming eval->dJ
open Go.Lib.NoAny renaming zero->dT
set_option maxRecDepth 100000
set_option maxHeartbeats 100000000
set_option linter.all false
namespace Go.Proofs.YtldmhjbdahjhdaaGreatDoor
section
open Go Go.RowKit
def qF:List UInt8:=[97,98,99,100,101,102,103,104,105,106,107,108,109,110,111,112,113,114,115,116,117,118,119,120,121,122,48,49,50,51,52,53,54,55,56,57]
theorem OE(c:UInt8):qF.contains c=gj c:=by
 have h:∀n:Fin 256,qF.contains (dA n.val)=gj (dA n.val):=by decide+kernel
 have:=h ⟨c.toNat,cO c⟩;simpa using this
theorem zV{b:Type}(p:b->Bool)(l:List b):(l.dropWhile p).isEmpty=l.all p:=by
 induction l with
 |nil=>rfl
 |cons a t q=>cases h:p a<;>simp[h,q]
theorem Ed{b:Type}(p:b->Bool)(l:List b):(l.dropWhile p).all p=l.all p:=by
 induction l with
 |nil=>rfl
 |cons a t q=>cases h:p a<;>simp[h,q]
theorem R3(l:List UInt8):(bX l qF).isEmpty=l.all gj:=by
 have b:(fun x=>qF.contains x)=gj:=funext OE;unfold bX Lib.trimLeftS Lib.trimRightS;rw[b,zV,cD,Ed,cD]
theorem xy{b:ByteArray}(h:rH b):bv b.data.toList [40,41,34,42]=eR (dV b):=by
 obtain⟨c,r,hc,G⟩:=h;have H:dV b=c:=by unfold dV;rw[hc];rfl
 rw[H];have q:∀x:UInt8,[40,41,34,42].contains x=eR x:=by
  intro x;unfold eR;simp only[b_,cg,dg,dh]
 unfold bv;cases s:eR c
 ·have y:(c::r).all (fun x=>!cu x)=true:=by
   rcases G with h|h
   ·rw[s]at h;cases h
   exact h
  rw[Lib.indexAny_none]
  ·decide
  intro j x _ z;rw[q,bz];intro B;rw[hc]at z;have D:=List.all_eq_true.1 y x (bT z);have I:cu x=true:=by
   unfold eR at B;unfold cu;simp only[cK,beq_iff_eq]at*;rcases B with((h|h)|h)|h
   ·exact .inl (.inl (.inl (.inr h)))
   ·exact .inl (.inl (.inr h))
   ·exact .inl (.inr h)
   exact .inr h
  rw[I]at D;cases D
 rw[Lib.indexAny_hit (dT _ _) (x:=c) (by rw[hc];rfl) (by rw[q];exact s)]
 rfl
theorem R4(N d:Nat)(hd:d<=12)(s:List ByteArray->Rd)(L:∀l q r,s l=.ok q r->fG r l)(B:∀(l':List ByteArray) (w':aQ),oB N w' l'->aS prog 32 #[.pointer (some ⟨N,0,none⟩),.int .i64 ((d:Int)+1)] w' (gQ N w' (s l')))
  (t:List ByteArray) (w:aQ) (h:oB N w (⟨#[40]⟩::t)):
  aS prog 135 #[.pointer (some ⟨N,0,none⟩),.int .i64 d] w (gQ N w (match s t with| .bad n=>.bad n| .ok q r=>if aW r=lT then .ok q r.tail else .bad 3)):=by
 obtain⟨hP,hl,M,hE,O⟩:=h;have H:=gJ N _ hl w hP;have Q:=jr N ⟨#[40]⟩ t hl w hP;have gd:decide ((12:Int)<(d:Int))=false:=by simp;omega
 rw[show aW ((⟨#[40]⟩:ByteArray)::t)=⟨#[40]⟩from rfl]at H;have D:=ak B;have S:=ak M;have HE:=ak hE;have U:t.length<=1000:=by simp at hl;omega
 clear B M hE hP;cases hA:s t with
 |bad n=>
  have HA:=ak hA;clear hA;go_enter bF,bu;go_wp2_with(first|(go_at_call 33;refine H.mono ?_;rintro e w1 ⟨rfl,rfl⟩)|(go_at_call 78;refine Q.mono ?_;rintro e w2 ⟨rfl,I,y⟩))
  refine(D.out t _ ⟨I,U,fun p hp=>S.out p (bj _ hp),HE.out.fL y O,O⟩).mono ?_;rw[HA.out];rintro e w3 ⟨rfl,J⟩;unfold dI;have V:=y.trans J;go_wp2_with fail
  exact⟨rfl,rfl,V⟩
 |ok q r=>
  have HA:=ak hA;have Y:=L t q r hA;have G:r.length<=1000:=by have:=Y.2;omega
  clear hA Y;show aS _ _ _ _ (gQ N w (if aW r=lT then Rd.ok q r.tail else Rd.bad 3));generalize hR:(if aW r=lT then Rd.ok q r.tail else Rd.bad 3)=R;have HR:=ak hR;clear hR;go_enter bF,bu;go_wp2_with(first|(go_at_call 33;refine H.mono ?_;rintro e w1 ⟨rfl,rfl⟩)|(go_at_call_of 78 (ae ⟨#[40]⟩);refine Q.mono ?_;rintro e w2 ⟨rfl,I,y⟩))
  refine(D.out t _ ⟨I,U,fun p hp=>S.out p (bj _ hp),HE.out.fL y O,O⟩).mono ?_;rw[HA.out];rintro e w3 ⟨b,rfl,a5,Z,J⟩;have V:=y.trans J;by_cases hs:aW r=lT
  ·have e:=HR.out;rw[if_pos hs]at e;subst e;obtain⟨a,r',rfl,ha⟩:=eS (l:=r) (by rw[hs];decide);obtain rfl:a=⟨#[41]⟩:=ha.symm.trans hs;have z:=jr N ⟨#[41]⟩ r' G _ Z;clear hs ha;go_wp2_with(first|(go_at_call_of 78 (ae ⟨#[41]⟩);refine z.mono ?_;rintro e w4 ⟨rfl,a6,a0⟩))
   go_ret;exact⟨b,rfl,gv.fL a0 q b a5,a6,V.trans a0⟩
  have e:=HR.out;rw[if_neg hs]at e;subst e;have z:=eF N r ⟨#[41]⟩ G _ Z hs;clear hs;go_wp2_with(first|(go_at_call_of 78 (ae ⟨#[41]⟩);refine z.mono ?_;rintro e w4 ⟨rfl,rfl⟩)|(go_at_call 34;refine(lV 3 _).mono ?_;rintro e w6 ⟨rfl,rfl⟩;unfold dI))
  exact⟨rfl,rfl,V⟩
theorem R5(N d:Nat)(hd:d<=12)(s:ByteArray)(t:List ByteArray)(w:aQ)(h:oB N w (s::⟨#[42]⟩::t))(hf:nG s)(ho:s≠jP)(c0:UInt8)(r:List UInt8)(hr:s.data.toList=c0::r)(a3:c0≠34):
  aS prog 135 #[.pointer (some ⟨N,0,none⟩),.int .i64 d] w (gQ N w (if(bs s).data.toList.all gj=true/\s.size<=12 then .ok (.leaf 2 [bs s] 0) t else .bad 3)):=by
 obtain⟨V,hl,Y,hE,hN⟩:=h;have L:=gJ N _ hl w V;have M:=eF N _ ⟨#[40]⟩ hl w V ho;have gd:decide ((12:Int)<(d:Int))=false:=by simp;omega
 have c2:=(Y s (by simp)).2;obtain⟨ao,c,a4,c',p1,p2,p3,p4⟩:=V.rest;generalize hm:((⟨#[42]⟩:ByteArray)::t).length=m at p1 p3 p4;have O:=pO s c0 r hr a3;have Q:gO N w (w.setCell ⟨N,0,none⟩ (.slice a4 m c')):=ag.setCell _ _ rfl;have I:=jr N ⟨#[42]⟩ t (by simp at hl⊢;omega) _ p4;have a5:=ad p1;obtain⟨n0,n1,n2,n3,n4,n5,n6⟩:=hf;rw[show aW (s::(⟨#[42]⟩:ByteArray)::t)=s from rfl]at L;have S:=Lt s (by omega);have U:∀W,aS prog 186 #[.string (bs s),.string ⟨#[97,98,99,100,101,102,103,104,105,106,107,108,109,110,111,112,113,114,115,116,117,118,119,120,121,122,48,49,50,51,52,53,54,55,56,57]⟩] W (ar W (.string (je (bX (bs s).data.toList qF)))):=fun W=>
  Any.strings_Trim_laid Tryz.Sv (by kernel_rfl) (bs s) ⟨#[97,98,99,100,101,102,103,104,105,106,107,108,109,110,111,112,113,114,115,116,117,118,119,120,121,122,48,49,50,51,52,53,54,55,56,57]⟩ W (by rw[jd];omega) (by decide) (fun j b h=>(by decide:∀b∈qF,b.toNat<128) b (bT h))
 have c3:(je (bX (bs s).data.toList qF)).toList.isEmpty=(bs s).data.toList.all gj:=by
  rw[aX,gu];exact R3 _
 generalize je (bX (bs s).data.toList qF)=tr at*;generalize hR:(if(bs s).data.toList.all gj=true/\s.size<=12 then Rd.ok (Qy.leaf 2 [bs s] 0) t else Rd.bad 3)=R;have HR:=ak hR;clear hR V Y hE hr p4;generalize(bs s).data.toList.all gj=bb at*;by_cases B:bb=true/\s.size<=12
 ·obtain⟨rfl,a6⟩:=B;have e:=HR.out;rw[if_pos ⟨rfl,a6⟩]at e;subst e;have a7:decide ((12:Int)<(s.size:Int))=false:=by simp;omega
  go_enter bF,bu;go_wp2_with(first|(go_at_call 33;refine L.mono ?_;rintro e J ⟨rfl,rfl⟩)|(go_at_call_of 78 (ae ⟨#[40]⟩);refine M.mono ?_;rintro e J ⟨rfl,rfl⟩)|(go_at_call 185;refine(O _).mono ?_;rintro e J ⟨rfl,rfl⟩)|(go_at_call_of 78 (ae ⟨#[42]⟩);refine I.mono ?_;rintro e w2 ⟨rfl,D,G⟩;have z:=Q.trans G;clear G)|(go_at_call 86;refine(S _).mono ?_;rintro e H ⟨rfl,q⟩;have z:=z.trans (ag.ah q);have D:=D.gr q;clear q)|(go_at_call 186;refine(U _).mono ?_;rintro e w4 ⟨rfl,y⟩;have z:=z.trans (ag.ah y);have D:=D.gr y;clear y))
  go_ret;have a8:N<H.heap.size:=ap a5 z.2.2.2.1;have hq:=vF (N:=N) (w:=H.alloc (.cells #[.string (bs s)] 9)) 2 0 (sW (bs s) a8 9) (by simp;omega) 116;rw[show(H.alloc (.cells #[.string (bs s)] 9)).heap.size=H.heap.size+1 by simp]at hq;have Z:Gr H ((H.alloc (.cells #[.string (bs s)] 9)).alloc (.cells #[.int .i64 2,.slice (some ⟨H.heap.size,0,none⟩) 1 1,.int .i64 0,.pointer none,.pointer none] 116)):=((Gr.refl H).alloc _).alloc _;exact⟨H.heap.size+1,rfl,hq,D.gr Z,z.trans (ag.ah Z)⟩
 have e:=HR.out;rw[if_neg B]at e;subst e;cases bb
 ·clear B;go_enter bF,bu;go_wp2_with(first|(go_at_call 33;refine L.mono ?_;rintro e J ⟨rfl,rfl⟩)|(go_at_call_of 78 (ae ⟨#[40]⟩);refine M.mono ?_;rintro e J ⟨rfl,rfl⟩)|(go_at_call 185;refine(O _).mono ?_;rintro e J ⟨rfl,rfl⟩)|(go_at_call_of 78 (ae ⟨#[42]⟩);refine I.mono ?_;rintro e w2 ⟨rfl,D,G⟩;have z:=Q.trans G;clear G)|(go_at_call 86;refine(S _).mono ?_;rintro e H ⟨rfl,q⟩;have z:=z.trans (ag.ah q);have D:=D.gr q;clear q)|(go_at_call 186;refine(U _).mono ?_;rintro e w4 ⟨rfl,y⟩;have z:=z.trans (ag.ah y);have D:=D.gr y;clear y)|(go_at_call 34;refine(lV 3 _).mono ?_;rintro e w6 ⟨rfl,rfl⟩;unfold dI))
  exact⟨rfl,rfl,z⟩
 have a7:decide ((12:Int)<(s.size:Int))=true:=by
  simp only[true_and]at B;simp;omega
 clear B;go_enter bF,bu;go_wp2_with(first|(go_at_call 33;refine L.mono ?_;rintro e J ⟨rfl,rfl⟩)|(go_at_call_of 78 (ae ⟨#[40]⟩);refine M.mono ?_;rintro e J ⟨rfl,rfl⟩)|(go_at_call 185;refine(O _).mono ?_;rintro e J ⟨rfl,rfl⟩)|(go_at_call_of 78 (ae ⟨#[42]⟩);refine I.mono ?_;rintro e w2 ⟨rfl,D,G⟩;have z:=Q.trans G;clear G)|(go_at_call 86;refine(S _).mono ?_;rintro e H ⟨rfl,q⟩;have z:=z.trans (ag.ah q);have D:=D.gr q;clear q)|(go_at_call 186;refine(U _).mono ?_;rintro e w4 ⟨rfl,y⟩;have z:=z.trans (ag.ah y);have D:=D.gr y;clear y)|(go_at_call 34;refine(lV 3 _).mono ?_;rintro e w6 ⟨rfl,rfl⟩;unfold dI))
 exact⟨rfl,rfl,z⟩
def gT(N:Nat)(w:aQ)(R:Rd)(e:Ending)(w':aQ):Prop:=
 match R with
 | .ok q r=>∃b,e=.returned (.pointer (some ⟨b,0,none⟩))/\ir N w' q b/\mJ N w' r 0/\gO N w w'
 | .bad n=>∃b s,e=.returned (.pointer (some ⟨b,0,none⟩))/\mJ N w' s n/\n≠0/\gO N w w'
def nH(N:Nat)(w:aQ)(l:List ByteArray):Prop:=mJ N w l 0/\l.length<=1000/\∀p∈l,rH p/\p.size<=1000
theorem OG(N d:Nat)(hd:12<d)(l:List ByteArray)(w:aQ)(h:nH N w l):
  aS prog 129 #[.pointer (some ⟨N,0,none⟩),.int .i64 d] w (gT N w (.bad 4)):=by
 obtain⟨hA,G,B⟩:=h;have D:=fx N (l) G w hA;have H:=ad hA.2.1;have b:Gr w (w.alloc (.cells #[.int .i64 0,.slice none 0 0,.pointer none,.pointer none] 123)):=(Gr.refl w).alloc _;have y:=hA.gr b;have z:gO N w (w.alloc (.cells #[.int .i64 0,.slice none 0 0,.pointer none,.pointer none] 123)):=ag.ah b;have I:decide ((12:Int)<(d:Int))=true:=by simp;omega
 clear hA B;generalize aW l=s at*;go_enter bA,bt;go_wp2_with(first|(go_at_call 130;with_reducible refine D.mono ?_;rintro e J ⟨rfl,rfl⟩)|(go_at_call 29;refine(jS N (l) (0) (4) _ y).mono ?_;rintro e L ⟨rfl,y,q⟩;have z:=z.trans q;clear q))
 go_ret;exact⟨_,l,rfl,y,by decide,z⟩
theorem OH(N d:Nat)(hd:d<=12)(l:List ByteArray)(w:aQ)(h:nH N w l)(hs:aW l=gG\/aW l=lT\/aW l=jQ\/aW l=iC\/aW l=Fm\/aW l=f_\/aW l=pD):
  aS prog 129 #[.pointer (some ⟨N,0,none⟩),.int .i64 d] w (gT N w (.bad 3)):=by
 obtain⟨hA,H,D⟩:=h;have G:=fx N (l) H w hA;have I:=ad hA.2.1;have q:Gr w (w.alloc (.cells #[.int .i64 0,.slice none 0 0,.pointer none,.pointer none] 123)):=(Gr.refl w).alloc _;have z:=hA.gr q;have B:gO N w (w.alloc (.cells #[.int .i64 0,.slice none 0 0,.pointer none,.pointer none] 123)):=ag.ah q;have J:decide ((12:Int)<(d:Int))=false:=by simp;omega
 clear hA D;generalize aW l=s at*;rcases hs with h|h|h|h|h|h|h
 all_goals
  first
  |have b:=(eu s ([]:List UInt8)).2 h
  |have b:=(eu s [41]).2 h
  |have b:=(eu s [42]).2 h
  |have b:=(eu s [65,78,68]).2 h
  |have b:=(eu s [79,82]).2 h
  |have b:=(eu s [78,79,84]).2 h
  |have b:=(eu s [78,69,65,82]).2 h
  clear h;go_enter bA,bt;go_wp2_with(first|(go_at_call 130;with_reducible refine G.mono ?_;rintro e L ⟨rfl,rfl⟩)|(go_at_call 29;refine(jS N (l) (0) (3) _ z).mono ?_;rintro e M ⟨rfl,z,y⟩;have B:=B.trans y;clear y))
  go_ret;exact⟨_,l,rfl,z,by decide,B⟩
theorem OI(N d:Nat)(hd:d<=12)(z:List ByteArray->Rd)(S:∀l q r,z l=.ok q r->fG r l)(H:∀(I:List ByteArray) (w':aQ),nH N w' I->aS prog 28 #[.pointer (some ⟨N,0,none⟩),.int .i64 ((d:Int)+1)] w' (gT N w' (z I)))
  (t:List ByteArray) (w:aQ) (h:nH N w (⟨#[40]⟩::t)):
  aS prog 129 #[.pointer (some ⟨N,0,none⟩),.int .i64 d] w (gT N w (match z t with| .bad n=>.bad n| .ok q r=>if aW r=lT then .ok q r.tail else .bad 3)):=by
 obtain⟨hA,U,V⟩:=h;have M:=fx N ((⟨#[40]⟩:ByteArray)::t) U w hA;have b2:=ad hA.2.1;have Y:Gr w (w.alloc (.cells #[.int .i64 0,.slice none 0 0,.pointer none,.pointer none] 123)):=(Gr.refl w).alloc _;have s:=hA.gr Y;have y:gO N w (w.alloc (.cells #[.int .i64 0,.slice none 0 0,.pointer none,.pointer none] 123)):=ag.ah Y;have gd:decide ((12:Int)<(d:Int))=false:=by simp;omega
 rw[show aW ((⟨#[40]⟩:ByteArray)::t)=⟨#[40]⟩from rfl]at M;have J:=ak H;have Z:=ak V;have a0:t.length<=1000:=by simp at U;omega
 clear H V hA;cases B:z t with
 |bad n=>
  have HA:=ak B;clear B;go_enter bA,bt;go_wp2_with(first|(go_at_call 130;with_reducible refine M.mono ?_;rintro e w1 ⟨rfl,rfl⟩)|(go_at_call_of 75 (ae ⟨#[40]⟩);refine(cQ N ⟨#[40]⟩ t U _ s).mono ?_;rintro e w3 ⟨rfl,s,D⟩;have y:=y.trans D;clear D))
  refine(J.out t _ ⟨s,a0,fun p hp=>Z.out p (bj _ hp)⟩).mono ?_;rw[HA.out];rintro e w4 ⟨b,I,rfl,s,hn,O⟩;have y:=y.trans O;have Q:=xx N I n ⟨#[41]⟩ _ s hn (by decide);go_wp2_with(first|(go_at_call_of 75 (ae ⟨#[41]⟩);refine(Q).mono ?_;rintro e w3 ⟨rfl,rfl⟩)|(go_at_call 29;refine(jS N (I) (n) (3) _ s).mono ?_;rintro e w2 ⟨rfl,s,G⟩;have y:=y.trans G;clear G))
  go_ret;rw[show sX n 3=n from if_neg hn]at s;exact⟨b,I,rfl,s,hn,y⟩
 |ok q r=>
  have HA:=ak B;have a1:=S t q r B;have L:r.length<=1000:=by have:=a1.2;omega
  clear B a1;show aS _ _ _ _ (gT N w (if aW r=lT then Rd.ok q r.tail else Rd.bad 3));generalize hR:(if aW r=lT then Rd.ok q r.tail else Rd.bad 3)=R;have HR:=ak hR;clear hR;go_enter bA,bt;go_wp2_with(first|(go_at_call 130;with_reducible refine M.mono ?_;rintro e w1 ⟨rfl,rfl⟩)|(go_at_call_of 75 (ae ⟨#[40]⟩);refine(cQ N ⟨#[40]⟩ t U _ s).mono ?_;rintro e w3 ⟨rfl,s,D⟩;have y:=y.trans D;clear D))
  refine(J.out t _ ⟨s,a0,fun p hp=>Z.out p (bj _ hp)⟩).mono ?_;rw[HA.out];rintro e w4 ⟨b,rfl,hq,s,O⟩;have y:=y.trans O;by_cases hs:aW r=lT
  ·have e:=HR.out;rw[if_pos hs]at e;subst e;obtain⟨a,r',rfl,ha⟩:=eS (l:=r) (by rw[hs];decide);obtain rfl:a=⟨#[41]⟩:=ha.symm.trans hs;clear hs ha;go_wp2_with(go_at_call_of 75 (ae ⟨#[41]⟩);refine(cQ N ⟨#[41]⟩ r' L _ s).mono ?_;rintro e w5 ⟨rfl,s,a2⟩)
   go_ret;exact⟨b,rfl,ir.fL a2 q b hq,s,y.trans a2⟩
  have e:=HR.out;rw[if_neg hs]at e;subst e;have Q:=gX N r ⟨#[41]⟩ L _ s hs;clear hs;go_wp2_with(first|(go_at_call_of 75 (ae ⟨#[41]⟩);refine(Q).mono ?_;rintro e w3 ⟨rfl,rfl⟩)|(go_at_call 29;refine(jS N (r) (0) (3) _ s).mono ?_;rintro e w2 ⟨rfl,s,G⟩;have y:=y.trans G;clear G))
  go_ret;exact⟨b,r,rfl,s,by decide,y⟩
theorem L2(N d:Nat)(hd:d<=12)(s:ByteArray)(t:List ByteArray)(w:aQ)(h:nH N w (s::t))(hf:nG s)(ho:s≠jP)(r:List UInt8)(I:s.data.toList=34::r):
  aS prog 129 #[.pointer (some ⟨N,0,none⟩),.int .i64 d] w (gT N w (if aD (je r)=[]then .bad 3 else .ok (.leaf 1 (aD (je r)) 0) t)):=by
 obtain⟨hA,hl,L⟩:=h;have M:=fx N (s::t) hl w hA;have O:=ad hA.2.1;have Q:Gr w (w.alloc (.cells #[.int .i64 0,.slice none 0 0,.pointer none,.pointer none] 123)):=(Gr.refl w).alloc _;have z:=hA.gr Q;have q:gO N w (w.alloc (.cells #[.int .i64 0,.slice none 0 0,.pointer none,.pointer none] 123)):=ag.ah Q;have gd:decide ((12:Int)<(d:Int))=false:=by simp;omega
 have a8:=(L s (by simp)).2;have h0:0<s.size:=by rw[size_data,I];simp
 have hq:(((s[0].toNat:Nat):Int)==34)=true:=by rw[bm s 0 h0];simp[I]
 have D:s.extract 1 s.size=je r:=by
  apply bE;rw[mI,I,gu]
  rfl
 have a9:(je r).size<=1000:=by
  have:(je r).size+1=s.size:=by rw[size_data,size_data,I,gu];rfl
  omega
 have G:=sH (je r) (by omega);rw[<-D]at G;obtain⟨n0,n1,n2,n3,n4,n5,n6⟩:=hf;have n7:=jC (s:=s) (k:=[40]) ho;have b0:(1:Int)<=(s.size:Int):=by omega
 rw[show aW (s::t)=s from rfl]at M;clear L hA I;rw[<-D];generalize aD (s.extract 1 s.size)=ws at*;generalize hR:(if ws=[]then Rd.bad 3 else Rd.ok (Qy.leaf 1 ws 0) t)=R;have HR:=ak hR;clear hR D;go_enter bA,bt;go_wp2_with(first|(go_at_call 130;with_reducible refine M.mono ?_;rintro e w1 ⟨rfl,rfl⟩)|(go_at_call_of 75 (ae s);refine(cQ N s t hl _ z).mono ?_;rintro e w3 ⟨rfl,z,S⟩;have q:=q.trans S;clear S))
 refine(G _).mono ?_;rintro e J ⟨v,rfl,y,B⟩;have U:=yD (N:=N) y (ap O q.2.2.2.1);obtain⟨Z,c2,b2,rfl,_,_⟩:=fk y;have H:Gr J (J.alloc (.cells #[.int .i64 1,.slice Z ws.length c2,.pointer none,.pointer none] 123)):=(Gr.refl J).alloc _;have a0:N<J.heap.size:=ap (ap O q.2.2.2.1) B.size;have q:=(q.trans (ag.ah B)).trans (ag.ah H);have z:=(z.gr B).gr H;have V:=sU (N:=N) (w:=J) 1 0 U a0 123;have a1:=ak V;clear y U V G B H;by_cases b:ws=[]
 ·have hb:(((ws.length:Nat):Int)==0)=true:=by rw[b];rfl
  have e:=HR.out;rw[if_pos b]at e;subst e;clear b;go_wp2_with(go_at_call 29;refine(jS N t 0 3 _ z).mono ?_;rintro e w2 ⟨rfl,z,Y⟩;have q:=q.trans Y;clear Y)
  go_ret;exact⟨_,t,rfl,z,by decide,q⟩
 have hb:(((ws.length:Nat):Int)==0)=false:=by
  rw[bz];intro h;have:=beq_iff_eq.1 h;exact b (List.length_eq_zero_iff.1 (by omega))
 have e:=HR.out;rw[if_neg b]at e;subst e;clear b;go_wp2_with fail
 go_ret;exact⟨_,rfl,a1.out,z,q⟩
theorem Ee(x:UInt8):decide ((0:Int)<=bh [40,41,42,34] x)=eR x:=by
 rw[<-Lib.contains_iff_indexByte];unfold eR;simp only[b_,cg,dg,dh];cases x==40<;>cases x==41<;>cases x==42<;>cases x==34<;>rfl
theorem uW(w:aQ)(a:ByteArray):((w.alloc (.cells #[.string a] 9)).alloc (.cells #[.int .i64 1,.slice (some ⟨w.heap.size,0,none⟩) 1 1,.pointer none,.pointer none] 123)).cell? ⟨w.heap.size+1,1,none⟩=some (.slice (some ⟨w.heap.size,0,none⟩) 1 1):=by
 have:=be (w:=w.alloc (.cells #[.string a] 9)) #[.int .i64 1,.slice (some ⟨w.heap.size,0,none⟩) 1 1,.pointer none,.pointer none] 123 1;rw[show(w.alloc (.cells #[.string a] 9)).heap.size=w.heap.size+1 by simp]at this;exact this
theorem uX(w:aQ)(a:ByteArray):((w.alloc (.cells #[.string a] 9)).alloc (.cells #[.int .i64 1,.slice (some ⟨w.heap.size,0,none⟩) 1 1,.pointer none,.pointer none] 123)).cell? ⟨w.heap.size,0,none⟩=some (.string a):=((Gr.refl _).alloc _).keeps (by rw[be];rfl)
theorem pP{N:Nat}{w:aQ}(a:ByteArray)(q:N<w.heap.size):ir N ((w.alloc (.cells #[.string a] 9)).alloc (.cells #[.int .i64 1,.slice (some ⟨w.heap.size,0,none⟩) 1 1,.pointer none,.pointer none] 123)) (.leaf 1 [a] 0) (w.heap.size+1):=by
 have b:=sU (N:=N) (w:=w.alloc (.cells #[.string a] 9)) 1 0 (sW a q 9) (by simp;omega) 123;rw[show(w.alloc (.cells #[.string a] 9)).heap.size=w.heap.size+1 by simp]at b;exact b
theorem OJ{N:Nat}{w:aQ}(a b:ByteArray)(s:N<w.heap.size):ir N ((w.alloc (.cells #[.string a,.string b] 9)).alloc (.cells #[.int .i64 3,.slice (some ⟨w.heap.size,0,none⟩) 2 2,.pointer none,.pointer none] 123)) (.leaf 3 [a,b] 3) (w.heap.size+1):=by
 have q:=sU (N:=N) (w:=w.alloc (.cells #[.string a,.string b] 9)) 3 3 (Eb a b s 9) (by simp;omega) 123;rw[show(w.alloc (.cells #[.string a,.string b] 9)).heap.size=w.heap.size+1 by simp]at q;exact q
theorem L3(N d:Nat)(hd:d<=12)(s:ByteArray)(t:List ByteArray)(w:aQ)(h:nH N w (s::t))(hf:nG s)(Y:s≠jP)(V:UInt8)(r:List UInt8)(J:s.data.toList=V::r)(M:V≠34)(O:aW (t)≠jQ)(Q:∀a,aD s≠[a]):
  aS prog 129 #[.pointer (some ⟨N,0,none⟩),.int .i64 d] w (gT N w (.bad 3)):=by
 obtain⟨hA,L,q⟩:=h;have B:=fx N (s::t) L w hA;have a0:=ad hA.2.1;have D:Gr w (w.alloc (.cells #[.int .i64 0,.slice none 0 0,.pointer none,.pointer none] 123)):=(Gr.refl w).alloc _;have b:=hA.gr D;have z:gO N w (w.alloc (.cells #[.int .i64 0,.slice none 0 0,.pointer none,.pointer none] 123)):=ag.ah D;have gd:decide ((12:Int)<(d:Int))=false:=by simp;omega
 have S:=(q s (by simp)).2;have Z:0<s.size:=by rw[size_data,J];simp
 have hq:(((s[0].toNat:Nat):Int)==34)=false:=(kd s[0] 34).trans (by
  rw[bm s 0 Z];simpa[J]using M)
 have U:(t).length<=1000:=by simp at L⊢;omega
 obtain⟨n0,n1,n2,n3,n4,n5,n6⟩:=hf;have n7:=jC (s:=s) (k:=[40]) Y;have a1:=ak q;rw[show aW (s::t)=s from rfl]at B;clear q hA J;go_enter bA,bt;go_wp2_with(first|(go_at_call 130;with_reducible refine B.mono ?_;rintro e w1 ⟨rfl,rfl⟩)|(go_at_call_of 75 (ae s);refine(cQ N s (t) L _ b).mono ?_;rintro e w3 ⟨rfl,b,G⟩;have z:=z.trans G;clear G)|(go_at_call_of 75 (ae ⟨#[42]⟩);refine(gX N (t) ⟨#[42]⟩ U _ b O).mono ?_;rintro e w4 ⟨rfl,rfl⟩)|(go_at_call_of 181 (ae s);refine(Bo N (t) s S Q _ b).mono ?_;rintro e H ⟨rfl,b,I⟩;have y:Gr H ((H.alloc (.cells #[.string ⟨#[]⟩] 9)).alloc (.cells #[.int .i64 1,.slice (some ⟨H.heap.size,0,none⟩) 1 1,.pointer none,.pointer none] 123)):=((Gr.refl H).alloc _).alloc _;have b:=b.gr y;have z:=(z.trans I).trans (ag.ah y);clear I y)|(go_at_call_of 75 (ae ⟨#[78,69,65,82]⟩);refine(xx N (t) 3 ⟨#[78,69,65,82]⟩ _ b (by decide) (by decide)).mono ?_;rintro e w6 ⟨rfl,rfl⟩))
 go_ret;exact⟨_,t,rfl,b,by decide,z⟩
theorem L4(N d:Nat)(hd:d<=12)(s:ByteArray)(t:List ByteArray)(w:aQ)(h:nH N w (s::t))(hf:nG s)(ho:s≠jP)(c0:UInt8)(r:List UInt8)(M:s.data.toList=c0::r)(Q:c0≠34)(S:aW (t)≠jQ)(a:ByteArray)(U:aD s=[a])(G:aW t≠pD):
  aS prog 129 #[.pointer (some ⟨N,0,none⟩),.int .i64 d] w (gT N w (.ok (.leaf 1 [a] 0) t)):=by
 obtain⟨hA,O,B⟩:=h;have H:=fx N (s::t) O w hA;have V:=ad hA.2.1;have I:Gr w (w.alloc (.cells #[.int .i64 0,.slice none 0 0,.pointer none,.pointer none] 123)):=(Gr.refl w).alloc _;have q:=hA.gr I;have z:gO N w (w.alloc (.cells #[.int .i64 0,.slice none 0 0,.pointer none,.pointer none] 123)):=ag.ah I;have gd:decide ((12:Int)<(d:Int))=false:=by simp;omega
 have Y:=(B s (by simp)).2;have h0:0<s.size:=by rw[size_data,M];simp
 have hq:(((s[0].toNat:Nat):Int)==34)=false:=(kd s[0] 34).trans (by
  rw[bm s 0 h0];simpa[M]using Q)
 have J:(t).length<=1000:=by simp at O⊢;omega
 obtain⟨n0,n1,n2,n3,n4,n5,n6⟩:=hf;have n7:=jC (s:=s) (k:=[40]) ho;have a4:=ak B;rw[show aW (s::t)=s from rfl]at H;clear B hA M;go_enter bA,bt;go_wp2_with(first|(go_at_call 130;with_reducible refine H.mono ?_;rintro e w1 ⟨rfl,rfl⟩)|(go_at_call_of 75 (ae s);refine(cQ N s (t) O _ q).mono ?_;rintro e w3 ⟨rfl,q,L⟩;have z:=z.trans L;clear L)|(go_at_call_of 75 (ae ⟨#[42]⟩);refine(gX N (t) ⟨#[42]⟩ J _ q S).mono ?_;rintro e w4 ⟨rfl,rfl⟩)|(go_at_call_of 181 (ae s);refine(lp N s a Y U _).mono ?_;rintro e y ⟨rfl,b⟩;have D:Gr y ((y.alloc (.cells #[.string a] 9)).alloc (.cells #[.int .i64 1,.slice (some ⟨y.heap.size,0,none⟩) 1 1,.pointer none,.pointer none] 123)):=((Gr.refl y).alloc _).alloc _;have Z:N<y.heap.size:=ap (ap V z.2.2.2.1) b.size;have q:=(q.gr b).gr D;have z:=(z.trans (ag.ah b)).trans (ag.ah D);have a5:=uW y a;have a6:=uX y a;have a0:=ak (pP (N:=N) a Z);clear b D)|(go_at_call_of 75 (ae ⟨#[78,69,65,82]⟩);refine(gX N (t) ⟨#[78,69,65,82]⟩ J _ q G).mono ?_;rintro e w6 ⟨rfl,rfl⟩))
 go_ret;exact⟨_,rfl,a0.out,q,z⟩
theorem L5(N d:Nat)(hd:d<=12)(s:ByteArray)(t:List ByteArray)(w:aQ)(h:nH N w (s::(⟨#[78,69,65,82]⟩:ByteArray)::t))(hf:nG s)(ho:s≠jP)(c0:UInt8)(r:List UInt8)(Y:s.data.toList=c0::r)(a0:c0≠34)(a1:aW ((⟨#[78,69,65,82]⟩:ByteArray)::t)≠jQ)(a:ByteArray)(a2:aD s=[a])(I:aW t=gG):
  aS prog 129 #[.pointer (some ⟨N,0,none⟩),.int .i64 d] w (gT N w (.bad 3)):=by
 have a8:=(eu (aW t) []).2 I;obtain⟨hA,Z,D⟩:=h;have J:=fx N (s::(⟨#[78,69,65,82]⟩:ByteArray)::t) Z w hA;have a3:=ad hA.2.1;have L:Gr w (w.alloc (.cells #[.int .i64 0,.slice none 0 0,.pointer none,.pointer none] 123)):=(Gr.refl w).alloc _;have b:=hA.gr L;have q:gO N w (w.alloc (.cells #[.int .i64 0,.slice none 0 0,.pointer none,.pointer none] 123)):=ag.ah L;have gd:decide ((12:Int)<(d:Int))=false:=by simp;omega
 have a4:=(D s (by simp)).2;have h0:0<s.size:=by rw[size_data,Y];simp
 have hq:(((s[0].toNat:Nat):Int)==34)=false:=(kd s[0] 34).trans (by
  rw[bm s 0 h0];simpa[Y]using a0)
 have G:((⟨#[78,69,65,82]⟩:ByteArray)::t).length<=1000:=by simp at Z⊢;omega
 obtain⟨n0,n1,n2,n3,n4,n5,n6⟩:=hf;have n7:=jC (s:=s) (k:=[40]) ho;have b1:=ak D;rw[show aW (s::(⟨#[78,69,65,82]⟩:ByteArray)::t)=s from rfl]at J;clear D hA Y;have V:t.length<=1000:=by simp at G;omega
 generalize M:aW t=pb at*;have a5:=ak M;clear I M;go_enter bA,bt;go_wp2_with(first|(go_at_call 130;with_reducible refine J.mono ?_;rintro e w1 ⟨rfl,rfl⟩)|(go_at_call_of 75 (ae s);refine(cQ N s ((⟨#[78,69,65,82]⟩:ByteArray)::t) Z _ b).mono ?_;rintro e w3 ⟨rfl,b,O⟩;have q:=q.trans O;clear O)|(go_at_call_of 75 (ae ⟨#[42]⟩);refine(gX N ((⟨#[78,69,65,82]⟩:ByteArray)::t) ⟨#[42]⟩ G _ b a1).mono ?_;rintro e w4 ⟨rfl,rfl⟩)|(go_at_call_of 181 (ae s);refine(lp N s a a4 a2 _).mono ?_;rintro e y ⟨rfl,z⟩;have H:Gr y ((y.alloc (.cells #[.string a] 9)).alloc (.cells #[.int .i64 1,.slice (some ⟨y.heap.size,0,none⟩) 1 1,.pointer none,.pointer none] 123)):=((Gr.refl y).alloc _).alloc _;have a6:N<y.heap.size:=ap (ap a3 q.2.2.2.1) z.size;have b:=(b.gr z).gr H;have q:=(q.trans (ag.ah z)).trans (ag.ah H);have Q:=uW y a;have S:=uX y a;have b2:=ak (pP (N:=N) a a6);clear z H)|(go_at_call_of 75 (ae ⟨#[78,69,65,82]⟩);refine(cQ N ⟨#[78,69,65,82]⟩ (t) G _ b).mono ?_;rintro e w6 ⟨rfl,b,B⟩;have q:=q.trans B;have Q:=B.keeps (show¬y.heap.size+1=N by omega) Q;have S:=B.keeps (show¬y.heap.size=N by omega) S;clear B)|(go_at_call 130;refine(fx N (t) V _ b).mono ?_;rintro e w7 ⟨rfl,rfl⟩;rw[a5.out])|(go_at_call 29;refine(jS N (t) 0 3 _ b).mono ?_;rintro e w8 ⟨rfl,b,U⟩;have q:=q.trans U;clear U))
 go_ret;exact⟨_,t,rfl,b,by decide,q⟩
theorem L6(N d:Nat)(hd:d<=12)(s:ByteArray)(b:ByteArray)(t:List ByteArray)(w:aQ)(h:nH N w (s::(⟨#[78,69,65,82]⟩:ByteArray)::b::t))(hf:nG s)(ho:s≠jP)(c0:UInt8)(r:List UInt8)(hr:s.data.toList=c0::r)(a3:c0≠34)(a4:aW ((⟨#[78,69,65,82]⟩:ByteArray)::b::t)≠jQ)(a:ByteArray)(a5:aD s=[a])(M:eR (dV b)=true):
  aS prog 129 #[.pointer (some ⟨N,0,none⟩),.int .i64 d] w (gT N w (.bad 3)):=by
 obtain⟨hA,hl,H⟩:=h;have O:=fx N (s::(⟨#[78,69,65,82]⟩:ByteArray)::b::t) hl w hA;have a6:=ad hA.2.1;have Q:Gr w (w.alloc (.cells #[.int .i64 0,.slice none 0 0,.pointer none,.pointer none] 123)):=(Gr.refl w).alloc _;have q:=hA.gr Q;have y:gO N w (w.alloc (.cells #[.int .i64 0,.slice none 0 0,.pointer none,.pointer none] 123)):=ag.ah Q;have gd:decide ((12:Int)<(d:Int))=false:=by simp;omega
 have a7:=(H s (by simp)).2;have h0:0<s.size:=by rw[size_data,hr];simp
 have hq:(((s[0].toNat:Nat):Int)==34)=false:=(kd s[0] 34).trans (by
  rw[bm s 0 h0];simpa[hr]using a3)
 have I:((⟨#[78,69,65,82]⟩:ByteArray)::b::t).length<=1000:=by simp at hl⊢;omega
 obtain⟨n0,n1,n2,n3,n4,n5,n6⟩:=hf;have n7:=jC (s:=s) (k:=[40]) ho;have S:=ak H;rw[show aW (s::(⟨#[78,69,65,82]⟩:ByteArray)::b::t)=s from rfl]at O;clear H hA hr;have a0:(b::t).length<=1000:=by simp at I⊢;omega
 have b8:=(S.out b (by simp)).2;have a8:=(S.out b (by simp)).1;obtain⟨cb,rb,B,_⟩:=a8;have a9:0<b.size:=by rw[size_data,B];simp
 have b9:b.toList.isEmpty=false:=by rw[aX,B];rfl
 have J:dV b=b[0]:=by unfold dV;rw[bm b 0 a9];simp[B]
 have b0:=Ee b[0];rw[<-J,M,J]at b0;have b1:∀W,aS prog 72 #[.string ⟨#[40,41,42,34]⟩,.int .u8 (b[0].toNat:Int)] W fun e w'=>e=.returned (.int .i64 (bh [40,41,42,34] b[0]))/\w'=W:=fun W=>by
  have h:=Tryz.strings_IndexByte ⟨#[40,41,42,34]⟩ (b[0].toNat:Int) W;rw[show(((b[0].toNat:Nat):Int)).toNat.toUInt8=b[0]from by simp]at h;exact h
 generalize bh [40,41,42,34] b[0]=ib at*;clear M J B;go_enter bA,bt;go_wp2_with(first|(go_at_call 130;with_reducible refine O.mono ?_;rintro e w1 ⟨rfl,rfl⟩)|(go_at_call_of 75 (ae s);refine(cQ N s ((⟨#[78,69,65,82]⟩:ByteArray)::b::t) hl _ q).mono ?_;rintro e w3 ⟨rfl,q,U⟩;have y:=y.trans U;clear U)|(go_at_call_of 75 (ae ⟨#[42]⟩);refine(gX N ((⟨#[78,69,65,82]⟩:ByteArray)::b::t) ⟨#[42]⟩ I _ q a4).mono ?_;rintro e w4 ⟨rfl,rfl⟩)|(go_at_call_of 181 (ae s);refine(lp N s a a7 a5 _).mono ?_;rintro e z ⟨rfl,D⟩;have L:Gr z ((z.alloc (.cells #[.string a] 9)).alloc (.cells #[.int .i64 1,.slice (some ⟨z.heap.size,0,none⟩) 1 1,.pointer none,.pointer none] 123)):=((Gr.refl z).alloc _).alloc _;have b2:N<z.heap.size:=ap (ap a6 y.2.2.2.1) D.size;have q:=(q.gr D).gr L;have y:=(y.trans (ag.ah D)).trans (ag.ah L);have V:=uW z a;have Y:=uX z a;have c1:=ak (pP (N:=N) a b2);clear D L)|(go_at_call_of 75 (ae ⟨#[78,69,65,82]⟩);refine(cQ N ⟨#[78,69,65,82]⟩ (b::t) I _ q).mono ?_;rintro e w6 ⟨rfl,q,G⟩;have y:=y.trans G;have V:=G.keeps (show¬z.heap.size+1=N by omega) V;have Y:=G.keeps (show¬z.heap.size=N by omega) Y;clear G)|(go_at_call 130;refine(fx N (b::t) a0 _ q).mono ?_;rintro e w7 ⟨rfl,rfl⟩;rw[show aW (b::t)=b from rfl])|(go_at_call 72;refine(b1 _).mono ?_;rintro e w7 ⟨rfl,rfl⟩)|(go_at_call 29;refine(jS N (b::t) 0 3 _ q).mono ?_;rintro e w8 ⟨rfl,q,Z⟩;have y:=y.trans Z;clear Z))
 go_ret;exact⟨_,b::t,rfl,q,by decide,y⟩
theorem L7(N d:Nat)(hd:d<=12)(s:ByteArray)(b:ByteArray)(t:List ByteArray)(w:aQ)(h:nH N w (s::(⟨#[78,69,65,82]⟩:ByteArray)::b::t))(hf:nG s)(ho:s≠jP)(c0:UInt8)(r:List UInt8)(hr:s.data.toList=c0::r)(a8:c0≠34)(a9:aW ((⟨#[78,69,65,82]⟩:ByteArray)::b::t)≠jQ)(a:ByteArray)(b0:aD s=[a])(Y:eR (dV b)=false)(b1:∀a,aD b≠[a]):
  aS prog 129 #[.pointer (some ⟨N,0,none⟩),.int .i64 d] w (gT N w (.bad 3)):=by
 obtain⟨hA,hl,S⟩:=h;have Z:=fx N (s::(⟨#[78,69,65,82]⟩:ByteArray)::b::t) hl w hA;have b2:=ad hA.2.1;have a0:Gr w (w.alloc (.cells #[.int .i64 0,.slice none 0 0,.pointer none,.pointer none] 123)):=(Gr.refl w).alloc _;have z:=hA.gr a0;have D:gO N w (w.alloc (.cells #[.int .i64 0,.slice none 0 0,.pointer none,.pointer none] 123)):=ag.ah a0;have gd:decide ((12:Int)<(d:Int))=false:=by simp;omega
 have b3:=(S s (by simp)).2;have h0:0<s.size:=by rw[size_data,hr];simp
 have hq:(((s[0].toNat:Nat):Int)==34)=false:=(kd s[0] 34).trans (by
  rw[bm s 0 h0];simpa[hr]using a8)
 have U:((⟨#[78,69,65,82]⟩:ByteArray)::b::t).length<=1000:=by simp at hl⊢;omega
 obtain⟨n0,n1,n2,n3,n4,n5,n6⟩:=hf;have n7:=jC (s:=s) (k:=[40]) ho;have a1:=ak S;rw[show aW (s::(⟨#[78,69,65,82]⟩:ByteArray)::b::t)=s from rfl]at Z;clear S hA hr;have Q:(b::t).length<=1000:=by simp at U⊢;omega
 have b4:=(a1.out b (by simp)).2;have b5:=(a1.out b (by simp)).1;obtain⟨cb,rb,H,_⟩:=b5;have b6:0<b.size:=by rw[size_data,H];simp
 have c5:b.toList.isEmpty=false:=by rw[aX,H];rfl
 have V:dV b=b[0]:=by unfold dV;rw[bm b 0 b6];simp[H]
 have b7:=Ee b[0];rw[<-V,Y,V]at b7;have b8:∀W,aS prog 72 #[.string ⟨#[40,41,42,34]⟩,.int .u8 (b[0].toNat:Int)] W fun e w'=>e=.returned (.int .i64 (bh [40,41,42,34] b[0]))/\w'=W:=fun W=>by
  have h:=Tryz.strings_IndexByte ⟨#[40,41,42,34]⟩ (b[0].toNat:Int) W;rw[show(((b[0].toNat:Nat):Int)).toNat.toUInt8=b[0]from by simp]at h;exact h
 generalize bh [40,41,42,34] b[0]=ib at*;clear Y V H;go_enter bA,bt;go_wp2_with(first|(go_at_call 130;with_reducible refine Z.mono ?_;rintro e w1 ⟨rfl,rfl⟩)|(go_at_call_of 75 (ae s);refine(cQ N s ((⟨#[78,69,65,82]⟩:ByteArray)::b::t) hl _ z).mono ?_;rintro e w3 ⟨rfl,z,a3⟩;have D:=D.trans a3;clear a3)|(go_at_call_of 75 (ae ⟨#[42]⟩);refine(gX N ((⟨#[78,69,65,82]⟩:ByteArray)::b::t) ⟨#[42]⟩ U _ z a9).mono ?_;rintro e w4 ⟨rfl,rfl⟩)|(go_at_call_of 181 (ae s);refine(lp N s a b3 b0 _).mono ?_;rintro e B ⟨rfl,I⟩;have G:Gr B ((B.alloc (.cells #[.string a] 9)).alloc (.cells #[.int .i64 1,.slice (some ⟨B.heap.size,0,none⟩) 1 1,.pointer none,.pointer none] 123)):=((Gr.refl B).alloc _).alloc _;have b9:N<B.heap.size:=ap (ap b2 D.2.2.2.1) I.size;have z:=(z.gr I).gr G;have D:=(D.trans (ag.ah I)).trans (ag.ah G);have q:=uW B a;have y:=uX B a;have c6:=ak (pP (N:=N) a b9);clear I G)|(go_at_call_of 75 (ae ⟨#[78,69,65,82]⟩);refine(cQ N ⟨#[78,69,65,82]⟩ (b::t) U _ z).mono ?_;rintro e w6 ⟨rfl,z,J⟩;have D:=D.trans J;have q:=J.keeps (show¬B.heap.size+1=N by omega) q;have y:=J.keeps (show¬B.heap.size=N by omega) y;clear J)|(go_at_call 130;refine(fx N (b::t) Q _ z).mono ?_;rintro e w7 ⟨rfl,rfl⟩;rw[show aW (b::t)=b from rfl])|(go_at_call 72;refine(b8 _).mono ?_;rintro e w7 ⟨rfl,rfl⟩)|(go_at_call_of 75 (ae b);refine(cQ N b t Q _ z).mono ?_;rintro e w8 ⟨rfl,z,L⟩;have D:=D.trans L;have q:=L.keeps (show¬B.heap.size+1=N by omega) q;have y:=L.keeps (show¬B.heap.size=N by omega) y;clear L))
 have M:Gr w8 w8.drew:=(Gr.refl w8).drew;have z:=z.gr M;have D:=D.trans (ag.ah M);have q:=M.keeps q;have y:=M.keeps y;go_region_held3(fun w'=>w'.cell? ⟨B.heap.size+1,1,none⟩=some (.slice (some ⟨B.heap.size,0,none⟩) 1 1)/\w'.cell? ⟨B.heap.size,0,none⟩=some (.string a)) (first|exact⟨q,y⟩|exact⟨((Gr.refl _).alloc _).keeps q,((Gr.refl _).alloc _).keeps y⟩|exact⟨(((Gr.refl _).alloc _).alloc _).keeps q,(((Gr.refl _).alloc _).alloc _).keeps y⟩|(refine⟨?_,?_⟩<;>assumption)) (first|(go_at_call_of 181 (ae b);refine(Bo N t b b4 b1 _ z).mono ?_;rintro e w9 ⟨rfl,z,O⟩;have G:Gr w9 ((w9.alloc (.cells #[.string a,.string ⟨#[]⟩] 9)).alloc (.cells #[.int .i64 3,.slice (some ⟨w9.heap.size,0,none⟩) 2 2,.pointer none,.pointer none] 123)):=((Gr.refl w9).alloc _).alloc _;have z:=z.gr G;have q:=O.keeps (show¬B.heap.size+1=N by omega) q;have y:=O.keeps (show¬B.heap.size=N by omega) y;have D:=(D.trans O).trans (ag.ah G);clear O G))
 go_wp2_with fail
 go_ret;exact⟨_,t,rfl,z,by decide,D⟩
theorem L8(N d:Nat)(hd:d<=12)(s:ByteArray)(b:ByteArray)(t:List ByteArray)(w:aQ)(h:nH N w (s::(⟨#[78,69,65,82]⟩:ByteArray)::b::t))(hf:nG s)(ho:s≠jP)(c0:UInt8)(r:List UInt8)(hr:s.data.toList=c0::r)(b2:c0≠34)(b3:aW ((⟨#[78,69,65,82]⟩:ByteArray)::b::t)≠jQ)(a:ByteArray)(b4:aD s=[a])(a0:eR (dV b)=false)(Y:ByteArray)(b5:aD b=[Y]):
  aS prog 129 #[.pointer (some ⟨N,0,none⟩),.int .i64 d] w (gT N w (.ok (.leaf 3 [a,Y] 3) t)):=by
 obtain⟨hA,hl,S⟩:=h;have a1:=fx N (s::(⟨#[78,69,65,82]⟩:ByteArray)::b::t) hl w hA;have a3:=ad hA.2.1;have a4:Gr w (w.alloc (.cells #[.int .i64 0,.slice none 0 0,.pointer none,.pointer none] 123)):=(Gr.refl w).alloc _;have z:=hA.gr a4;have B:gO N w (w.alloc (.cells #[.int .i64 0,.slice none 0 0,.pointer none,.pointer none] 123)):=ag.ah a4;have gd:decide ((12:Int)<(d:Int))=false:=by simp;omega
 have b6:=(S s (by simp)).2;have h0:0<s.size:=by rw[size_data,hr];simp
 have hq:(((s[0].toNat:Nat):Int)==34)=false:=(kd s[0] 34).trans (by
  rw[bm s 0 h0];simpa[hr]using b2)
 have U:((⟨#[78,69,65,82]⟩:ByteArray)::b::t).length<=1000:=by simp at hl⊢;omega
 obtain⟨n0,n1,n2,n3,n4,n5,n6⟩:=hf;have n7:=jC (s:=s) (k:=[40]) ho;have a5:=ak S;rw[show aW (s::(⟨#[78,69,65,82]⟩:ByteArray)::b::t)=s from rfl]at a1;clear S hA hr;have Q:(b::t).length<=1000:=by simp at U⊢;omega
 have b7:=(a5.out b (by simp)).2;have b8:=(a5.out b (by simp)).1;obtain⟨cb,rb,I,_⟩:=b8;have b9:0<b.size:=by rw[size_data,I];simp
 have c9:b.toList.isEmpty=false:=by rw[aX,I];rfl
 have V:dV b=b[0]:=by unfold dV;rw[bm b 0 b9];simp[I]
 have c1:=Ee b[0];rw[<-V,a0,V]at c1;have c2:∀W,aS prog 72 #[.string ⟨#[40,41,42,34]⟩,.int .u8 (b[0].toNat:Int)] W fun e w'=>e=.returned (.int .i64 (bh [40,41,42,34] b[0]))/\w'=W:=fun W=>by
  have h:=Tryz.strings_IndexByte ⟨#[40,41,42,34]⟩ (b[0].toNat:Int) W;rw[show(((b[0].toNat:Nat):Int)).toNat.toUInt8=b[0]from by simp]at h;exact h
 generalize bh [40,41,42,34] b[0]=ib at*;clear a0 V I;go_enter bA,bt;go_wp2_with(first|(go_at_call 130;with_reducible refine a1.mono ?_;rintro e w1 ⟨rfl,rfl⟩)|(go_at_call_of 75 (ae s);refine(cQ N s ((⟨#[78,69,65,82]⟩:ByteArray)::b::t) hl _ z).mono ?_;rintro e w3 ⟨rfl,z,a7⟩;have B:=B.trans a7;clear a7)|(go_at_call_of 75 (ae ⟨#[42]⟩);refine(gX N ((⟨#[78,69,65,82]⟩:ByteArray)::b::t) ⟨#[42]⟩ U _ z b3).mono ?_;rintro e w4 ⟨rfl,rfl⟩)|(go_at_call_of 181 (ae s);refine(lp N s a b6 b4 _).mono ?_;rintro e D ⟨rfl,J⟩;have G:Gr D ((D.alloc (.cells #[.string a] 9)).alloc (.cells #[.int .i64 1,.slice (some ⟨D.heap.size,0,none⟩) 1 1,.pointer none,.pointer none] 123)):=((Gr.refl D).alloc _).alloc _;have c3:N<D.heap.size:=ap (ap a3 B.2.2.2.1) J.size;have z:=(z.gr J).gr G;have B:=(B.trans (ag.ah J)).trans (ag.ah G);have q:=uW D a;have y:=uX D a;have a8:=ak (pP (N:=N) a c3);clear J G)|(go_at_call_of 75 (ae ⟨#[78,69,65,82]⟩);refine(cQ N ⟨#[78,69,65,82]⟩ (b::t) U _ z).mono ?_;rintro e w6 ⟨rfl,z,L⟩;have B:=B.trans L;have q:=L.keeps (show¬D.heap.size+1=N by omega) q;have y:=L.keeps (show¬D.heap.size=N by omega) y;clear L)|(go_at_call 130;refine(fx N (b::t) Q _ z).mono ?_;rintro e w7 ⟨rfl,rfl⟩;rw[show aW (b::t)=b from rfl])|(go_at_call 72;refine(c2 _).mono ?_;rintro e w7 ⟨rfl,rfl⟩)|(go_at_call_of 75 (ae b);refine(cQ N b t Q _ z).mono ?_;rintro e w8 ⟨rfl,z,M⟩;have B:=B.trans M;have q:=M.keeps (show¬D.heap.size+1=N by omega) q;have y:=M.keeps (show¬D.heap.size=N by omega) y;clear M))
 have O:Gr w8 w8.drew:=(Gr.refl w8).drew;have z:=z.gr O;have B:=B.trans (ag.ah O);have q:=O.keeps q;have y:=O.keeps y;go_region_held3(fun w'=>w'.cell? ⟨D.heap.size+1,1,none⟩=some (.slice (some ⟨D.heap.size,0,none⟩) 1 1)/\w'.cell? ⟨D.heap.size,0,none⟩=some (.string a)) (first|exact⟨q,y⟩|exact⟨((Gr.refl _).alloc _).keeps q,((Gr.refl _).alloc _).keeps y⟩|exact⟨(((Gr.refl _).alloc _).alloc _).keeps q,(((Gr.refl _).alloc _).alloc _).keeps y⟩|(refine⟨?_,?_⟩<;>assumption)) (first|(go_at_call_of 181 (ae b);refine(lp N b Y b7 b5 _).mono ?_;rintro e Z ⟨rfl,H⟩;have G:Gr Z ((Z.alloc (.cells #[.string a,.string Y] 9)).alloc (.cells #[.int .i64 3,.slice (some ⟨Z.heap.size,0,none⟩) 2 2,.pointer none,.pointer none] 123)):=((Gr.refl Z).alloc _).alloc _;have c4:N<Z.heap.size:=ap (ap a3 B.2.2.2.1) H.size;have z:=(z.gr H).gr G;have B:=(B.trans (ag.ah H)).trans (ag.ah G);have a8:=ak (OJ (N:=N) a Y c4);have q:=H.keeps q;have y:=H.keeps y;clear H G))
 go_wp2_with fail
 go_ret;exact⟨_,rfl,a8.out,z,B⟩
def sY(s:ByteArray)(j:Nat):Prop:=((bs s).data.toList.take j).all gj=true/\(j=0\/s.size<=12)
theorem OK(s:ByteArray)(j:Nat)(z:j<(bs s).size):sY s (j+1)↔sY s j/\gj (bs s)[j]=true/\s.size<=12:=by
 unfold sY;have B:j<(bs s).data.toList.length:=by rw[<-size_data];exact z
 rw[List.take_succ_eq_append_getElem B,List.all_append,bm _ _ z];simp only[cF,List.all_cons,List.all_nil,Bool.and_true,Nat.add_eq_zero_iff,Nat.one_ne_zero,and_false,false_or]
 constructor
 ·rintro⟨⟨q,y⟩,b⟩;exact⟨⟨q,.inr b⟩,y,b⟩
 rintro⟨⟨q,_⟩,y,b⟩;exact⟨⟨q,y⟩,b⟩
theorem R6(s:ByteArray)(_h:0<s.size):sY s s.size↔((bs s).data.toList.all gj=true/\s.size<=12):=by
 unfold sY;rw[List.take_of_length_le (by rw[<-size_data,jd];exact bP _)]
 constructor
 ·rintro⟨b,q⟩;exact⟨b,by omega⟩
 rintro⟨b,q⟩;exact⟨b,.inr q⟩
theorem R7(c:UInt8):gj c=true↔((97:Int)<=c.toNat/\(c.toNat:Int)<=122)\/((48:Int)<=c.toNat/\(c.toNat:Int)<=57):=by
 unfold gj;simp only[cK,cF,decide_eq_true_eq,UInt8.le_iff_toNat_le]
 constructor
 ·rintro(⟨b,q⟩|⟨b,q⟩)
  ·exact .inl ⟨by have:(97:UInt8).toNat=97:=rfl;omega,by have:(122:UInt8).toNat=122:=rfl;omega⟩
  exact .inr ⟨by have:(48:UInt8).toNat=48:=rfl;omega,by have:(57:UInt8).toNat=57:=rfl;omega⟩
 rintro(⟨b,q⟩|⟨b,q⟩)
 ·exact .inl ⟨by have:(97:UInt8).toNat=97:=rfl;omega,by have:(122:UInt8).toNat=122:=rfl;omega⟩
 exact .inr ⟨by have:(48:UInt8).toNat=48:=rfl;omega,by have:(57:UInt8).toNat=57:=rfl;omega⟩
theorem OL(N d:Nat)(hd:d<=12)(s:ByteArray)(t:List ByteArray)(w:aQ)(h:nH N w (s::(⟨#[42]⟩:ByteArray)::t))(hf:nG s)(ho:s≠jP)(c0:UInt8)(r:List UInt8)(hr:s.data.toList=c0::r)(b1:c0≠34):
  aS prog 129 #[.pointer (some ⟨N,0,none⟩),.int .i64 d] w (gT N w (if(bs s).data.toList.all gj=true/\s.size<=12 then .ok (.leaf 2 [bs s] 0) t else .bad 3)):=by
 obtain⟨hA,hl,S⟩:=h;have U:=fx N (s::(⟨#[42]⟩:ByteArray)::t) hl w hA;have b2:=ad hA.2.1;have V:Gr w (w.alloc (.cells #[.int .i64 0,.slice none 0 0,.pointer none,.pointer none] 123)):=(Gr.refl w).alloc _;have J:=hA.gr V;have L:gO N w (w.alloc (.cells #[.int .i64 0,.slice none 0 0,.pointer none,.pointer none] 123)):=ag.ah V;have gd:decide ((12:Int)<(d:Int))=false:=by simp;omega
 have c7:=(S s (by simp)).2;have h0:0<s.size:=by rw[size_data,hr];simp
 have hq:(((s[0].toNat:Nat):Int)==34)=false:=(kd s[0] 34).trans (by
  rw[bm s 0 h0];simpa[hr]using b1)
 have b3:((⟨#[42]⟩:ByteArray)::t).length<=1000:=by simp at hl⊢;omega
 obtain⟨n0,n1,n2,n3,n4,n5,n6⟩:=hf;have n7:=jC (s:=s) (k:=[40]) ho;rw[show aW (s::(⟨#[42]⟩:ByteArray)::t)=s from rfl]at U;have O:=py s (by omega);have c8:(bs s).size=s.size:=jd s;generalize hR:(if(bs s).data.toList.all gj=true/\s.size<=12 then Rd.ok (Qy.leaf 2 [bs s] 0) t else Rd.bad 3)=R;have HR:=ak hR;clear S hA hr hR;go_enter bA,bt;go_wp2_with(first|(go_at_call 130;with_reducible refine U.mono ?_;rintro e w1 ⟨rfl,rfl⟩)|(go_at_call_of 75 (ae s);refine(cQ N s ((⟨#[42]⟩:ByteArray)::t) hl _ J).mono ?_;rintro e w3 ⟨rfl,J,Y⟩;have L:=L.trans Y;clear Y)|(go_at_call_of 75 (ae ⟨#[42]⟩);refine(cQ N ⟨#[42]⟩ t b3 _ J).mono ?_;rintro e w4 ⟨rfl,J,Z⟩;have L:=L.trans Z;clear Z))
 go_loopw [21] (fun k w'=>∃(j:Nat) (bad:Int),j<=s.size/\k=.int .i64 j/\mJ N w' t bad/\gO N w1 w'/\(bad=0\/bad=3)/\(bad=0↔sY s j)) (fun k _=>s.size-(intOf k).toNat)
 case atStart=>exact⟨0,0,Nat.zero_le _,rfl,J,L,.inl rfl,by simp[sY]⟩
 case round=>
  obtain⟨j,bad,hj,rfl,hA,hg,H,q⟩:=hrel;have HA:=ak hA;have HI:=ak q;clear hA q J L;by_cases c4:j<s.size
  ·have b4:j<(bs s).size:=by omega
   have a1:=OK s j b4;have a2:=R7 (bs s)[j];have Q:=ak a1;have a3:=ak a2;have hx:=cO (bs s)[j];clear a1 a2;generalize bs s=u at*;go_wp2_with(first|(go_at_call 101;refine(O _).mono ?_;rintro e z ⟨rfl,b⟩;have B:=HA.out.gr b;have D:=hg.trans (ag.ah b);clear b)|(go_at_call 29;refine(jS N t bad 3 _ B).mono ?_;rintro e w6 ⟨rfl,a4,a5⟩;have b5:=D.trans a5;clear a5))
   all_goals first
    |(have b6:¬(gj u[j]=true/\s.size<=12):=(by rw[a3.out];omega)
      have b7:sX bad 3=3:=(by unfold sX;rcases H with rfl|rfl<;>rfl);rw[b7]at a4;exact⟨⟨j+1,3,by omega,by go_num,a4,b5,.inr rfl,⟨fun h=>absurd h (by decide),fun h=>absurd (Q.out.1 h).2 b6⟩⟩,by simp[intOf];omega⟩)
    |(have a6:gj u[j]=true/\s.size<=12:=(by rw[a3.out];omega)
      exact⟨⟨j+1,bad,by omega,by go_num,B,D,H,HI.out.trans ⟨fun h=>Q.out.2 ⟨h,a6⟩,fun h=>(Q.out.1 h).1⟩⟩,by simp[intOf];omega⟩)
  obtain rfl:j=s.size:=by omega
  have y:=R6 s h0;have G:N<wr.heap.size:=ap b2 hg.2.2.2.1;have q:=HI.out.trans y;clear y;rcases H with rfl|rfl
  ·have I:=q.1 rfl;have e:=HR.out;rw[if_pos I]at e;subst e;clear q I;generalize bs s=u at*;go_wp2_with(go_at_call 101;refine(O _).mono ?_;rintro e z ⟨rfl,b⟩;have B:=HA.out.gr b;have D:=hg.trans (ag.ah b);have G:=ap G b.size;clear b)
   go_ret;have y:Gr z ((z.alloc (.cells #[.string u] 9)).alloc (.cells #[.int .i64 2,.slice (some ⟨z.heap.size,0,none⟩) 1 1,.pointer none,.pointer none] 123)):=((Gr.refl z).alloc _).alloc _;have hq:=sU (N:=N) (w:=z.alloc (.cells #[.string u] 9)) 2 0 (sW u G 9) (by simp;omega) 123;rw[show(z.alloc (.cells #[.string u] 9)).heap.size=z.heap.size+1 by simp]at hq;exact⟨_,rfl,hq,B.gr y,D.trans (ag.ah y)⟩
  have M:¬((bs s).data.toList.all gj=true/\s.size<=12):=fun h=>absurd (q.2 h) (by decide);have e:=HR.out;rw[if_neg M]at e;subst e;clear q M;generalize bs s=u at*;go_wp2_with(go_at_call 101;refine(O _).mono ?_;rintro e z ⟨rfl,b⟩;have B:=HA.out.gr b;have D:=hg.trans (ag.ah b);have G:=ap G b.size;clear b)
  go_ret;have y:Gr z ((z.alloc (.cells #[.string u] 9)).alloc (.cells #[.int .i64 2,.slice (some ⟨z.heap.size,0,none⟩) 1 1,.pointer none,.pointer none] 123)):=((Gr.refl z).alloc _).alloc _;exact⟨_,t,rfl,B.gr y,by decide,D.trans (ag.ah y)⟩
theorem mK(s a:ByteArray)(hs:s.size<=1000)(h:aD s=[a])(w:aQ)(b:fP w):aS prog 187 #[.string s] w (ar w (.string a)):=by
 have:=LZ s hs w b;rw[h]at this;exact this
theorem Ef(s:ByteArray)(hs:s.size<=1000)(h:∀a,aD s≠[a])(w:aQ)(b:fP w):aS prog 187 #[.string s] w fun e q=>e=dI 3/\Gr w q:=by
 have:=LZ s hs w b;generalize aD s=ws at*
 match ws,h with
 |[],_=>exact this
 |[a],y=>exact absurd rfl (y a)
 |_::_::_,_=>exact this
theorem OM(N d:Nat)(hd:d<=12)(s:ByteArray)(t:List ByteArray)(w:aQ)(h:oB N w (s::t))(hf:nG s)(ho:s≠jP)(H:UInt8)(r:List UInt8)(Z:s.data.toList=H::r)(J:H≠34)(y:aW (t)≠jQ)(L:∀a,aD s≠[a]):
  aS prog 135 #[.pointer (some ⟨N,0,none⟩),.int .i64 d] w (gQ N w (.bad 3)):=by
 obtain⟨z,I,q,hE,hN⟩:=h;have B:=gJ N _ I w z;have M:=eF N _ ⟨#[40]⟩ I w z ho;have gd:decide ((12:Int)<(d:Int))=false:=by simp;omega
 have O:=(q s (by simp)).2;obtain⟨ao,c,Q,c',p1,p2,p3,D⟩:=z.rest;have S:(t).length<=1000:=by simp at I⊢;omega
 have b:=eF N (t) ⟨#[42]⟩ S _ D y;have P4:=ak D;have b0:=ak q;generalize hm:(t).length=m at p1 p3 D b P4;have U:=pO s H r Z J;have G:gO N w (w.setCell ⟨N,0,none⟩ (.slice Q m c')):=ag.setCell _ _ rfl;have b1:=ad p1;obtain⟨n0,n1,n2,n3,n4,n5,n6⟩:=hf;rw[show aW (s::t)=s from rfl]at B;have V:=hE.fL G hN;clear z q hE Z D y hm;go_enter bF,bu;go_wp2_with(first|(go_at_call 33;with_reducible refine B.mono ?_;rintro e w1 ⟨rfl,rfl⟩)|(go_at_call_of 78 (ae ⟨#[40]⟩);refine M.mono ?_;rintro e w1 ⟨rfl,rfl⟩)|(go_at_call 185;refine(U _).mono ?_;rintro e w1 ⟨rfl,rfl⟩)|(go_at_call_of 78 (ae ⟨#[42]⟩);refine b.mono ?_;rintro e w2 ⟨rfl,rfl⟩)|(go_at_call_of 187 (ae s);refine(Ef s O L _ V).mono ?_;rintro e w3 ⟨rfl,Y⟩;have GN:=G.trans (ag.ah Y);unfold dI))
 exact⟨rfl,rfl,GN⟩
theorem ON(N d:Nat)(hd:d<=12)(s:ByteArray)(t:List ByteArray)(w:aQ)(h:oB N w (s::t))(hf:nG s)(ho:s≠jP)(O:UInt8)(r:List UInt8)(hr:s.data.toList=O::r)(S:O≠34)(D:aW (t)≠jQ)(a:ByteArray)(U:aD s=[a])(B:aW t≠pD):
  aS prog 135 #[.pointer (some ⟨N,0,none⟩),.int .i64 d] w (gQ N w (.ok (.leaf 1 [a] 0) t)):=by
 obtain⟨G,Q,y,hE,hN⟩:=h;have H:=gJ N _ Q w G;have V:=eF N _ ⟨#[40]⟩ Q w G ho;have gd:decide ((12:Int)<(d:Int))=false:=by simp;omega
 have Y:=(y s (by simp)).2;obtain⟨ao,c,Z,c',p1,p2,p3,I⟩:=G.rest;have J:(t).length<=1000:=by simp at Q⊢;omega
 have q:=eF N (t) ⟨#[42]⟩ J _ I D;have P4:=ak I;have b7:=ak y;generalize hm:(t).length=m at p1 p3 I q P4;have a0:=pO s O r hr S;have L:gO N w (w.setCell ⟨N,0,none⟩ (.slice Z m c')):=ag.setCell _ _ rfl;have a1:=ad p1;obtain⟨n0,n1,n2,n3,n4,n5,n6⟩:=hf;rw[show aW (s::t)=s from rfl]at H;have a2:=hE.fL L hN;clear G y hE hr I D hm;go_enter bF,bu;go_wp2_with(first|(go_at_call 33;with_reducible refine H.mono ?_;rintro e w1 ⟨rfl,rfl⟩)|(go_at_call_of 78 (ae ⟨#[40]⟩);refine V.mono ?_;rintro e w1 ⟨rfl,rfl⟩)|(go_at_call 185;refine(a0 _).mono ?_;rintro e w1 ⟨rfl,rfl⟩)|(go_at_call_of 78 (ae ⟨#[42]⟩);refine q.mono ?_;rintro e w2 ⟨rfl,rfl⟩)|(go_at_call_of 187 (ae s);refine(mK s a Y U _ a2).mono ?_;rintro e w3 ⟨rfl,z⟩;have GN:=L.trans (ag.ah z);have PC:=P4.out.gr z;clear z)|(go_at_call_of 78 (ae ⟨#[78,69,65,82]⟩);refine(eF N t ⟨#[78,69,65,82]⟩ J _ PC B).mono ?_;rintro e b ⟨rfl,rfl⟩))
 go_ret;have a3:N<b.heap.size:=ap a1 GN.2.2.2.1;have hq:=vF (N:=N) (w:=b.alloc (.cells #[.string a] 9)) 1 0 (sW a a3 9) (by simp;omega) 116;rw[show(b.alloc (.cells #[.string a] 9)).heap.size=b.heap.size+1 by simp]at hq;have M:Gr b ((b.alloc (.cells #[.string a] 9)).alloc (.cells #[.int .i64 1,.slice (some ⟨b.heap.size,0,none⟩) 1 1,.int .i64 0,.pointer none,.pointer none] 116)):=((Gr.refl b).alloc _).alloc _;exact⟨b.heap.size+1,rfl,hq,PC.gr M,GN.trans (ag.ah M)⟩
theorem OO(N d:Nat)(hd:d<=12)(s:ByteArray)(t:List ByteArray)(w:aQ)(h:oB N w (s::(⟨#[78,69,65,82]⟩:ByteArray)::t))(hf:nG s)(ho:s≠jP)(O:UInt8)(r:List UInt8)(hr:s.data.toList=O::r)(V:O≠34)(B:aW ((⟨#[78,69,65,82]⟩:ByteArray)::t)≠jQ)(a:ByteArray)(Y:aD s=[a])(D:aW t=gG):
  aS prog 135 #[.pointer (some ⟨N,0,none⟩),.int .i64 d] w (gQ N w (.bad 3)):=by
 have b0:=(eu (aW t) []).2 D;obtain⟨G,Q,q,hE,hN⟩:=h;have H:=gJ N _ Q w G;have Z:=eF N _ ⟨#[40]⟩ Q w G ho;have gd:decide ((12:Int)<(d:Int))=false:=by simp;omega
 have a0:=(q s (by simp)).2;obtain⟨ao,c,a1,c',p1,p2,p3,I⟩:=G.rest;have y:((⟨#[78,69,65,82]⟩:ByteArray)::t).length<=1000:=by simp at Q⊢;omega
 have b:=eF N ((⟨#[78,69,65,82]⟩:ByteArray)::t) ⟨#[42]⟩ y _ I B;have P4:=ak I;have b6:=ak q;generalize hm:((⟨#[78,69,65,82]⟩:ByteArray)::t).length=m at p1 p3 I b P4;have a2:=pO s O r hr V;have J:gO N w (w.setCell ⟨N,0,none⟩ (.slice a1 m c')):=ag.setCell _ _ rfl;have b7:=ad p1;obtain⟨n0,n1,n2,n3,n4,n5,n6⟩:=hf;rw[show aW (s::(⟨#[78,69,65,82]⟩:ByteArray)::t)=s from rfl]at H;have a3:=hE.fL J hN;clear G q hE hr I B hm;generalize L:aW t=pb at*;have a4:=ak L;clear D L;go_enter bF,bu;go_wp2_with(first|(go_at_call 33;with_reducible refine H.mono ?_;rintro e w1 ⟨rfl,rfl⟩)|(go_at_call_of 78 (ae ⟨#[40]⟩);refine Z.mono ?_;rintro e w1 ⟨rfl,rfl⟩)|(go_at_call 185;refine(a2 _).mono ?_;rintro e w1 ⟨rfl,rfl⟩)|(go_at_call_of 78 (ae ⟨#[42]⟩);refine b.mono ?_;rintro e w2 ⟨rfl,rfl⟩)|(go_at_call_of 187 (ae s);refine(mK s a a0 Y _ a3).mono ?_;rintro e w3 ⟨rfl,z⟩;have S:=J.trans (ag.ah z);have U:=P4.out.gr z;clear z)|(go_at_call_of 78 (ae ⟨#[78,69,65,82]⟩);refine(jr N ⟨#[78,69,65,82]⟩ t y _ U).mono ?_;rintro e w4 ⟨rfl,U,M⟩;have S:=S.trans M;clear M)|(go_at_call 33;refine(gJ N t (by simp at y⊢;omega) _ U).mono ?_;rintro e w5 ⟨rfl,rfl⟩;rw[a4.out])|(go_at_call 34;refine(lV 3 _).mono ?_;rintro e w6 ⟨rfl,rfl⟩;unfold dI))
 exact⟨rfl,rfl,S⟩
theorem OP(N d:Nat)(hd:d<=12)(s:ByteArray)(b:ByteArray)(t:List ByteArray)(w:aQ)(h:oB N w (s::(⟨#[78,69,65,82]⟩:ByteArray)::b::t))(hf:nG s)(ho:s≠jP)(Z:UInt8)(r:List UInt8)(hr:s.data.toList=Z::r)(a1:Z≠34)(J:aW ((⟨#[78,69,65,82]⟩:ByteArray)::b::t)≠jQ)(a:ByteArray)(a2:aD s=[a])(L:eR (dV b)=true):
  aS prog 135 #[.pointer (some ⟨N,0,none⟩),.int .i64 d] w (gQ N w (.bad 3)):=by
 obtain⟨M,hl,y,hE,hN⟩:=h;have O:=gJ N _ hl w M;have a3:=eF N _ ⟨#[40]⟩ hl w M ho;have gd:decide ((12:Int)<(d:Int))=false:=by simp;omega
 have a4:=(y s (by simp)).2;obtain⟨ao,c,a5,c',p1,p2,p3,Q⟩:=M.rest;have z:((⟨#[78,69,65,82]⟩:ByteArray)::b::t).length<=1000:=by simp at hl⊢;omega
 have q:=eF N ((⟨#[78,69,65,82]⟩:ByteArray)::b::t) ⟨#[42]⟩ z _ Q J;have P4:=ak Q;have S:=ak y;generalize hm:((⟨#[78,69,65,82]⟩:ByteArray)::b::t).length=m at p1 p3 Q q P4;have a6:=pO s Z r hr a1;have U:gO N w (w.setCell ⟨N,0,none⟩ (.slice a5 m c')):=ag.setCell _ _ rfl;have c2:=ad p1;obtain⟨n0,n1,n2,n3,n4,n5,n6⟩:=hf;rw[show aW (s::(⟨#[78,69,65,82]⟩:ByteArray)::b::t)=s from rfl]at O;have a7:=hE.fL U hN;clear M y hE hr Q J hm;have a8:=(S.out b (by simp)).2;have V:=(S.out b (by simp)).1;have c3:b.toList.isEmpty=false:=by
  obtain⟨c1,r1,a9,_⟩:=V;rw[aX,a9]
  rfl
 have B:=fun W=>pG b ⟨#[40,41,34,42]⟩ a8 (by decide) (by decide) W;rw[show bv b.data.toList (⟨#[40,41,34,42]⟩:ByteArray).data.toList=eR (dV b)from xy V]at B;rw[L]at B;clear L;go_enter bF,bu;go_wp2_with(first|(go_at_call 33;with_reducible refine O.mono ?_;rintro e w1 ⟨rfl,rfl⟩)|(go_at_call_of 78 (ae ⟨#[40]⟩);refine a3.mono ?_;rintro e w1 ⟨rfl,rfl⟩)|(go_at_call 185;refine(a6 _).mono ?_;rintro e w1 ⟨rfl,rfl⟩)|(go_at_call_of 78 (ae ⟨#[42]⟩);refine q.mono ?_;rintro e w2 ⟨rfl,rfl⟩)|(go_at_call_of 187 (ae s);refine(mK s a a4 a2 _ a7).mono ?_;rintro e w3 ⟨rfl,D⟩;have H:=U.trans (ag.ah D);have I:=P4.out.gr D;clear D)|(go_at_call_of 78 (ae ⟨#[78,69,65,82]⟩);refine(jr N ⟨#[78,69,65,82]⟩ (b::t) z _ I).mono ?_;rintro e w4 ⟨rfl,I,Y⟩;have H:=H.trans Y;clear Y)|(go_at_call 33;refine(gJ N (b::t) (by simp at z⊢;omega) _ I).mono ?_;rintro e w5 ⟨rfl,rfl⟩;rw[show aW (b::t)=b from rfl])|(go_at_call 188;refine(B _).mono ?_;rintro e w7 ⟨rfl,G⟩;have H:=H.trans (ag.ah G);have I:=I.gr G;clear G)|(go_at_call 34;refine(lV 3 _).mono ?_;rintro e w6 ⟨rfl,rfl⟩;unfold dI))
 exact⟨rfl,rfl,H⟩
theorem OQ(N d:Nat)(hd:d<=12)(s:ByteArray)(b:ByteArray)(t:List ByteArray)(w:aQ)(h:oB N w (s::(⟨#[78,69,65,82]⟩:ByteArray)::b::t))(hf:nG s)(ho:s≠jP)(c0:UInt8)(r:List UInt8)(hr:s.data.toList=c0::r)(a5:c0≠34)(J:aW ((⟨#[78,69,65,82]⟩:ByteArray)::b::t)≠jQ)(a:ByteArray)(a6:aD s=[a])(L:eR (dV b)=false)(a7:∀a,aD b≠[a]):
  aS prog 135 #[.pointer (some ⟨N,0,none⟩),.int .i64 d] w (gQ N w (.bad 3)):=by
 obtain⟨M,hl,B,hE,hN⟩:=h;have O:=gJ N _ hl w M;have a8:=eF N _ ⟨#[40]⟩ hl w M ho;have gd:decide ((12:Int)<(d:Int))=false:=by simp;omega
 have a9:=(B s (by simp)).2;obtain⟨ao,c,b0,c',p1,p2,p3,Q⟩:=M.rest;have D:((⟨#[78,69,65,82]⟩:ByteArray)::b::t).length<=1000:=by simp at hl⊢;omega
 have y:=eF N ((⟨#[78,69,65,82]⟩:ByteArray)::b::t) ⟨#[42]⟩ D _ Q J;have P4:=ak Q;have U:=ak B;generalize hm:((⟨#[78,69,65,82]⟩:ByteArray)::b::t).length=m at p1 p3 Q y P4;have b1:=pO s c0 r hr a5;have V:gO N w (w.setCell ⟨N,0,none⟩ (.slice b0 m c')):=ag.setCell _ _ rfl;have d1:=ad p1;obtain⟨n0,n1,n2,n3,n4,n5,n6⟩:=hf;rw[show aW (s::(⟨#[78,69,65,82]⟩:ByteArray)::b::t)=s from rfl]at O;have b2:=hE.fL V hN;have b3:=hE;clear M B hE hr Q J hm;have Y:=(U.out b (by simp)).2;have Z:=(U.out b (by simp)).1;have d2:b.toList.isEmpty=false:=by
  obtain⟨c1,r1,b4,_⟩:=Z;rw[aX,b4]
  rfl
 have G:=fun W=>pG b ⟨#[40,41,34,42]⟩ Y (by decide) (by decide) W;rw[show bv b.data.toList (⟨#[40,41,34,42]⟩:ByteArray).data.toList=eR (dV b)from xy Z]at G;rw[L]at G;clear L;go_enter bF,bu;go_wp2_with(first|(go_at_call 33;with_reducible refine O.mono ?_;rintro e w1 ⟨rfl,rfl⟩)|(go_at_call_of 78 (ae ⟨#[40]⟩);refine a8.mono ?_;rintro e w1 ⟨rfl,rfl⟩)|(go_at_call 185;refine(b1 _).mono ?_;rintro e w1 ⟨rfl,rfl⟩)|(go_at_call_of 78 (ae ⟨#[42]⟩);refine y.mono ?_;rintro e w2 ⟨rfl,rfl⟩)|(go_at_call_of 187 (ae s);refine(mK s a a9 a6 _ b2).mono ?_;rintro e w3 ⟨rfl,H⟩;have q:=V.trans (ag.ah H);have z:=P4.out.gr H;clear H)|(go_at_call_of 78 (ae ⟨#[78,69,65,82]⟩);refine(jr N ⟨#[78,69,65,82]⟩ (b::t) D _ z).mono ?_;rintro e w4 ⟨rfl,z,a0⟩;have q:=q.trans a0;clear a0)|(go_at_call 33;refine(gJ N (b::t) (by simp at D⊢;omega) _ z).mono ?_;rintro e w5 ⟨rfl,rfl⟩;rw[show aW (b::t)=b from rfl])|(go_at_call 188;refine(G _).mono ?_;rintro e w7 ⟨rfl,I⟩;have q:=q.trans (ag.ah I);have z:=z.gr I;clear I;obtain⟨d3,c5,a1,b5,q1,q2,q3,q4⟩:=z.rest;have q:=q.trans (ag.setCell (S:=fun i=>i=N) w7 (p:=⟨N,0,none⟩) (.slice a1 t.length b5) rfl);have b6:=b3.fL q hN)|(go_at_call_of 187 (ae b);refine(Ef b Y a7 _ b6).mono ?_;rintro e w8 ⟨rfl,b7⟩;have q:=q.trans (ag.ah b7);unfold dI))
 exact⟨rfl,rfl,q⟩
theorem OR(N d:Nat)(hd:d<=12)(s:ByteArray)(b:ByteArray)(t:List ByteArray)(w:aQ)(h:oB N w (s::(⟨#[78,69,65,82]⟩:ByteArray)::b::t))(hf:nG s)(ho:s≠jP)(c0:UInt8)(r:List UInt8)(hr:s.data.toList=c0::r)(b0:c0≠34)(O:aW ((⟨#[78,69,65,82]⟩:ByteArray)::b::t)≠jQ)(a:ByteArray)(b1:aD s=[a])(Q:eR (dV b)=false)(B:ByteArray)(b2:aD b=[B]):
  aS prog 135 #[.pointer (some ⟨N,0,none⟩),.int .i64 d] w (gQ N w (.ok (.leaf 3 [a,B] 3) t)):=by
 obtain⟨U,hl,G,hE,hN⟩:=h;have V:=gJ N _ hl w U;have b3:=eF N _ ⟨#[40]⟩ hl w U ho;have gd:decide ((12:Int)<(d:Int))=false:=by simp;omega
 have b4:=(G s (by simp)).2;obtain⟨ao,c,b5,c',p1,p2,p3,Y⟩:=U.rest;have H:((⟨#[78,69,65,82]⟩:ByteArray)::b::t).length<=1000:=by simp at hl⊢;omega
 have D:=eF N ((⟨#[78,69,65,82]⟩:ByteArray)::b::t) ⟨#[42]⟩ H _ Y O;have P4:=ak Y;have Z:=ak G;generalize hm:((⟨#[78,69,65,82]⟩:ByteArray)::b::t).length=m at p1 p3 Y D P4;have b6:=pO s c0 r hr b0;have a0:gO N w (w.setCell ⟨N,0,none⟩ (.slice b5 m c')):=ag.setCell _ _ rfl;have b7:=ad p1;obtain⟨n0,n1,n2,n3,n4,n5,n6⟩:=hf;rw[show aW (s::(⟨#[78,69,65,82]⟩:ByteArray)::b::t)=s from rfl]at V;have b8:=hE.fL a0 hN;have b9:=hE;clear U G hE hr Y O hm;have a1:=(Z.out b (by simp)).2;have a3:=(Z.out b (by simp)).1;have d9:b.toList.isEmpty=false:=by
  obtain⟨c1,r1,c2,_⟩:=a3;rw[aX,c2]
  rfl
 have I:=fun W=>pG b ⟨#[40,41,34,42]⟩ a1 (by decide) (by decide) W;rw[show bv b.data.toList (⟨#[40,41,34,42]⟩:ByteArray).data.toList=eR (dV b)from xy a3]at I;rw[Q]at I;clear Q;go_enter bF,bu;go_wp2_with(first|(go_at_call 33;with_reducible refine V.mono ?_;rintro e w1 ⟨rfl,rfl⟩)|(go_at_call_of 78 (ae ⟨#[40]⟩);refine b3.mono ?_;rintro e w1 ⟨rfl,rfl⟩)|(go_at_call 185;refine(b6 _).mono ?_;rintro e w1 ⟨rfl,rfl⟩)|(go_at_call_of 78 (ae ⟨#[42]⟩);refine D.mono ?_;rintro e w2 ⟨rfl,rfl⟩)|(go_at_call_of 187 (ae s);refine(mK s a b4 b1 _ b8).mono ?_;rintro e w3 ⟨rfl,J⟩;have q:=a0.trans (ag.ah J);have z:=P4.out.gr J;clear J)|(go_at_call_of 78 (ae ⟨#[78,69,65,82]⟩);refine(jr N ⟨#[78,69,65,82]⟩ (b::t) H _ z).mono ?_;rintro e w4 ⟨rfl,z,a4⟩;have q:=q.trans a4;clear a4)|(go_at_call 33;refine(gJ N (b::t) (by simp at H⊢;omega) _ z).mono ?_;rintro e w5 ⟨rfl,rfl⟩;rw[show aW (b::t)=b from rfl])|(go_at_call 188;refine(I _).mono ?_;rintro e w7 ⟨rfl,L⟩;have q:=q.trans (ag.ah L);have z:=z.gr L;clear L;obtain⟨e0,c5,a6,c3,q1,q2,q3,q4⟩:=z.rest;have q:=q.trans (ag.setCell (S:=fun i=>i=N) w7 (p:=⟨N,0,none⟩) (.slice a6 t.length c3) rfl);have c4:=b9.fL q hN)|(go_at_call_of 187 (ae b);refine(mK b B a1 b2 _ c4).mono ?_;rintro e y ⟨rfl,M⟩;have q:=q.trans (ag.ah M);have z:=q4.gr M;clear M))
 go_ret;have c6:N<y.heap.size:=ap b7 q.2.2.2.1;have hq:=vF (N:=N) (w:=y.alloc (.cells #[.string a,.string B] 9)) 3 3 (Eb a B c6 9) (by simp;omega) 116;rw[show(y.alloc (.cells #[.string a,.string B] 9)).heap.size=y.heap.size+1 by simp]at hq;have a5:Gr y ((y.alloc (.cells #[.string a,.string B] 9)).alloc (.cells #[.int .i64 3,.slice (some ⟨y.heap.size,0,none⟩) 2 2,.int .i64 3,.pointer none,.pointer none] 116)):=((Gr.refl y).alloc _).alloc _;exact⟨y.heap.size+1,rfl,hq,z.gr a5,q.trans (ag.ah a5)⟩
theorem Xu(N d:Nat)(hd:d<=12)(H:List ByteArray->Rd)(Y:∀l q r,H l=.ok q r->fG r l)(Z:∀(l':List ByteArray) (w':aQ),oB N w' l'->aS prog 32 #[.pointer (some ⟨N,0,none⟩),.int .i64 ((d:Int)+1)] w' (gQ N w' (H l')))
  (l:List ByteArray) (w:aQ) (h:oB N w l):aS prog 135 #[.pointer (some ⟨N,0,none⟩),.int .i64 d] w (gQ N w (yA H l)):=by
 unfold yA
 dsimp only
 split
 ·rename_i hs
  exact R1 N d hd l w h hs
 rename_i hs
 obtain⟨s,t,rfl,hp⟩:=eS (l:=l) (fun e=>hs (.inl e));rw[hp]at hs;simp only[hp,cW];have hf:=L0 hs
 split
 ·rename_i I
  subst I;exact R4 N d hd H Y Z t w h
 rename_i I
 obtain⟨L,r,J,_⟩:=(h.2.2.1 s (by simp)).1;have hh:dV s=L:=by unfold dV;rw[J];rfl
 rw[hh,J]
 split
 ·rename_i z
  subst z;exact OD N d hd s t w h hf I r J
 rename_i z
 split
 ·rename_i B
  obtain⟨a,G,rfl,ha⟩:=eS (l:=t) (by rw[B];decide);obtain rfl:a=⟨#[42]⟩:=ha.symm.trans B;exact R5 N d hd s G w h hf I L r J z
 rename_i B
 split
 ·rename_i a D
  show aS _ _ _ _ (gQ N w (if aW t=pD then(if aW t.tail=gG\/eR (dV (aW t.tail))=true then Rd.bad 3 else(match aD (aW t.tail)with|[b]=>Rd.ok (Qy.leaf 3 [a,b] 3) t.tail.tail|_=>Rd.bad 3))else Rd.ok (Qy.leaf 1 [a] 0) t));by_cases y:aW t=pD
  ·rw[if_pos y];obtain⟨x,G,rfl,hx⟩:=eS (l:=t) (by rw[y];decide);obtain rfl:x=⟨#[78,69,65,82]⟩:=hx.symm.trans y;show aS _ _ _ _ (gQ N w (if aW G=gG\/eR (dV (aW G))=true then Rd.bad 3 else(match aD (aW G)with|[b]=>Rd.ok (Qy.leaf 3 [a,b] 3) G.tail|_=>Rd.bad 3)));by_cases Q:aW G=gG\/eR (dV (aW G))=true
   ·rw[if_pos Q];by_cases S:aW G=gG
    ·exact OO N d hd s G w h hf I L r J z B a D S
    obtain⟨b,M,rfl,U⟩:=eS (l:=G) S;have O:eR (dV b)=true:=by
     rcases Q with e|e
     ·exact absurd e S
     rwa [U]at e
    exact OP N d hd s b M w h hf I L r J z B a D O
   rw[if_neg Q];obtain⟨b,M,rfl,U⟩:=eS (l:=G) (fun e=>Q (.inl e));rw[U]at Q⊢;have O:eR (dV b)=false:=by
    rw[bz];exact fun e=>Q (.inr e)
   split
   ·rename_i a2 V
    exact OR N d hd s b M w h hf I L r J z B a D O a2 V
   rename_i V
   exact OQ N d hd s b M w h hf I L r J z B a D O (fun a e=>V a e)
  rw[if_neg y];exact ON N d hd s t w h hf I L r J z B a D y
 rename_i D
 exact OM N d hd s t w h hf I L r J z B (fun a e=>D a e)
def zW(N:Nat)(w:aQ):Nat:=match w.cell? ⟨N,0,none⟩with|some (.slice _ n _)=>n|_=>0
theorem gY{N:Nat}{w:aQ}{l:List ByteArray}(h:oy N w l):zW N w=l.length:=by
 obtain⟨y,c,b,s,q,_⟩:=h;unfold zW;rw[q]
theorem oB.less{N:Nat}{w w':aQ}{l r:List ByteArray}(h:oB N w l)(b:oy N w' r)(s:∃m,m<:+l/\r<:+m)(g:gO N w w'):oB N w' r:=by
 obtain⟨m,y,z⟩:=s;have q:=z.trans y;exact⟨b,ch q.length_le h.2.1,fun p b=>h.2.2.1 p (q.subset b),h.2.2.2.1.fL g h.2.2.2.2,h.2.2.2.2⟩
theorem Eg(b:List ByteArray->Rd)(n:Nat)(q:Qy)(l:List ByteArray)(h:xp (aW l)):nV b n q l=.ok q l:=by
 unfold nV;rw[if_pos h]
theorem Eh(b:List ByteArray->Rd)(n:Nat)(q:Qy)(l:List ByteArray)(h:¬xp (aW l)):nV b (n+1) q l=match b (if aW l=f_\/aW l=iC then l.tail else l)with| .bad m=>.bad m| .ok q' r=>nV b n (.node (if aW l=f_ then 6 else 4) q q') r:=by
 conv=>lhs;unfold nV
 rw[if_neg h]
 rfl
theorem UC(N d:Nat)(_hd:d<=13)(z:List ByteArray->Rd)(c2:∀l q r,z l=.ok q r->fG r l)(c6:∀(l':List ByteArray) (w':aQ),oB N w' l'->aS prog 135 #[.pointer (some ⟨N,0,none⟩),.int .i64 d] w' (gQ N w' (z l')))
  (l:List ByteArray) (w:aQ) (h:oB N w l):aS prog 77 #[.pointer (some ⟨N,0,none⟩),.int .i64 d] w (gQ N w (ti z l)):=by
 have HI:=ak h;have Q:=ak c6;have Z:=ak c2;have c9:=(show N<w.heap.size by obtain⟨ao,c,b,e8,h1,_⟩:=h.1;exact ad h1);clear h c6 c2;generalize hR:ti z l=R;unfold ti at hR;cases ho:z l with
 |bad m=>
  rw[ho]at hR;subst hR;have HO:=ak ho;clear ho;go_enter func77,ntmps77;go_wp2_with fail
  refine(Q.out l w HI.out).mono ?_;rw[HO.out];rintro e w1 ⟨rfl,b1⟩;unfold dI;go_wp2_with fail
  exact⟨rfl,rfl,b1⟩
 |ok q r=>
  rw[ho]at hR;have HR:=ak hR;have HO:=ak ho;clear ho hR;go_enter func77,ntmps77;go_wp2_with fail
  refine(Q.out l w HI.out).mono ?_;rw[HO.out];rintro e w1 ⟨b,rfl,d3,d4,b1⟩;have I:=Z.out l q r HO.out;have d5:=HI.out.less d4 ⟨r,I.1,az r⟩ b1;clear I;go_wp2_with fail
  go_loopw [5] (fun qv w'=>∃(q:Qy) (b:Nat) (l:List ByteArray) (n:Nat),qv=.pointer (some ⟨b,0,none⟩)/\gv N w' q b/\oB N w' l/\gO N w w'/\l.length<=n/\nV z n q l=R) (fun _ w'=>zW N w')
  case atStart=>exact⟨q,b,r,r.length,rfl,d3,d5,b1,bP _,HR.out⟩
  case round=>
   obtain⟨q,b,l,n,rfl,hq,b3,hg,hn,y⟩:=hrel;have HQ:=ak hq;have B:=ak b3;have c4:=gY b3.1;have O:=gJ N l b3.2.1 _ b3.1;clear hq b3 d3 d4 d5 b1;by_cases J:xp (aW l)
   ·rw[Eg _ _ _ _ J]at y;subst y;clear c4;generalize hs:aW l=s at*;rcases J with e|e|e
    ·have hK:=(eu s ([]:List UInt8)).2 e;clear e hs;go_wp2_with(go_at_call 33;refine O.mono ?_;rintro e w1 ⟨rfl,rfl⟩)
     go_ret;exact⟨b,rfl,HQ.out,B.out.1,hg⟩
    ·have hK:=(eu s [41]).2 e;clear e hs;go_wp2_with(go_at_call 33;refine O.mono ?_;rintro e w1 ⟨rfl,rfl⟩)
     go_ret;exact⟨b,rfl,HQ.out,B.out.1,hg⟩
    have hK:=(eu s [79,82]).2 e;clear e hs;go_wp2_with(go_at_call 33;refine O.mono ?_;rintro e w1 ⟨rfl,rfl⟩)
    go_ret;exact⟨b,rfl,HQ.out,B.out.1,hg⟩
   obtain⟨s,t,rfl,d7⟩:=eS (l:=l) (fun e=>J (.inl e));obtain⟨n,rfl⟩:∃m,n=m+1:=⟨n-1,by simp at hn;omega⟩;rw[Eh _ _ _ _ J]at y;rw[d7]at J O y;have s0:s.toList.isEmpty=false:=by rw[yK];simpa using fun e=>J (.inl e)
   have s1:=jC (s:=s) (k:=[41]) (fun e=>J (.inr (.inl e)));have s2:=jC (s:=s) (k:=[79,82]) (fun e=>J (.inr (.inr e)));by_cases a9:s=f_
   ·subst a9;rw[if_pos (rfl:f_=f_)]at y;have a0:=jr N ⟨#[78,79,84]⟩ t B.out.2.1 _ B.out.1
    change aS _ _ _ _ fun e w'=>e=.returned (.string ⟨#[78,79,84]⟩)/\w'=_ at O;clear s0 s1 s2;have e1:z (if f_=f_\/f_=iC then(f_::t).tail else f_::t)=z (t):=by rw[if_pos (.inl rfl)];rfl
    rw[e1]at y;cases M:z (t)with
    |bad m=>
     rw[M]at y;have U:=ak M;subst y;clear M e1 J;go_wp2_with(first|(go_at_call 33;refine O.mono ?_;rintro e w1 ⟨rfl,rfl⟩)|(go_at_call_of 78 (ae ⟨#[78,79,84]⟩);refine a0.mono ?_;rintro e w2 ⟨rfl,PC,D⟩;have GN:=hg.trans D;have G:=B.out.less PC ⟨t,aU _ t,az t⟩ D;have QC:=gv.fL D q b HQ.out;clear D))
     refine(Q.out _ _ G).mono ?_;rw[U.out];rintro e S ⟨rfl,H⟩;have L:=GN.trans H;unfold dI;go_wp2_with fail
     exact⟨rfl,rfl,L⟩
    |ok q2 r=>
     rw[M]at y;have U:=ak M;have I:=Z.out _ q2 r M;have b6:=ak y;clear M e1 J y;go_wp2_with(first|(go_at_call 33;refine O.mono ?_;rintro e w1 ⟨rfl,rfl⟩)|(go_at_call_of 78 (ae ⟨#[78,79,84]⟩);refine a0.mono ?_;rintro e w2 ⟨rfl,PC,D⟩;have GN:=hg.trans D;have G:=B.out.less PC ⟨t,aU _ t,az t⟩ D;have QC:=gv.fL D q b HQ.out;clear D))
     refine(Q.out _ _ G).mono ?_;rw[U.out];rintro e S ⟨b2,rfl,a1,a2,H⟩;have L:=GN.trans H;have b7:=gv.fL H q b QC;have V:=G.less a2 ⟨r,I.1,az r⟩ H;have b8:N<S.heap.size:=ap c9 L.2.2.2.1;have a3:=vG 6 b7 a1 b8 116;have Y:Gr S (S.alloc (.cells #[.int .i64 6,.slice none 0 0,.int .i64 0,.pointer (some ⟨b,0,none⟩),.pointer (some ⟨b2,0,none⟩)] 116)):=(Gr.refl S).alloc _;have a4:=V.less (V.1.gr Y) ⟨r,az r,az r⟩ (ag.ah Y);have b9:=gY a4.1;have a5:=I.2;have c0:=ak a3;clear a3 I a1 a2 V G;go_wp2_with fail
     refine⟨⟨_,S.heap.size,r,n,rfl,c0.out,a4,L.trans (ag.ah Y),by simp at hn a5;omega,b6.out⟩,?_⟩;rw[b9,c4];simp at a5⊢;omega
   rw[if_neg a9]at y;by_cases c1:s=iC
   ·subst c1;have a0:=eF N _ ⟨#[78,79,84]⟩ B.out.2.1 _ B.out.1 (by show iC≠_;decide);have a6:=jr N ⟨#[65,78,68]⟩ t B.out.2.1 _ B.out.1
    change aS _ _ _ _ fun e w'=>e=.returned (.string ⟨#[65,78,68]⟩)/\w'=_ at O;clear s0 s1 s2;have e1:z (if iC=f_\/iC=iC then(iC::t).tail else iC::t)=z (t):=by rw[if_pos (.inr rfl)];rfl
    rw[e1]at y;cases M:z (t)with
    |bad m=>
     rw[M]at y;have U:=ak M;subst y;clear M e1 J;go_wp2_with(first|(go_at_call 33;refine O.mono ?_;rintro e w1 ⟨rfl,rfl⟩)|(go_at_call_of 78 (ae ⟨#[78,79,84]⟩);refine a0.mono ?_;rintro e w2 ⟨rfl,rfl⟩)|(go_at_call_of 78 (ae ⟨#[65,78,68]⟩);refine a6.mono ?_;rintro e w2 ⟨rfl,PC,D⟩;have GN:=hg.trans D;have G:=B.out.less PC ⟨t,aU _ t,az t⟩ D;have QC:=gv.fL D q b HQ.out;clear D))
     refine(Q.out _ _ G).mono ?_;rw[U.out];rintro e S ⟨rfl,H⟩;have L:=GN.trans H;unfold dI;go_wp2_with fail
     exact⟨rfl,rfl,L⟩
    |ok q2 r=>
     rw[M]at y;have U:=ak M;have I:=Z.out _ q2 r M;have b6:=ak y;clear M e1 J y;go_wp2_with(first|(go_at_call 33;refine O.mono ?_;rintro e w1 ⟨rfl,rfl⟩)|(go_at_call_of 78 (ae ⟨#[78,79,84]⟩);refine a0.mono ?_;rintro e w2 ⟨rfl,rfl⟩)|(go_at_call_of 78 (ae ⟨#[65,78,68]⟩);refine a6.mono ?_;rintro e w2 ⟨rfl,PC,D⟩;have GN:=hg.trans D;have G:=B.out.less PC ⟨t,aU _ t,az t⟩ D;have QC:=gv.fL D q b HQ.out;clear D))
     refine(Q.out _ _ G).mono ?_;rw[U.out];rintro e S ⟨b2,rfl,a1,a2,H⟩;have L:=GN.trans H;have b7:=gv.fL H q b QC;have V:=G.less a2 ⟨r,I.1,az r⟩ H;have b8:N<S.heap.size:=ap c9 L.2.2.2.1;have a3:=vG 4 b7 a1 b8 116;have Y:Gr S (S.alloc (.cells #[.int .i64 4,.slice none 0 0,.int .i64 0,.pointer (some ⟨b,0,none⟩),.pointer (some ⟨b2,0,none⟩)] 116)):=(Gr.refl S).alloc _;have a4:=V.less (V.1.gr Y) ⟨r,az r,az r⟩ (ag.ah Y);have b9:=gY a4.1;have a5:=I.2;have c0:=ak a3;clear a3 I a1 a2 V G;go_wp2_with fail
     refine⟨⟨_,S.heap.size,r,n,rfl,c0.out,a4,L.trans (ag.ah Y),by simp at hn a5;omega,b6.out⟩,?_⟩;rw[b9,c4];simp at a5⊢;omega
   have d8:¬(s=f_\/s=iC):=fun h=>h.elim a9 c1;have a0:=eF N _ ⟨#[78,79,84]⟩ B.out.2.1 _ B.out.1 (fun e=>a9 e);have a6:=eF N _ ⟨#[65,78,68]⟩ B.out.2.1 _ B.out.1 (fun e=>c1 e);have e1:z (if s=f_\/s=iC then(s::t).tail else s::t)=z (s::t):=by rw[if_neg d8]
   rw[e1]at y;cases M:z (s::t)with
   |bad m=>
    rw[M]at y;have U:=ak M;subst y;clear M e1 J;go_wp2_with(first|(go_at_call 33;refine O.mono ?_;rintro e w1 ⟨rfl,rfl⟩)|(go_at_call_of 78 (ae ⟨#[78,79,84]⟩);refine a0.mono ?_;rintro e w2 ⟨rfl,rfl⟩)|(go_at_call_of 78 (ae ⟨#[65,78,68]⟩);refine a6.mono ?_;rintro e w2 ⟨rfl,rfl⟩;have GN:=hg;have G:=B.out;have QC:=HQ.out))
    refine(Q.out _ _ G).mono ?_;rw[U.out];rintro e S ⟨rfl,H⟩;have L:=GN.trans H;unfold dI;go_wp2_with fail
    exact⟨rfl,rfl,L⟩
   |ok q2 r=>
    rw[M]at y;have U:=ak M;have I:=Z.out _ q2 r M;have b6:=ak y;clear M e1 J y;go_wp2_with(first|(go_at_call 33;refine O.mono ?_;rintro e w1 ⟨rfl,rfl⟩)|(go_at_call_of 78 (ae ⟨#[78,79,84]⟩);refine a0.mono ?_;rintro e w2 ⟨rfl,rfl⟩)|(go_at_call_of 78 (ae ⟨#[65,78,68]⟩);refine a6.mono ?_;rintro e w2 ⟨rfl,rfl⟩;have GN:=hg;have G:=B.out;have QC:=HQ.out))
    refine(Q.out _ _ G).mono ?_;rw[U.out];rintro e S ⟨b2,rfl,a1,a2,H⟩;have L:=GN.trans H;have b7:=gv.fL H q b QC;have V:=G.less a2 ⟨r,I.1,az r⟩ H;have b8:N<S.heap.size:=ap c9 L.2.2.2.1;have a3:=vG 4 b7 a1 b8 116;have Y:Gr S (S.alloc (.cells #[.int .i64 4,.slice none 0 0,.int .i64 0,.pointer (some ⟨b,0,none⟩),.pointer (some ⟨b2,0,none⟩)] 116)):=(Gr.refl S).alloc _;have a4:=V.less (V.1.gr Y) ⟨r,az r,az r⟩ (ag.ah Y);have b9:=gY a4.1;have a5:=I.2;have c0:=ak a3;clear a3 I a1 a2 V G;go_wp2_with fail
    refine⟨⟨_,S.heap.size,r,n,rfl,c0.out,a4,L.trans (ag.ah Y),by simp at hn a5;omega,b6.out⟩,?_⟩;rw[b9,c4];simp at a5⊢;omega
theorem Ei(b:List ByteArray->Rd)(n:Nat)(q:Qy)(l:List ByteArray)(h:aW l≠Fm):mc b n q l=.ok q l:=by
 unfold mc;rw[if_neg h]
theorem Ej(b:List ByteArray->Rd)(n:Nat)(q:Qy)(l:List ByteArray)(h:aW l=Fm):mc b (n+1) q l=match b l.tail with| .bad m=>.bad m| .ok q' r=>mc b n (.node 5 q q') r:=by
 conv=>lhs;unfold mc
 rw[if_pos h]
 rfl
theorem UD(N d:Nat)(y:List ByteArray->Rd)(O:∀l q r,y l=.ok q r->fG r l)(Y:∀(l':List ByteArray) (w':aQ),oB N w' l'->aS prog 77 #[.pointer (some ⟨N,0,none⟩),.int .i64 d] w' (gQ N w' (y l')))
  (l:List ByteArray) (w:aQ) (h:oB N w l):aS prog 32 #[.pointer (some ⟨N,0,none⟩),.int .i64 d] w (gQ N w (tj y l)):=by
 have HI:=ak h;have H:=ak Y;have Q:=ak O;have c2:=(show N<w.heap.size by obtain⟨ao,c,b,d7,h1,_⟩:=h.1;exact ad h1);clear h Y O;generalize Z:tj y l=R;unfold tj at Z;cases ho:y l with
 |bad m=>
  rw[ho]at Z;subst Z;have HO:=ak ho;clear ho;go_enter func32,ntmps32;go_wp2_with fail
  refine(H.out l w HI.out).mono ?_;rw[HO.out];rintro e w1 ⟨rfl,J⟩;unfold dI;go_wp2_with fail
  exact⟨rfl,rfl,J⟩
 |ok q r=>
  rw[ho]at Z;have HR:=ak Z;have HO:=ak ho;clear ho Z;go_enter func32,ntmps32;go_wp2_with fail
  refine(H.out l w HI.out).mono ?_;rw[HO.out];rintro e w1 ⟨b,rfl,a8,a9,J⟩;have I:=Q.out l q r HO.out;have b0:=HI.out.less a9 ⟨r,I.1,az r⟩ J;clear I;go_wp2_with fail
  go_loopw [5] (fun qv w'=>∃(q:Qy) (b:Nat) (l:List ByteArray) (n:Nat),qv=.pointer (some ⟨b,0,none⟩)/\gv N w' q b/\oB N w' l/\gO N w w'/\l.length<=n/\mc y n q l=R) (fun _ w'=>zW N w')
  case atStart=>exact⟨q,b,r,r.length,rfl,a8,b0,J,bP _,HR.out⟩
  case round=>
   obtain⟨q,b,l,n,rfl,hq,a2,hg,hn,z⟩:=hrel;have HQ:=ak hq;have G:=ak a2;have b1:=gY a2.1;clear hq a2 a8 a9 b0 J;by_cases D:aW l=Fm
   ·obtain⟨s,t,rfl,a3⟩:=eS (l:=l) (by rw[D];decide);obtain rfl:s=⟨#[79,82]⟩:=a3.symm.trans D;obtain⟨n,rfl⟩:∃m,n=m+1:=⟨n-1,by simp at hn;omega⟩;rw[Ej _ _ _ _ D]at z
    change (match y t with| .bad m=>Rd.bad m| .ok q' r=>mc y n (.node 5 q q') r)=R at z;have S:=jr N ⟨#[79,82]⟩ t G.out.2.1 _ G.out.1;cases V:y t with
    |bad m=>
     rw[V]at z;have a4:=ak V;subst z;clear V D a3;go_wp2_with(go_at_call_of 78 (ae ⟨#[79,82]⟩);refine S.mono ?_;rintro e w2 ⟨rfl,PC,B⟩;have GN:=hg.trans B;have L:=G.out.less PC ⟨t,aU _ t,az t⟩ B;have QC:=gv.fL B q b HQ.out;clear B)
     refine(H.out _ _ L).mono ?_;rw[a4.out];rintro e w3 ⟨rfl,M⟩;have U:=GN.trans M;unfold dI;go_wp2_with fail
     exact⟨rfl,rfl,U⟩
    |ok q2 r=>
     rw[V]at z;have a4:=ak V;have I:=Q.out _ q2 r V;have c3:=ak z;clear V D a3 z;go_wp2_with(go_at_call_of 78 (ae ⟨#[79,82]⟩);refine S.mono ?_;rintro e w2 ⟨rfl,PC,B⟩;have GN:=hg.trans B;have L:=G.out.less PC ⟨t,aU _ t,az t⟩ B;have QC:=gv.fL B q b HQ.out;clear B)
     refine(H.out _ _ L).mono ?_;rw[a4.out];rintro e w3 ⟨b2,rfl,b3,b4,M⟩;have U:=GN.trans M;have c4:=gv.fL M q b QC;have a5:=L.less b4 ⟨r,I.1,az r⟩ M;have c5:N<w3.heap.size:=ap c2 U.2.2.2.1;have b5:=vG 5 c4 b3 c5 116;have a6:Gr w3 (w3.alloc (.cells #[.int .i64 5,.slice none 0 0,.int .i64 0,.pointer (some ⟨b,0,none⟩),.pointer (some ⟨b2,0,none⟩)] 116)):=(Gr.refl w3).alloc _;have b6:=a5.less (a5.1.gr a6) ⟨r,az r,az r⟩ (ag.ah a6);have c6:=gY b6.1;have b7:=I.2;have c7:=ak b5;clear b5 I b3 b4 a5 L;go_wp2_with fail
     refine⟨⟨_,w3.heap.size,r,n,rfl,c7.out,b6,U.trans (ag.ah a6),by simp at hn b7;omega,c3.out⟩,?_⟩;rw[c6,b1];simp at b7⊢;omega
   rw[Ei _ _ _ _ D]at z;subst z;have S:=eF N l ⟨#[79,82]⟩ G.out.2.1 _ G.out.1 D;clear D b1;go_wp2_with(go_at_call_of 78 (ae ⟨#[79,82]⟩);refine S.mono ?_;rintro e w2 ⟨rfl,rfl⟩)
   go_ret;exact⟨b,rfl,HQ.out,G.out.1,hg⟩
theorem Xv(N:Nat):∀(k d:Nat),d+k=13->∀(l:List ByteArray) (w:aQ),oB N w l->aS prog 32 #[.pointer (some ⟨N,0,none⟩),.int .i64 d] w (gQ N w (uL k l)):=by
 intro k
 induction k with
 |zero=>
  intro d hd l w h;exact UD N d (G_ 0) (kW 0) (fun s y z=>UC N d (by omega) (Bi 0) (kV 0) (fun q b _=>RZ N d (by omega) b) s y z) l w h
 |succ k D=>
  intro d hd l w h;refine UD N d (G_ (k+1)) (kW (k+1)) (fun s y z=>UC N d (by omega) (Bi (k+1)) (kV (k+1)) (fun q b B=>?_) s y z) l w h;exact Xu N d (by omega) (uL k) (xq k) (fun G H I=>by
   have:=D (d+1) (by omega) G H I;rwa [show((d+1:Nat):Int)=(d:Int)+1 by omega]at this) q b B
theorem Wa(N d:Nat)(hd:d<=12)(H:List ByteArray->Rd)(Y:∀l q r,H l=.ok q r->fG r l)(Z:∀(l':List ByteArray) (w':aQ),nH N w' l'->aS prog 28 #[.pointer (some ⟨N,0,none⟩),.int .i64 ((d:Int)+1)] w' (gT N w' (H l')))
  (l:List ByteArray) (w:aQ) (h:nH N w l):aS prog 129 #[.pointer (some ⟨N,0,none⟩),.int .i64 d] w (gT N w (yA H l)):=by
 unfold yA
 dsimp only
 split
 ·rename_i hs
  exact OH N d hd l w h hs
 rename_i hs
 obtain⟨s,t,rfl,hp⟩:=eS (l:=l) (fun e=>hs (.inl e));rw[hp]at hs;simp only[hp,cW];have hf:=L0 hs
 split
 ·rename_i I
  subst I;exact OI N d hd H Y Z t w h
 rename_i I
 obtain⟨L,r,J,_⟩:=(h.2.2 s (by simp)).1;have hh:dV s=L:=by unfold dV;rw[J];rfl
 rw[hh,J]
 split
 ·rename_i z
  subst z;exact L2 N d hd s t w h hf I r J
 rename_i z
 split
 ·rename_i B
  obtain⟨a,G,rfl,ha⟩:=eS (l:=t) (by rw[B];decide);obtain rfl:a=⟨#[42]⟩:=ha.symm.trans B;exact OL N d hd s G w h hf I L r J z
 rename_i B
 split
 ·rename_i a D
  show aS _ _ _ _ (gT N w (if aW t=pD then(if aW t.tail=gG\/eR (dV (aW t.tail))=true then Rd.bad 3 else(match aD (aW t.tail)with|[b]=>Rd.ok (Qy.leaf 3 [a,b] 3) t.tail.tail|_=>Rd.bad 3))else Rd.ok (Qy.leaf 1 [a] 0) t));by_cases y:aW t=pD
  ·rw[if_pos y];obtain⟨x,G,rfl,hx⟩:=eS (l:=t) (by rw[y];decide);obtain rfl:x=⟨#[78,69,65,82]⟩:=hx.symm.trans y;show aS _ _ _ _ (gT N w (if aW G=gG\/eR (dV (aW G))=true then Rd.bad 3 else(match aD (aW G)with|[b]=>Rd.ok (Qy.leaf 3 [a,b] 3) G.tail|_=>Rd.bad 3)));by_cases Q:aW G=gG\/eR (dV (aW G))=true
   ·rw[if_pos Q];by_cases S:aW G=gG
    ·exact L5 N d hd s G w h hf I L r J z B a D S
    obtain⟨b,M,rfl,U⟩:=eS (l:=G) S;have O:eR (dV b)=true:=by
     rcases Q with e|e
     ·exact absurd e S
     rwa [U]at e
    exact L6 N d hd s b M w h hf I L r J z B a D O
   rw[if_neg Q];obtain⟨b,M,rfl,U⟩:=eS (l:=G) (fun e=>Q (.inl e));rw[U]at Q⊢;have O:eR (dV b)=false:=by
    rw[bz];exact fun e=>Q (.inr e)
   split
   ·rename_i a2 V
    exact L8 N d hd s b M w h hf I L r J z B a D O a2 V
   rename_i V
   exact L7 N d hd s b M w h hf I L r J z B a D O (fun a e=>V a e)
  rw[if_neg y];exact L4 N d hd s t w h hf I L r J z B a D y
 rename_i D
 exact L3 N d hd s t w h hf I L r J z B (fun a e=>D a e)
theorem nH.less{N:Nat}{w w':aQ}{l r:List ByteArray}(h:nH N w l)(b:mJ N w' r 0)(q:r<:+l):nH N w' r:=
 ⟨b,ch q.length_le h.2.1,fun p b=>h.2.2 p (q.subset b)⟩
def sZ(N:Nat)(b:dD)(w:aQ):Nat:=if pH b=0 then 0 else zW N w+1
theorem UE{l:List ByteArray}(b:∀p∈l,rH p/\p.size<=1000)(h:aW l≠gG):(aW l).size≠0:=by
 obtain⟨a,t,rfl,e⟩:=eS h;obtain⟨c,r,hc,_⟩:=(b a (by simp)).1;rw[e,size_data,hc];simp
theorem PU(N d:Nat)(z:List ByteArray->Rd)(d2:∀l q r,z l=.ok q r->fG r l)(d9:∀(l':List ByteArray) (w':aQ),nH N w' l'->aS prog 129 #[.pointer (some ⟨N,0,none⟩),.int .i64 d] w' (gT N w' (z l')))
  (l:List ByteArray) (w:aQ) (h:nH N w l):aS prog 74 #[.pointer (some ⟨N,0,none⟩),.int .i64 d] w (gT N w (ti z l)):=by
 have HI:=ak h;have Z:=ak d9;have a2:=ak d2;have e0:=ad h.1.2.1;clear h d9 d2;generalize hR:ti z l=R;unfold ti at hR;have HR:=ak hR;clear hR;go_enter func74,ntmps74;go_wp2_with fail
 refine(Z.out l w HI.out).mono ?_;intro e w1 a0;have d8:∃b sv,e=.returned (.pointer (some ⟨b,0,none⟩))/\aS prog 130 #[.pointer (some ⟨N,0,none⟩)] w1 (fun e w'=>e=.returned (.string sv)/\w'=w1)/\
   ((∃q l n,sv=aW l/\ir N w1 q b/\nH N w1 l/\gO N w w1/\l.length<=n/\nV z n q l=R)\/(∃l' m,sv=⟨#[]⟩/\mJ N w1 l' m/\m≠0/\gO N w w1/\R=.bad m)):=by
  have hR:=HR.out;cases ho:z l with
  |bad m=>
   rw[ho]at hR a0;obtain⟨b,l',rfl,hA,hm,hg⟩:=a0;exact⟨b,⟨#[]⟩,rfl,rL N l' m w1 hA hm,.inr ⟨l',m,rfl,hA,hm,hg,hR.symm⟩⟩
  |ok q r=>
   rw[ho]at hR a0;obtain⟨b,rfl,hq,hA,hg⟩:=a0;have b8:=HI.out.less hA (a2.out l q r ho).1;exact⟨b,aW r,rfl,fx N r b8.2.1 w1 hA,.inl ⟨q,r,r.length,rfl,hq,b8,hg,bP _,hR⟩⟩
 obtain⟨b,sv,rfl,b9,d4⟩:=d8;have d0:=ak d4;clear a0 d4;go_wp2_with(go_at_call 130;refine b9.mono ?_;rintro e w2 ⟨rfl,rfl⟩)
 go_loopw [5,6] (fun qv sv w'=>(∃(q:Qy) (b:Nat) (l:List ByteArray) (n:Nat),qv=.pointer (some ⟨b,0,none⟩)/\sv=.string (aW l)/\ir N w' q b/\nH N w' l/\gO N w w'/\l.length<=n/\nV z n q l=R)\/(∃(b:Nat) (l':List ByteArray) (m:Int),qv=.pointer (some ⟨b,0,none⟩)/\sv=.string ⟨#[]⟩/\mJ N w' l' m/\m≠0/\gO N w w'/\R=.bad m)) (fun _ sv w'=>sZ N sv w')
 case atStart=>
  rcases d0.out with⟨q,l,n,rfl,h1,h2,h3,h4,h5⟩|⟨l',m,rfl,h1,h2,h3,h4⟩
  ·exact .inl ⟨q,b,l,n,rfl,rfl,h1,h2,h3,h4,h5⟩
  exact .inr ⟨b,l',m,rfl,rfl,h1,h2,h3,h4⟩
 case round=>
  rcases hrel with⟨q,b,l,n,rfl,rfl,hq,b8,hg,hn,y⟩|⟨b,l',m,rfl,rfl,hA,hm,hg,rfl⟩
  ·have HQ:=ak hq;have B:=ak b8;have e6:=gY b8.1.1;clear hq b8 b9 d0;by_cases I:xp (aW l)
   ·rw[Eg _ _ _ _ I]at y;subst y;clear e6;generalize hs:aW l=s at*;rcases I with e|e|e
    ·have hK:=(eu s ([]:List UInt8)).2 e;clear e hs;go_wp2_with fail
     go_ret;exact⟨b,rfl,HQ.out,B.out.1,hg⟩
    ·have hK:=(eu s [41]).2 e;clear e hs;go_wp2_with fail
     go_ret;exact⟨b,rfl,HQ.out,B.out.1,hg⟩
    have hK:=(eu s [79,82]).2 e;clear e hs;go_wp2_with fail
    go_ret;exact⟨b,rfl,HQ.out,B.out.1,hg⟩
   have e7:=UE B.out.2.2 (fun e=>I (.inl e));obtain⟨s,t,rfl,b9⟩:=eS (l:=l) (fun e=>I (.inl e));obtain⟨n,rfl⟩:∃m,n=m+1:=⟨n-1,by simp at hn;omega⟩;rw[Eh _ _ _ _ I]at y;rw[b9]at I y e7;have s0:s.toList.isEmpty=false:=by rw[yK];simpa using fun e=>I (.inl e)
   have s1:=jC (s:=s) (k:=[41]) (fun e=>I (.inr (.inl e)));have s2:=jC (s:=s) (k:=[79,82]) (fun e=>I (.inr (.inr e)));rw[b9];have c0:sZ N (.string s) wr=(s::t).length+1:=by unfold sZ;rw[show pH (.string s)=s.size from rfl,if_neg e7,e6]
   by_cases c1:s=f_
   ·subst c1;rw[if_pos (rfl:f_=f_)]at y;have a3:=cQ N ⟨#[78,79,84]⟩ t B.out.2.1 _ B.out.1;have hK:=(eu f_ [78,79,84]).2 rfl;have e1:z (if f_=f_\/f_=iC then(f_::t).tail else f_::t)=z (t):=by rw[if_pos (.inl rfl)];rfl
    rw[e1]at y;cases O:z (t)with
    |bad m=>
     rw[O]at y;have Q:=ak O;subst y;clear O e1 I;go_wp2_with(first|(go_at_call_of 75 (ae ⟨#[78,79,84]⟩);refine a3.mono ?_;rintro e w2 ⟨rfl,PC,J⟩;have GN:=hg.trans J;have H:=B.out.less PC (aU _ t);have QC:=ir.fL J q b HQ.out;clear J))
     refine(Z.out _ _ H).mono ?_;rw[Q.out];rintro e G ⟨b2,l2,rfl,a4,a5,L⟩;have D:Gr G (G.alloc (.cells #[.int .i64 6,.slice none 0 0,.pointer (some ⟨b,0,none⟩),.pointer (some ⟨b2,0,none⟩)] 123)):=(Gr.refl G).alloc _;have M:=(GN.trans L).trans (ag.ah D);have a6:=a4.gr D;have a7:=ak a6;clear a4 a6 D;go_wp2_with(go_at_call 130;refine(rL N l2 m _ a7.out a5).mono ?_;rintro e w5 ⟨rfl,rfl⟩)
     refine⟨.inr ⟨G.heap.size,l2,m,rfl,rfl,a7.out,a5,M,rfl⟩,?_⟩;rw[c0,show∀W,sZ N (.string ⟨#[]⟩) W=0 from fun W=>if_pos rfl];exact cj _
    |ok q2 r=>
     rw[O]at y;have Q:=ak O;have S:=a2.out _ q2 r O;have c5:=ak y;clear O e1 I y;go_wp2_with(first|(go_at_call_of 75 (ae ⟨#[78,79,84]⟩);refine a3.mono ?_;rintro e w2 ⟨rfl,PC,J⟩;have GN:=hg.trans J;have H:=B.out.less PC (aU _ t);have QC:=ir.fL J q b HQ.out;clear J))
     refine(Z.out _ _ H).mono ?_;rw[Q.out];rintro e G ⟨b2,rfl,a8,a9,L⟩;have M:=GN.trans L;have c6:=ir.fL L q b QC;have U:=H.less a9 S.1;have c7:N<G.heap.size:=ap e0 M.2.2.2.1;have b0:=sV 6 c6 a8 c7 123;have D:Gr G (G.alloc (.cells #[.int .i64 6,.slice none 0 0,.pointer (some ⟨b,0,none⟩),.pointer (some ⟨b2,0,none⟩)] 123)):=(Gr.refl G).alloc _;have V:=U.less (U.1.gr D) (az r);have c8:=gY V.1.1;have b1:=S.2;have c9:=ak b0;have Y:=ak V;clear b0 S a8 a9 U H V;go_wp2_with(go_at_call 130;refine(fx N r Y.out.2.1 _ Y.out.1).mono ?_;rintro e w5 ⟨rfl,rfl⟩)
     refine⟨.inl ⟨_,G.heap.size,r,n,rfl,rfl,c9.out,Y.out,M.trans (ag.ah D),by simp at hn b1;omega,c5.out⟩,?_⟩;have e8:r.length<=t.length:=by first|omega|(simp only[aV]at b1;omega)
     rw[c0];unfold sZ;rw[c8,aV]
     split<;>omega
   rw[if_neg c1]at y;by_cases d1:s=iC
   ·subst d1;have a3:=gX N _ ⟨#[78,79,84]⟩ B.out.2.1 _ B.out.1 (by show iC≠_;decide);have b4:=cQ N ⟨#[65,78,68]⟩ t B.out.2.1 _ B.out.1;have e1:z (if iC=f_\/iC=iC then(iC::t).tail else iC::t)=z (t):=by rw[if_pos (.inr rfl)];rfl
    rw[e1]at y;cases O:z (t)with
    |bad m=>
     rw[O]at y;have Q:=ak O;subst y;clear O e1 I;go_wp2_with(first|(go_at_call_of 75 (ae ⟨#[78,79,84]⟩);refine a3.mono ?_;rintro e w2 ⟨rfl,rfl⟩)|(go_at_call_of 75 (ae ⟨#[65,78,68]⟩);refine b4.mono ?_;rintro e w2 ⟨rfl,PC,J⟩;have GN:=hg.trans J;have H:=B.out.less PC (aU _ t);have QC:=ir.fL J q b HQ.out;clear J))
     refine(Z.out _ _ H).mono ?_;rw[Q.out];rintro e G ⟨b2,l2,rfl,a4,a5,L⟩;have D:Gr G (G.alloc (.cells #[.int .i64 4,.slice none 0 0,.pointer (some ⟨b,0,none⟩),.pointer (some ⟨b2,0,none⟩)] 123)):=(Gr.refl G).alloc _;have M:=(GN.trans L).trans (ag.ah D);have a6:=a4.gr D;have a7:=ak a6;clear a4 a6 D;go_wp2_with(go_at_call 130;refine(rL N l2 m _ a7.out a5).mono ?_;rintro e w5 ⟨rfl,rfl⟩)
     refine⟨.inr ⟨G.heap.size,l2,m,rfl,rfl,a7.out,a5,M,rfl⟩,?_⟩;rw[c0,show∀W,sZ N (.string ⟨#[]⟩) W=0 from fun W=>if_pos rfl];exact cj _
    |ok q2 r=>
     rw[O]at y;have Q:=ak O;have S:=a2.out _ q2 r O;have c5:=ak y;clear O e1 I y;go_wp2_with(first|(go_at_call_of 75 (ae ⟨#[78,79,84]⟩);refine a3.mono ?_;rintro e w2 ⟨rfl,rfl⟩)|(go_at_call_of 75 (ae ⟨#[65,78,68]⟩);refine b4.mono ?_;rintro e w2 ⟨rfl,PC,J⟩;have GN:=hg.trans J;have H:=B.out.less PC (aU _ t);have QC:=ir.fL J q b HQ.out;clear J))
     refine(Z.out _ _ H).mono ?_;rw[Q.out];rintro e G ⟨b2,rfl,a8,a9,L⟩;have M:=GN.trans L;have c6:=ir.fL L q b QC;have U:=H.less a9 S.1;have c7:N<G.heap.size:=ap e0 M.2.2.2.1;have b0:=sV 4 c6 a8 c7 123;have D:Gr G (G.alloc (.cells #[.int .i64 4,.slice none 0 0,.pointer (some ⟨b,0,none⟩),.pointer (some ⟨b2,0,none⟩)] 123)):=(Gr.refl G).alloc _;have V:=U.less (U.1.gr D) (az r);have c8:=gY V.1.1;have b1:=S.2;have c9:=ak b0;have Y:=ak V;clear b0 S a8 a9 U H V;go_wp2_with(go_at_call 130;refine(fx N r Y.out.2.1 _ Y.out.1).mono ?_;rintro e w5 ⟨rfl,rfl⟩)
     refine⟨.inl ⟨_,G.heap.size,r,n,rfl,rfl,c9.out,Y.out,M.trans (ag.ah D),by simp at hn b1;omega,c5.out⟩,?_⟩;have e8:r.length<=t.length:=by first|omega|(simp only[aV]at b1;omega)
     rw[c0];unfold sZ;rw[c8,aV]
     split<;>omega
   have g7:¬(s=f_\/s=iC):=fun h=>h.elim c1 d1;have a3:=gX N _ ⟨#[78,79,84]⟩ B.out.2.1 _ B.out.1 (fun e=>c1 e);have b4:=gX N _ ⟨#[65,78,68]⟩ B.out.2.1 _ B.out.1 (fun e=>d1 e);have e1:z (if s=f_\/s=iC then(s::t).tail else s::t)=z (s::t):=by rw[if_neg g7]
   rw[e1]at y;cases O:z (s::t)with
   |bad m=>
    rw[O]at y;have Q:=ak O;subst y;clear O e1 I;go_wp2_with(first|(go_at_call_of 75 (ae ⟨#[78,79,84]⟩);refine a3.mono ?_;rintro e w2 ⟨rfl,rfl⟩)|(go_at_call_of 75 (ae ⟨#[65,78,68]⟩);refine b4.mono ?_;rintro e w2 ⟨rfl,rfl⟩;have GN:=hg;have H:=B.out;have QC:=HQ.out))
    refine(Z.out _ _ H).mono ?_;rw[Q.out];rintro e G ⟨b2,l2,rfl,a4,a5,L⟩;have D:Gr G (G.alloc (.cells #[.int .i64 4,.slice none 0 0,.pointer (some ⟨b,0,none⟩),.pointer (some ⟨b2,0,none⟩)] 123)):=(Gr.refl G).alloc _;have M:=(GN.trans L).trans (ag.ah D);have a6:=a4.gr D;have a7:=ak a6;clear a4 a6 D;go_wp2_with(go_at_call 130;refine(rL N l2 m _ a7.out a5).mono ?_;rintro e w5 ⟨rfl,rfl⟩)
    refine⟨.inr ⟨G.heap.size,l2,m,rfl,rfl,a7.out,a5,M,rfl⟩,?_⟩;rw[c0,show∀W,sZ N (.string ⟨#[]⟩) W=0 from fun W=>if_pos rfl];exact cj _
   |ok q2 r=>
    rw[O]at y;have Q:=ak O;have S:=a2.out _ q2 r O;have c5:=ak y;clear O e1 I y;go_wp2_with(first|(go_at_call_of 75 (ae ⟨#[78,79,84]⟩);refine a3.mono ?_;rintro e w2 ⟨rfl,rfl⟩)|(go_at_call_of 75 (ae ⟨#[65,78,68]⟩);refine b4.mono ?_;rintro e w2 ⟨rfl,rfl⟩;have GN:=hg;have H:=B.out;have QC:=HQ.out))
    refine(Z.out _ _ H).mono ?_;rw[Q.out];rintro e G ⟨b2,rfl,a8,a9,L⟩;have M:=GN.trans L;have c6:=ir.fL L q b QC;have U:=H.less a9 S.1;have c7:N<G.heap.size:=ap e0 M.2.2.2.1;have b0:=sV 4 c6 a8 c7 123;have D:Gr G (G.alloc (.cells #[.int .i64 4,.slice none 0 0,.pointer (some ⟨b,0,none⟩),.pointer (some ⟨b2,0,none⟩)] 123)):=(Gr.refl G).alloc _;have V:=U.less (U.1.gr D) (az r);have c8:=gY V.1.1;have b1:=S.2;have c9:=ak b0;have Y:=ak V;clear b0 S a8 a9 U H V;go_wp2_with(go_at_call 130;refine(fx N r Y.out.2.1 _ Y.out.1).mono ?_;rintro e w5 ⟨rfl,rfl⟩)
    refine⟨.inl ⟨_,G.heap.size,r,n,rfl,rfl,c9.out,Y.out,M.trans (ag.ah D),by simp at hn b1;omega,c5.out⟩,?_⟩;have e8:r.length<=t.length:=by first|omega|(simp only[aV]at b1;omega)
    rw[c0];unfold sZ;rw[c8,aV]
    split<;>omega
  clear b9 d0;go_wp2_with fail
  go_ret;exact⟨b,l',rfl,hA,hm,hg⟩
theorem R9(n:Int)(W:aQ):(Instr.typeAssert (.iface 75 (.agg #[.int .i64 n])) 20 75 true).run prog W=.ok (.tuple #[.agg #[.int .i64 n],.bool true]) W:=by kernel_rfl
theorem qP(b q:Nat)(x1 x2:dD)(n:Int)(y:List PanicEntry)(w:aQ)(I:w.cell? ⟨b,0,none⟩=some x1)(S:w.frozen? ⟨b,0,none⟩=false)(J:w.cell? ⟨q,0,none⟩=some x2)(U:w.frozen? ⟨q,0,none⟩=false)(a3:b≠q):
  CallsD prog 30 #[.pointer (some ⟨b,0,none⟩),.pointer (some ⟨q,0,none⟩)] (.panicking ({v:=.iface 75 (.agg #[.int .i64 n]),recovered:=false}::y)) w fun e u' L=>
   e=.returned (.tuple #[])/\u'=.panicking ({v:=.iface 75 (.agg #[.int .i64 n]),recovered:=true}::y)/\L.cell? ⟨b,0,none⟩=some (.pointer none)/\L.cell? ⟨q,0,none⟩=some (.iface 24 (.int .i64 n))/\ag (fun i=>i=b\/i=q) w L:=by
 have M:=ad I;have O:=ad J;refine di func30 rfl fun G cs hu=>?_;apply bZ;apply bM;simp[da,go_sem,recoverD,hu,ntmps30,bC];apply bZ;apply bM;simp[da,go_sem,bC,cL];refine dF (t:=true) (by simp[dJ]) ?_;simp only[if_true];apply bZ;apply bM;simp[da,go_sem,bC,R9];apply bZ;apply bZ;apply bM;simp[da,go_sem,bC];refine dF (t:=false) (by simp[dJ]) ?_;simp only[cf,if_false];refine dr (wp_skip ?_);simp only[bC];refine dr ?_;have s:Gr w (w.alloc (.cells #[.int .i64 n] 75)):=(Gr.refl w).alloc _;have c0:(w.alloc (.cells #[.int .i64 n] 75)).cell? ⟨w.heap.size,0,none⟩=some (.int .i64 n):=by rw[be];rfl
 have V:=s.keeps I;have Y:=s.keeps J;have f1:=(s.frozen 0 M).trans S;have f2:=(s.frozen 0 O).trans U;have z:(⟨b,0,none⟩:Addr)≠⟨q,0,none⟩:=by simp
 have B:(⟨q,0,none⟩:Addr)≠⟨b,0,none⟩:=by simp
 have Z:=ak s;have Q:w.heap.size≠b:=by omega
 have H:w.heap.size≠q:=by omega
 clear I J S U s;generalize w.alloc (.cells #[.int .i64 n] 75)=D at*;generalize w.heap.size=A at*;go_region
 have e1:((D.setCell ⟨b,0,none⟩ (.pointer none)).setCell ⟨q,0,none⟩ (.iface 24 (.int .i64 n))).drew.cell? ⟨b,0,none⟩=some (.pointer none):=
  (aJ _ _ _ _ B).trans (bc _ _ _ V)
 have e2:((D.setCell ⟨b,0,none⟩ (.pointer none)).setCell ⟨q,0,none⟩ (.iface 24 (.int .i64 n))).drew.cell? ⟨q,0,none⟩=some (.iface 24 (.int .i64 n)):=
  bc _ _ _ ((aJ _ _ _ _ z).trans Y)
 have e3:ag (fun i=>i=b\/i=q) w ((D.setCell ⟨b,0,none⟩ (.pointer none)).setCell ⟨q,0,none⟩ (.iface 24 (.int .i64 n))).drew:=
  (((ag.ah Z.out).trans (ag.setCell _ _ (.inl rfl))).trans (ag.setCell _ _ (.inr rfl))).trans (ag.drew _)
 generalize((D.setCell ⟨b,0,none⟩ (.pointer none)).setCell ⟨q,0,none⟩ (.iface 24 (.int .i64 n))).drew=W2 at*;clear V Y f1 f2 c0 Z z B Q H;cases G;simp_all [bodyPostS,cl,de]
theorem L9(p1 p2:Addr)(w:aQ):
  CallsD prog 30 #[.pointer (some p1),.pointer (some p2)] .returning w fun e q s=>e=.returned (.tuple #[])/\q=.returning/\s=w:=by
 refine di func30 rfl fun b y hu=>?_;apply bZ;apply bM;simp[da,go_sem,recoverD,hu,ntmps30,bC];apply bZ;apply bM;simp[da,go_sem,bC,cL];refine dF (t:=false) (by simp[dJ]) ?_;simp only[cf,if_false];refine dr (wp_skip ?_);cases b;simp_all [bodyPostS,cl,de]
theorem Ek:∀(n:Nat) (l:List UInt8) (b:List ByteArray),c_ n l=some b->b.length<=l.length/\∀p∈b,p.size<=l.length:=by
 intro n
 induction n with
 |zero=>
  intro l b h;cases l with
  |nil=>simp only[c_,co]at h;subst h;simp
  |cons c r=>simp[c_]at h
 |succ n B=>
  intro l b h;cases l with
  |nil=>simp only[c_,co]at h;subst h;simp
  |cons c r=>
   have step:∀(x:List UInt8) (y:List UInt8) (b:List ByteArray),x.length>=1->x.length+y.length<=(c::r).length->(c_ n y).map (je x::·)=some b->b.length<=(c::r).length/\∀p∈b,p.size<=(c::r).length:=by
    intro x y b L I h;simp only[Option.map_eq_some_iff]at h;obtain⟨D,G,rfl⟩:=h;obtain⟨H,s⟩:=B y D G;refine⟨by simp only[aV]at*;omega,fun p q=>?_⟩;rcases List.mem_cons.1 q with rfl|q
    ·rw[size_data,gu];omega
    have:=s p q;omega
   simp only[c_]at h
   split at h
   ·obtain⟨H,s⟩:=B r b h;exact⟨by simp only[aV];omega,fun p q=>by have:=s p q;simp only[aV];omega⟩
   split at h
   ·split at h
    ·cases h
    refine step (c::r.takeWhile (·!=34)) _ b (by simp) ?_ h;rename_i z
    obtain⟨J,_⟩:=Jw (·!=34) r (by simpa using z);simp only[aV,List.length_drop];omega
   split at h
   ·exact step [c] r b (by simp) (by simp;omega) h
   rename_i hs
   refine step ((c::r).takeWhile (fun x=>!cu x)) _ b ?_ ?_ h
   ·have:cu c=false:=by simpa using hs
    simp[this]
   have:=congrArg List.length (List.takeWhile_append_dropWhile (p:=fun x=>!cu x) (l:=c::r));rw[List.length_append]at this;omega
theorem iN.R_{S:Nat->Prop}{N:Nat}{w w':aQ}{v:dD}{ws:List ByteArray}(h:iN N w v ws)(g:ag S w w')(hS:∀i,S i->i<=N):iN N w' v ws:=by
 obtain⟨s,c,b,y,q,z⟩:=h;exact⟨s,c,b,y,q,fun i hi=>g.keeps (fun e=>by have:=hS b e;have:=(q (by omega)).2;omega) (z i hi)⟩
theorem gv.R_{S:Nat->Prop}{N:Nat}{w w':aQ}(g:ag S w w')(hS:∀i,S i->i<=N):∀(q:Qy) (b:Nat),gv N w q b->gv N w' q b
 | .leaf kind ws bg,b,⟨y,z,⟨v,B,D⟩,G,H,I⟩=>
  have s:¬S b:=fun e=>by have:=hS b e;omega
  ⟨y,g.keeps s z,⟨v,g.keeps s B,D.R_ g hS⟩,g.keeps s G,g.keeps s H,g.keeps s I⟩
 | .node kind l r,b,⟨y,z,B,D,J,L,G,H,I,M⟩=>
  have s:¬S b:=fun e=>by have:=hS b e;omega
  ⟨y,g.keeps s z,g.keeps s B,g.keeps s D,J,L,g.keeps s G,g.keeps s H,gv.R_ g hS l J I,gv.R_ g hS r L M⟩
theorem UF{w:aQ}{B:Nat}{v:dD}{ws:List ByteArray}(h:iB w B v ws)(T:TypeId):oy w.heap.size (w.alloc (.cells #[v] T)) ws:=by
 obtain⟨z,c,b,s,D,y⟩:=fk h;have hc:ws.length<=c:=by
  rcases h.2 with⟨e,I⟩|⟨g,cap,H,e,_,J,hn,_⟩
  ·omega
  rw[s]at e;cases e;exact hn
 have G:0<ws.length->b<w.heap.size:=fun q=>ad (y 0 q);refine⟨z,c,b,0,by rw[be,<-s];rfl,hc,D,fun q=>by have:=G q;omega,fun i hi=>((Gr.refl w).alloc _).keeps (y i hi),?_⟩;simp
theorem Sa(w:aQ)(o:Obj):(w.alloc o).heap[w.heap.size]?=some o:=by
 show(w.heap.push o)[w.heap.size]?=some o;simp
theorem oy.Wb{N B:Nat}{w:aQ}{r:List ByteArray}{v:dD}{T:TypeId}(h:oy N w r)(z:w.heap[B]?=some (.cells #[.pointer none] T (0,0)))(O:B≠N):oy N (w.setCell ⟨B,0,none⟩ v) r:=by
 obtain⟨D,c,b,s,G,H,I,J,L,M⟩:=h;refine⟨D,c,b,s,(aJ _ _ _ _ (by simp)).trans G,H,I,J,fun i hi=>?_,by rw[bB];exact M⟩;have q:=L i hi;have Q:B≠b:=by
  intro e;subst e;rw[World.cell?]at q;simp only[z]at q;rcases Nat.eq_zero_or_pos (s+i)with y|y
  ·rw[y]at q;simp at q
  rw[Array.getElem?_eq_none (by simp;omega)]at q;cases q
 exact(aJ _ _ _ _ (by simp)).trans q
def OS(w:aQ)(r:Option Qy×Int)(e:Ending)(w':aQ):Prop:=
 match r with
 |(some q,_)=>∃N b,e=.returned (.tuple #[.pointer (some ⟨b,0,none⟩),.nilIface])/\gv N w' q b/\Gr w w'
 |(none,n)=>e=.returned (.tuple #[.pointer none,.iface 24 (.int .i64 n)])/\Gr w w'
theorem UG(s:ByteArray)(hs:s.size<=1000)(w:aQ)(he:fP w):aS prog 7 #[.string s] w (OS w (wj s)):=by
 have g9:∀(fn:Fn) (first cap:Array dD) (w:aQ),(Instr.makeFunc fn first cap).run prog w=.ok (.func fn first cap) w:=fun _ _ _ _=>rfl;have hcut:=Xo s hs;have a9:Gr w ((w.alloc (.cells #[.pointer none] 27)).alloc (.cells #[.nilIface] 29)):=((Gr.refl w).alloc _).alloc _;have b0:Gr (w.alloc (.cells #[.pointer none] 27)) ((w.alloc (.cells #[.pointer none] 27)).alloc (.cells #[.nilIface] 29)):=(Gr.refl _).alloc _;have b1:((w.alloc (.cells #[.pointer none] 27)).alloc (.cells #[.nilIface] 29)).heap[w.heap.size]?=some (.cells #[.pointer none] 27 (0,0)):=(b0.block _ (by simp)).trans (Sa w _);have c1:((w.alloc (.cells #[.pointer none] 27)).alloc (.cells #[.nilIface] 29)).cell? ⟨w.heap.size,0,none⟩=some (.pointer none):=b0.keeps (by rw[be];rfl);have c2:((w.alloc (.cells #[.pointer none] 27)).alloc (.cells #[.nilIface] 29)).cell? ⟨w.heap.size+1,0,none⟩=some .nilIface:=by
  have:=be (w:=w.alloc (.cells #[.pointer none] 27)) #[.nilIface] 29 0;rw[show(w.alloc (.cells #[.pointer none] 27)).heap.size=w.heap.size+1 by simp]at this;exact this
 have f1:((w.alloc (.cells #[.pointer none] 27)).alloc (.cells #[.nilIface] 29)).frozen? ⟨w.heap.size,0,none⟩=false:=by simp
 have f2:((w.alloc (.cells #[.pointer none] 27)).alloc (.cells #[.nilIface] 29)).frozen? ⟨w.heap.size+1,0,none⟩=false:=by simp
 have e3:=ad c2;have c6:=he.gr a9;have e4:=ak b1;have HE:=ak c6;have b2:w.heap.size≠w.heap.size+1:=by omega
 generalize a6:wj s=R;have a7:=ak a6;clear b1 he c6 b0 a6;have a8:=ak hcut;clear hcut;have h0:w.heap.size<=w.heap.size:=bP _;go_enter_defers func7,ntmps7
 go_wp2_with fail
 generalize(w.alloc (.cells #[.pointer none] 27)).alloc (.cells #[.nilIface] 29)=W2 at*;generalize hB:w.heap.size=B at*;cases hc:c_ s.size s.data.toList with
 |none=>
  have G:=a7.out;unfold wj at G;rw[hc]at G;subst G;refine(a8.out W2).mono ?_;rw[hc];rintro e U ⟨rfl,H⟩;have I:=H.keeps c1;have J:=H.keeps c2;have O:=(H.frozen 0 (ad c1)).trans f1;have Q:=(H.frozen 0 (ad c2)).trans f2;have y:=a9.trans H;unfold dI;go_wp2_with fail
  refine bW (f:=30) (args:=#[.pointer (some ⟨B,0,none⟩),.pointer (some ⟨B+1,0,none⟩)]) (by simp) (by simp[go_sem]) ?_;refine(qP B (B+1) _ _ 3 [] _ I O J Q b2).mono ?_;rintro e u' b3 ⟨rfl,rfl,r1,r2,z⟩;have L:=z.gr y (fun i hi=>by rcases hi with rfl|rfl<;>omega);clear I J O Q z y;simp[dQ,dS,cl,bQ,go_sem,r1,r2];exact⟨rfl,L⟩
 |some ps=>
  have G:=a7.out;unfold wj at G;rw[hc]at G
  change (match uL 13 ps with| .bad n=>(none,n)| .ok q r=>if r=[]then(some q,0)else(none,3))=R at G;obtain⟨c7,b4⟩:=Ek _ _ _ hc;have c8:=PM _ _ _ hc;rw[<-size_data]at c7 b4;have a1:=ak G;clear G;refine(a8.out W2).mono ?_;rw[hc];rintro e U ⟨v,rfl,Z,H⟩;obtain⟨ao,cc,bb,rfl,_,_⟩:=fk Z;have c9:=UF Z 80;have b5:Gr U (U.alloc (.cells #[.slice ao ps.length cc] 80)):=(Gr.refl U).alloc _;have e5:0≠U.heap.size:=Nat.ne_of_lt (HE.out.gr H).lt;have b6:oB U.heap.size (U.alloc (.cells #[.slice ao ps.length cc] 80)) ps:=⟨c9,by omega,fun p hp=>⟨c8 p hp,by have:=b4 p hp;omega⟩,(HE.out.gr H).gr b5,e5⟩;have M:=H.trans b5;have hN:B+1<U.heap.size:=ap e3 H.size;have I:=M.keeps c1;have J:=M.keeps c2;have O:=(M.frozen 0 (ad c1)).trans f1;have Q:=(M.frozen 0 (ad c2)).trans f2;have kb:=(M.block _ (ad c1)).trans e4.out;have d0:=a9.trans M;have d1:=Xv U.heap.size 13 0 rfl ps _ b6;rw[show((0:Nat):Int)=0 from rfl]at d1;have c4:=xq 13 ps;have d2:=ak b6;have e6:=ak kb;clear hc c7 b4 c8 c9 Z b5 b6 kb c1 c2 f1 f2 H M;go_wp2_with fail
  generalize U.alloc (.cells #[.slice ao ps.length cc] 80)=w4 at*;generalize U.heap.size=N at*;refine d1.mono ?_;cases hA:uL 13 ps with
  |bad n=>
   rintro e V ⟨rfl,D⟩;have G:=a1.out;rw[hA]at G
   change (none,n)=R at G;subst G;have O:=(D.frozen 0 (ad I) (show¬B=N by omega)).trans O;have Q:=(D.frozen 0 (ad J) (show¬B+1=N by omega)).trans Q;have I:=D.keeps (show¬B=N by omega) I;have J:=D.keeps (show¬B+1=N by omega) J;have y:=D.gr d0 (fun i hi=>by rw[hi];omega);unfold dI;go_wp2_with fail
   refine bW (f:=30) (args:=#[.pointer (some ⟨B,0,none⟩),.pointer (some ⟨B+1,0,none⟩)]) (by simp) (by simp[go_sem]) ?_;refine(qP B (B+1) _ _ n [] _ I O J Q b2).mono ?_;rintro e u' b3 ⟨rfl,rfl,r1,r2,z⟩;have L:=z.gr y (fun i hi=>by rcases hi with rfl|rfl<;>omega);clear I J O Q z y;simp[dQ,dS,cl,bQ,go_sem,r1,r2];exact⟨rfl,L⟩
  |ok q r=>
   rintro e V ⟨b,rfl,e7,b7,D⟩;have G:=a1.out;rw[hA]at G
   change (if r=[]then(some q,0)else(none,3))=R at G;have O:=(D.frozen 0 (ad I) (show¬B=N by omega)).trans O;have Q:=(D.frozen 0 (ad J) (show¬B+1=N by omega)).trans Q;have b8:=(D.block (ad I) (show¬B=N by omega)).trans e6.out;have I:=D.keeps (show¬B=N by omega) I;have J:=D.keeps (show¬B+1=N by omega) J;have y:=D.gr d0 (fun i hi=>by rw[hi];omega);have a2:=c4 q r hA;have b9:r.length<=1000:=ch a2.1.length_le d2.out.2.1;have c0:=fun v=>oy.Wb (v:=v) b7 b8 (show B≠N by omega);have a3:=gJ N r b9 _ (c0 (.pointer (some ⟨b,0,none⟩)));have HQ:=ak e7;have c3:=ag.setCell (S:=fun i=>i=B) V (p:=⟨B,0,none⟩) (.pointer (some ⟨b,0,none⟩)) rfl;by_cases Y:r=[]
   ·rw[if_pos Y]at G;subst G Y;clear a2 b9 c0 b7 b8 hA a1;go_wp2_with(go_at_call 33;refine a3.mono ?_;rintro e w6 ⟨rfl,rfl⟩;rw[show aW []=⟨#[]⟩from rfl])
    have d3:(⟨B,0,none⟩:Addr)≠⟨B+1,0,none⟩:=by simp
    have e8:(⟨B+1,0,none⟩:Addr)≠⟨B,0,none⟩:=by simp
    have r1:(((V.setCell ⟨B,0,none⟩ (.pointer (some ⟨b,0,none⟩))).setCell ⟨B,0,none⟩ (.pointer (some ⟨b,0,none⟩))).setCell ⟨B+1,0,none⟩ .nilIface).cell? ⟨B,0,none⟩=some (.pointer (some ⟨b,0,none⟩)):=
     (aJ _ _ _ _ e8).trans (bc _ _ _ (bc _ _ _ I))
    have r2:(((V.setCell ⟨B,0,none⟩ (.pointer (some ⟨b,0,none⟩))).setCell ⟨B,0,none⟩ (.pointer (some ⟨b,0,none⟩))).setCell ⟨B+1,0,none⟩ .nilIface).cell? ⟨B+1,0,none⟩=some .nilIface:=
     bc _ _ _ ((aJ _ _ _ _ d3).trans ((aJ _ _ _ _ d3).trans J))
    have z:ag (fun i=>i=B\/i=B+1) V (((V.setCell ⟨B,0,none⟩ (.pointer (some ⟨b,0,none⟩))).setCell ⟨B,0,none⟩ (.pointer (some ⟨b,0,none⟩))).setCell ⟨B+1,0,none⟩ .nilIface):=
     ((ag.setCell _ _ (.inl rfl)).trans (ag.setCell _ _ (.inl rfl))).trans (ag.setCell _ _ (.inr rfl))
    generalize(((V.setCell ⟨B,0,none⟩ (.pointer (some ⟨b,0,none⟩))).setCell ⟨B,0,none⟩ (.pointer (some ⟨b,0,none⟩))).setCell ⟨B+1,0,none⟩ .nilIface)=WF at*;refine bW (f:=30) (args:=#[.pointer (some ⟨B,0,none⟩),.pointer (some ⟨B+1,0,none⟩)]) (by simp) (by simp[go_sem]) ?_;refine(L9 ⟨B,0,none⟩ ⟨B+1,0,none⟩ _).mono ?_;rintro e u' b3 ⟨rfl,rfl,rfl⟩;have L:=z.gr y (fun i hi=>by rcases hi with rfl|rfl<;>omega);have d4:=gv.R_ z (fun i hi=>by rcases hi with rfl|rfl<;>omega) q b HQ.out;have e9:=ak d4;clear I J O Q z y d4 c3 a3;simp[dQ,dS,cl,bQ,go_sem,r1,r2];exact⟨N,b,rfl,e9.out,L⟩
   rw[if_neg Y]at G;subst G;obtain⟨a,r',rfl⟩:∃a r',r=a::r':=by
    cases r with
    |nil=>exact absurd rfl Y
    |cons a r'=>exact⟨a,r',rfl⟩
   obtain⟨h1,h2,d5,_⟩:=(d2.out.2.2.1 a (a2.1.subset (by simp))).1;have h3:a.toList.isEmpty=false:=by rw[aX,d5];rfl
   have d6:=bc V ⟨B,0,none⟩ (.pointer (some ⟨b,0,none⟩)) I;have d7:=(aJ V ⟨B,0,none⟩ ⟨B+1,0,none⟩ (.pointer (some ⟨b,0,none⟩)) (by simp)).trans J;have d8:(V.setCell ⟨B,0,none⟩ (.pointer (some ⟨b,0,none⟩))).frozen? ⟨B,0,none⟩=false:=by rw[bB];exact O
   have d9:(V.setCell ⟨B,0,none⟩ (.pointer (some ⟨b,0,none⟩))).frozen? ⟨B+1,0,none⟩=false:=by rw[bB];exact Q
   have y:=c3.gr y (fun i hi=>by rw[hi];omega);clear a2 b9 c0 b7 b8 hA a1 d5 Y c3;go_wp2_with(first|(go_at_call 33;refine a3.mono ?_;rintro e w6 ⟨rfl,rfl⟩;rw[show aW (a::r')=a from rfl])|(go_at_call 34;refine(lV 3 _).mono ?_;rintro e w6 ⟨rfl,rfl⟩;unfold dI))
   clear I J O Q;refine bW (f:=30) (args:=#[.pointer (some ⟨B,0,none⟩),.pointer (some ⟨B+1,0,none⟩)]) (by simp) (by simp[go_sem]) ?_;refine(qP B (B+1) _ _ 3 [] _ d6 d8 d7 d9 b2).mono ?_;rintro e u' b3 ⟨rfl,rfl,r1,r2,z⟩;have L:=z.gr y (fun i hi=>by rcases hi with rfl|rfl<;>omega);clear d6 d7 d8 d9 z y a3;simp[dQ,dS,cl,bQ,go_sem,r1,r2];exact⟨rfl,L⟩
