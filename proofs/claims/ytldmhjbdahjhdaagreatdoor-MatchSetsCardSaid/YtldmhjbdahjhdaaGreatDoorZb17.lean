/-
  Part 17 of the proof.
-/
import Derived.Test.YtldmhjbdahjhdaaGreatDoorZb16
import Derived.Shelf.Strings.SlTrimAscii
open Go.Value renaming string->apA
open List renaming suffix_refl->apB,suffix_cons->apJ,mem_of_getElem?->apP,mem_cons_of_mem->apQ,all_reverse->apS
open Go.Lib renaming hid->apC,containsAny->apK,trimPrefix->apM,hasPrefix->apN,trimS->apR
open Go.World renaming cell?_alloc_new->apD
open Go.Proofs.Tryz renaming prog->apE,ntmps135->apF,func135->apG,ntmps187->apT,func187->apU,ntmps77->apV,ntmps32->apW,func77->apY,func32->apZ
open Nat renaming lt_of_lt_of_le->apH,le_refl->apO
open Go.ByteArray renaming toList_eq->apI
open Bool renaming eq_false_iff->apL
open UInt8 renaming ofNat->apX
set_option maxRecDepth 100000
set_option maxHeartbeats 100000000
set_option linter.all false
namespace Go.Proofs.YtldmhjbdahjhdaaGreatDoor
section
open Go Go.RowKit
theorem oG.rest{N:Nat}{w:World}{a:ByteArray}{t:List ByteArray}(h:oG N w (a::t)):∃(z:Option Addr) (c:Nat) (s:Option Addr) (D:Nat),w.cell? ⟨N,0,none⟩=some (.slice z (t.length+1) c)/\w.frozen? ⟨N,0,none⟩=false/\
  (∀W,(Instr.slice 22 (.slice z (t.length+1) c) (some (.int .i64 1)) none none).run apE W=.ok (.slice s t.length D) W)/\oG N (w.setCell ⟨N,0,none⟩ (.slice s t.length D)) t:=by
 obtain⟨z,c,b,q,B,H,I,J,L,G⟩:=h;obtain rfl:=I (by simp);have y:(a::t).length=t.length+1:=rfl;rw[y]at B H;refine⟨_,c,(if c=1 then some ⟨b,q,none⟩else some ⟨b,q+1,none⟩),c-1,B,G,fun W=>?_,oG.step L (J (by simp)) B G (by omega) fun O=>if_neg (by omega)⟩;have M:=run_slice_l (P:=apE) (w:=W) 22 (some ⟨b,q,none⟩) (t.length+1) c (by kernel_rfl) .i64 1 (by omega) (by omega);refine M.trans ?_;rw[show(Go.sizeOf (apE.elem 22)).run apE W=.ok 1 W by kernel_rfl];simp[Result.andThen,sliced,Addr.add]
theorem jA(s:ByteArray)(k:List UInt8):s.toList=k↔s=iX k:=by
 rw[apI]
 constructor
 ·intro h;exact bz (by rw[fX];exact h)
 ·intro h;rw[h,fX]
theorem J1(s:ByteArray):s.toList.isEmpty=decide (s=gC):=by
 rw[Bool.eq_iff_iff,decide_eq_true_eq,List.isEmpty_iff];exact jA s []
theorem ue{N:Nat}{w:World}{v:Value}{ws:List ByteArray}(kind dT:Int)(hw:jm N w v ws)(b:N<w.heap.size)(T:TypeId):
  eQ N (w.alloc (.cells #[.int .i64 kind,v,.int .i64 dT,.pointer none,.pointer none] T)) (.leaf kind ws dT) w.heap.size:=
 ⟨b,by rw[apD];rfl,⟨v,by rw[apD];rfl,hw.jz (ag.ak ((Gr.refl w).alloc _))⟩,by rw[apD];rfl,by rw[apD];rfl,by rw[apD];rfl⟩
theorem uh{N:Nat}{w:World}{s y:Qy}{b q:Nat}(kind:Int)(z:eQ N w s b)(B:eQ N w y q)(D:N<w.heap.size)(T:TypeId):
  eQ N (w.alloc (.cells #[.int .i64 kind,.slice none 0 0,.int .i64 0,.pointer (some ⟨b,0,none⟩),.pointer (some ⟨q,0,none⟩)] T)) (.node kind s y) w.heap.size:=
 ⟨D,by rw[apD];rfl,by rw[apD];rfl,by rw[apD];rfl,b,q,by rw[apD];rfl,by rw[apD];rfl,eQ.jz (ag.ak ((Gr.refl w).alloc _)) _ _ z,eQ.jz (ag.ak ((Gr.refl w).alloc _)) _ _ B⟩
theorem Cx{N:Nat}{w:World}(a:ByteArray)(b:N<w.heap.size)(T:TypeId):jm N (w.alloc (.cells #[.string a] T)) (.slice (some ⟨w.heap.size,0,none⟩) 1 1) [a]:=by
 refine⟨_,1,w.heap.size,rfl,fun _=>⟨rfl,b,apO _⟩,fun i hi=>?_⟩;obtain rfl:i=0:=by simp at hi;omega
 rw[apD]
 rfl
theorem Mq{N:Nat}{w:World}(a b:ByteArray)(q:N<w.heap.size)(T:TypeId):jm N (w.alloc (.cells #[.string a,.string b] T)) (.slice (some ⟨w.heap.size,0,none⟩) 2 2) [a,b]:=by
 refine⟨_,2,w.heap.size,rfl,fun _=>⟨rfl,q,apO _⟩,fun i hi=>?_⟩;rw[apD];rcases(show i=0\/i=1 by simp at hi;omega)with rfl|rfl<;>rfl
def fW(N:Nat)(w:World)(R:Rd)(e:Ending)(w':World):Prop:=
 match R with
 | .ok q r=>∃b,e=.returned (.pointer (some ⟨b,0,none⟩))/\eQ N w' q b/\oG N w' r/\rM N w w'
 | .bad n=>e=c_ n/\rM N w w'
theorem dO.jz{N:Nat}{w w':World}(h:dO w)(g:rM N w w')(b:0≠N):dO w':=by
 have q:=h.lt;obtain⟨t,s,y⟩:=h;exact⟨t,s,by rw[g.block q b];exact y⟩
def nk(N:Nat)(w:World)(l:List ByteArray):Prop:=oG N w l/\l.length<=1000/\(∀p∈l,AH p/\p.size<=1000)/\dO w/\0≠N
def Cy(w:World)(ws:List ByteArray)(e:Ending)(w':World):Prop:=
 match ws with
 |[a]=>ar w (.string a) e w'
 |_=>e=c_ 3/\Gr w w'
theorem J2(s:ByteArray)(hs:s.size<=1000)(w:World)(G:dO w):Calls apE 187 #[.string s] w (Cy w (aB s)):=by
 have z:=ss s (by omega) w G;generalize aB s=ws at*;have D:ws.length=1\/ws.length≠1:=by omega
 rcases D with H|H
 ·match ws,H with
  |[a],_=>
   clear G;go_enter apU,apT;go_wp2_with fail
   refine z.mono ?_;rintro e J ⟨v,rfl,q,I⟩;obtain⟨L,c,b,rfl,ha,y⟩:=iP q;obtain rfl:=ha (by simp);have hc:=y 0 (by simp);simp only[List.getElem_cons_zero,Nat.add_zero]at hc;clear ha y q;go_wp2_with fail
   go_ret;exact ar.mk rfl I
 ·have B:∀e w',(e=c_ 3/\Gr w w')->Cy w ws e w':=fun e w' h=>by
   match ws,H with
   |[],_=>exact h
   |[a],M=>exact absurd rfl M
   |_::_::_,_=>exact h
  refine Calls.mono (R:=fun e w'=>e=c_ 3/\Gr w w') ?_ B;clear B;have O:(((ws.length:Nat):Int) !=1)=true:=by rw[bne_iff_ne];omega
  clear G;go_enter apU,apT;go_wp2_with fail
  refine z.mono ?_;rintro e J ⟨v,rfl,q,I⟩;obtain⟨L,c,b,rfl,ha,y⟩:=iP q;clear ha y q;go_wp2_with(go_at_call 34;refine(kX 3 _).mono ?_;rintro e Q ⟨rfl,rfl⟩;unfold c_)
  exact⟨rfl,rfl,I⟩
theorem PQ(s:ByteArray)(r:List UInt8)(h:s.data.toList=34::r)(W:World):Calls apE 185 #[.string s,.string ⟨#[34]⟩] W fun e w'=>e=.returned (.tuple #[.string (iX r),.bool true])/\w'=W:=by
 have b:=Tryz.strings_CutPrefix s ⟨#[34]⟩ W;have q:apN s.data.toList (⟨#[34]⟩:ByteArray).data.toList=true:=by rw[h];simp[apN]
 have y:apM s.data.toList (⟨#[34]⟩:ByteArray).data.toList=r:=by rw[h];simp[apM,apN]
 rw[q,y]at b;exact b
theorem oJ(s:ByteArray)(c:UInt8)(r:List UInt8)(h:s.data.toList=c::r)(hc:c≠34)(W:World):Calls apE 185 #[.string s,.string ⟨#[34]⟩] W fun e w'=>e=.returned (.tuple #[.string s,.bool false])/\w'=W:=by
 have b:=Tryz.strings_CutPrefix s ⟨#[34]⟩ W;have q:apN s.data.toList (⟨#[34]⟩:ByteArray).data.toList=false:=by
  rw[h];show((34:UInt8)==c&&([]:List UInt8).isPrefixOf r)=false;rw[show((34:UInt8)==c)=false from by simpa using fun e=>hc (Eq.symm e)]
  rfl
 have y:apM s.data.toList (⟨#[34]⟩:ByteArray).data.toList=s.data.toList:=by
  unfold apM;rw[q]
  rfl
 rw[q,y]at b;exact b
def xm(s:ByteArray):Prop:=s.toList.isEmpty=false/\(s.toList==[41])=false/\(s.toList==[42])=false/\(s.toList==[65,78,68])=false/\(s.toList==[79,82])=false/\(s.toList==[78,79,84])=false/\(s.toList==[78,69,65,82])=false
theorem tD{s:ByteArray}{k:List UInt8}(h:s≠iX k):(s.toList==k)=false:=by
 rw[apL];intro e;exact h ((jA s k).1 (beq_iff_eq.1 e))
theorem R_{s:ByteArray}(h:¬(s=gC\/s=az\/s=kG\/s=fp\/s=k_\/s=ez\/s=nO)):xm s:=by
 simp only[not_or]at h;obtain⟨b,q,y,z,B,D,G⟩:=h;exact⟨by rw[J1];simpa using b,tD q,tD y,tD z,tD B,tD D,tD G⟩
theorem PT(N d:Nat)(hd:12<d)(w:World):Calls apE 135 #[.pointer (some ⟨N,0,none⟩),.int .i64 d] w (fW N w (.bad 4)):=by
 have b:decide ((12:Int)<(d:Int))=true:=by simp;omega
 go_enter apG,apF;go_wp2_with(go_at_call 34;refine(kX 4 _).mono ?_;rintro e q ⟨rfl,rfl⟩;unfold c_)
 exact⟨rfl,rfl,ag.refl _ _⟩
theorem PU(N d:Nat)(hd:d<=12)(l:List ByteArray)(w:World)(h:nk N w l)(hs:aS l=gC\/aS l=az\/aS l=kG\/aS l=fp\/aS l=k_\/aS l=ez\/aS l=nO):
  Calls apE 135 #[.pointer (some ⟨N,0,none⟩),.int .i64 d] w (fW N w (.bad 3)):=by
 obtain⟨z,B,q,D,G⟩:=h;have y:=fO N l B w z;have H:decide ((12:Int)<(d:Int))=false:=by simp;omega
 clear z q D;generalize aS l=s at*;rcases hs with h|h|h|h|h|h|h
 all_goals
  first
  |have b:=(jA s ([]:List UInt8)).2 h
  |have b:=(jA s [41]).2 h
  |have b:=(jA s [42]).2 h
  |have b:=(jA s [65,78,68]).2 h
  |have b:=(jA s [79,82]).2 h
  |have b:=(jA s [78,79,84]).2 h
  |have b:=(jA s [78,69,65,82]).2 h
  clear h;go_enter apG,apF;go_wp2_with(first|(go_at_call 33;refine y.mono ?_;rintro e I ⟨rfl,rfl⟩)|(go_at_call 34;refine(kX 3 _).mono ?_;rintro e J ⟨rfl,rfl⟩;unfold c_))
  exact⟨rfl,rfl,ag.refl _ _⟩
theorem Mr(N d:Nat)(hd:d<=12)(s:ByteArray)(t:List ByteArray)(w:World)(h:nk N w (s::t))(hf:xm s)(ho:s≠aQ)(r:List UInt8)(S:s.data.toList=34::r):
  Calls apE 135 #[.pointer (some ⟨N,0,none⟩),.int .i64 d] w (fW N w (if aB (iX r)=[]then .bad 3 else .ok (.leaf 1 (aB (iX r)) 0) t)):=by
 obtain⟨B,hl,D,hE,hN⟩:=h;have G:=fO N (s::t) hl w B;have V:=dN N (s::t) ⟨#[40]⟩ hl w B ho;have gd:decide ((12:Int)<(d:Int))=false:=by simp;omega
 have b6:=(D s (by simp)).2;obtain⟨ao,c,H,c',p1,p2,p3,p4⟩:=B.rest;have Y:=PQ s r S;have I:rM N w (w.setCell ⟨N,0,none⟩ (.slice H t.length c')):=ag.setCell _ _ rfl;have b7:(iX r).size<=1000:=by
  have:(iX r).size+1=s.size:=by rw[size_data,size_data,S,fX];rfl
  omega
 have J:=ss (iX r) (by omega) _ (hE.jz I hN);have Z:=apC p4;obtain⟨n0,n1,n2,n3,n4,n5,n6⟩:=hf;rw[show aS (s::t)=s from rfl]at G;clear B D hE S p4;generalize aB (iX r)=ws at*;generalize hR:(if ws=[]then Rd.bad 3 else Rd.ok (Qy.leaf 1 ws 0) t)=R;have HR:=apC hR;clear hR;go_enter apG,apF;go_wp2_with(first|(go_at_call 33;refine G.mono ?_;rintro e U ⟨rfl,rfl⟩)|(go_at_call 78;refine V.mono ?_;rintro e U ⟨rfl,rfl⟩)|(go_at_call 185;refine(Y _).mono ?_;rintro e U ⟨rfl,rfl⟩))
 refine J.mono ?_;rintro e y ⟨v,rfl,q,z⟩;have L:N<(U.setCell ⟨N,0,none⟩ (.slice H t.length c')).heap.size:=by
  have:=ad p1;simpa using this
 have M:=Hh q L;obtain⟨a0,c2,b2,rfl,a1,Q⟩:=iP q;have HW:=apC M;have O:=I.trans (ag.ak z);clear a1 Q q M J;by_cases b:ws=[]
 ·have hb:(((ws.length:Nat):Int)==0)=true:=by rw[b];rfl
  have e:=HR.out;rw[if_pos b]at e;subst e;clear b;go_wp2_with(go_at_call 34;refine(kX 3 _).mono ?_;rintro e w6 ⟨rfl,rfl⟩;unfold c_)
  exact⟨rfl,rfl,O⟩
 ·have hb:(((ws.length:Nat):Int)==0)=false:=by
   rw[apL];intro h;have:=beq_iff_eq.1 h;exact b (List.length_eq_zero_iff.1 (by omega))
  have e:=HR.out;rw[if_neg b]at e;subst e;clear b;go_wp2_with fail
  go_ret;have a2:N<y.heap.size:=apH L z.size;have a3:rM N y (y.alloc (.cells #[.int .i64 1,.slice a0 ws.length c2,.int .i64 0,.pointer none,.pointer none] 116)):=ag.ak ((Gr.refl y).alloc _);exact⟨y.heap.size,rfl,ue 1 0 HW.out a2 _,(Z.out.gr z).gr ((Gr.refl y).alloc _),O.trans a3⟩
def pI:List UInt8:=[97,98,99,100,101,102,103,104,105,106,107,108,109,110,111,112,113,114,115,116,117,118,119,120,121,122,48,49,50,51,52,53,54,55,56,57]
theorem Ms(c:UInt8):pI.contains c=lL c:=by
 have h:∀n:Fin 256,pI.contains (apX n.val)=lL (apX n.val):=by decide+kernel
 have:=h ⟨c.toNat,UInt8.toNat_lt c⟩;simpa using this
theorem yA{b:Type}(p:b->Bool)(l:List b):(l.dropWhile p).isEmpty=l.all p:=by
 induction l with
 |nil=>rfl
 |cons a t q=>cases h:p a<;>simp[h,q]
theorem Cz{b:Type}(p:b->Bool)(l:List b):(l.dropWhile p).all p=l.all p:=by
 induction l with
 |nil=>rfl
 |cons a t q=>cases h:p a<;>simp[h,q]
theorem PV(l:List UInt8):(apR l pI).isEmpty=l.all lL:=by
 have b:(fun x=>pI.contains x)=lL:=funext Ms;unfold apR Lib.trimLeftS Lib.trimRightS;rw[b,yA,apS,Cz,apS]
theorem vT{b:ByteArray}(h:AH b):apK b.data.toList [40,41,34,42]=gY (fT b):=by
 obtain⟨c,r,hc,G⟩:=h;have H:fT b=c:=by unfold fT;rw[hc];rfl
 rw[H];have q:∀x:UInt8,[40,41,34,42].contains x=gY x:=by
  intro x;unfold gY;simp only[List.contains_cons,List.contains_nil,Bool.or_false,Bool.or_assoc]
 unfold apK;cases s:gY c
 ·have y:(c::r).all (fun x=>!bt x)=true:=by
   rcases G with h|h
   ·rw[s]at h;cases h
   ·exact h
  rw[Lib.indexAny_none]
  ·decide
  ·intro j x _ z;rw[q,apL];intro B;rw[hc]at z;have D:=List.all_eq_true.1 y x (apP z);have I:bt x=true:=by
    unfold gY at B;unfold bt;simp only[Bool.or_eq_true,beq_iff_eq]at*;rcases B with((h|h)|h)|h
    ·exact .inl (.inl (.inl (.inr h)))
    ·exact .inl (.inl (.inr h))
    ·exact .inl (.inr h)
    ·exact .inr h
   rw[I]at D;cases D
 ·rw[Lib.indexAny_hit (Lib.NoAny.zero _ _) (x:=c) (by rw[hc];rfl) (by rw[q];exact s)]
  rfl
theorem PW(N d:Nat)(hd:d<=12)(s:List ByteArray->Rd)(L:∀l q r,s l=.ok q r->fI r l)(B:∀(l':List ByteArray) (w':World),nk N w' l'->Calls apE 32 #[.pointer (some ⟨N,0,none⟩),.int .i64 ((d:Int)+1)] w' (fW N w' (s l')))
  (t:List ByteArray) (w:World) (h:nk N w (⟨#[40]⟩::t)):
  Calls apE 135 #[.pointer (some ⟨N,0,none⟩),.int .i64 d] w (fW N w (match s t with| .bad n=>.bad n| .ok q r=>if aS r=az then .ok q r.tail else .bad 3)):=by
 obtain⟨hP,hl,M,hE,O⟩:=h;have H:=fO N _ hl w hP;have Q:=iQ N ⟨#[40]⟩ t hl w hP;have gd:decide ((12:Int)<(d:Int))=false:=by simp;omega
 rw[show aS ((⟨#[40]⟩:ByteArray)::t)=⟨#[40]⟩from rfl]at H;have D:=apC B;have S:=apC M;have HE:=apC hE;have U:t.length<=1000:=by simp at hl;omega
 clear B M hE hP;cases hA:s t with
 |bad n=>
  have HA:=apC hA;clear hA;go_enter apG,apF;go_wp2_with(first|(go_at_call 33;refine H.mono ?_;rintro e w1 ⟨rfl,rfl⟩)|(go_at_call 78;refine Q.mono ?_;rintro e w2 ⟨rfl,I,y⟩))
  refine(D.out t _ ⟨I,U,fun p hp=>S.out p (apQ _ hp),HE.out.jz y O,O⟩).mono ?_;rw[HA.out];rintro e w3 ⟨rfl,J⟩;unfold c_;have V:=y.trans J;go_wp2_with fail
  exact⟨rfl,rfl,V⟩
 |ok q r=>
  have HA:=apC hA;have Y:=L t q r hA;have G:r.length<=1000:=by have:=Y.2;omega
  clear hA Y;show Calls _ _ _ _ (fW N w (if aS r=az then Rd.ok q r.tail else Rd.bad 3));generalize hR:(if aS r=az then Rd.ok q r.tail else Rd.bad 3)=R;have HR:=apC hR;clear hR;go_enter apG,apF;go_wp2_with(first|(go_at_call 33;refine H.mono ?_;rintro e w1 ⟨rfl,rfl⟩)|(go_at_call_of 78 (apA ⟨#[40]⟩);refine Q.mono ?_;rintro e w2 ⟨rfl,I,y⟩))
  refine(D.out t _ ⟨I,U,fun p hp=>S.out p (apQ _ hp),HE.out.jz y O,O⟩).mono ?_;rw[HA.out];rintro e w3 ⟨b,rfl,a5,Z,J⟩;have V:=y.trans J;by_cases hs:aS r=az
  ·have e:=HR.out;rw[if_pos hs]at e;subst e;obtain⟨a,r',rfl,ha⟩:=jc (l:=r) (by rw[hs];decide);obtain rfl:a=⟨#[41]⟩:=ha.symm.trans hs;have z:=iQ N ⟨#[41]⟩ r' G _ Z;clear hs ha;go_wp2_with(first|(go_at_call_of 78 (apA ⟨#[41]⟩);refine z.mono ?_;rintro e w4 ⟨rfl,a6,a0⟩))
   go_ret;exact⟨b,rfl,eQ.jz a0 q b a5,a6,V.trans a0⟩
  ·have e:=HR.out;rw[if_neg hs]at e;subst e;have z:=dN N r ⟨#[41]⟩ G _ Z hs;clear hs;go_wp2_with(first|(go_at_call_of 78 (apA ⟨#[41]⟩);refine z.mono ?_;rintro e w4 ⟨rfl,rfl⟩)|(go_at_call 34;refine(kX 3 _).mono ?_;rintro e w6 ⟨rfl,rfl⟩;unfold c_))
   exact⟨rfl,rfl,V⟩
theorem PX(N d:Nat)(hd:d<=12)(s:ByteArray)(t:List ByteArray)(w:World)(h:nk N w (s::⟨#[42]⟩::t))(hf:xm s)(ho:s≠aQ)(c0:UInt8)(r:List UInt8)(hr:s.data.toList=c0::r)(a3:c0≠34):
  Calls apE 135 #[.pointer (some ⟨N,0,none⟩),.int .i64 d] w (fW N w (if(cX s).data.toList.all lL=true/\s.size<=12 then .ok (.leaf 2 [cX s] 0) t else .bad 3)):=by
 obtain⟨V,hl,Y,hE,hN⟩:=h;have L:=fO N _ hl w V;have M:=dN N _ ⟨#[40]⟩ hl w V ho;have gd:decide ((12:Int)<(d:Int))=false:=by simp;omega
 have c2:=(Y s (by simp)).2;obtain⟨ao,c,a4,c',p1,p2,p3,p4⟩:=V.rest;generalize hm:((⟨#[42]⟩:ByteArray)::t).length=m at p1 p3 p4;have O:=oJ s c0 r hr a3;have Q:rM N w (w.setCell ⟨N,0,none⟩ (.slice a4 m c')):=ag.setCell _ _ rfl;have I:=iQ N ⟨#[42]⟩ t (by simp at hl⊢;omega) _ p4;have a5:=ad p1;obtain⟨n0,n1,n2,n3,n4,n5,n6⟩:=hf;rw[show aS (s::(⟨#[42]⟩:ByteArray)::t)=s from rfl]at L;have S:=Io s (by omega);have U:∀W,Calls apE 186 #[.string (cX s),.string ⟨#[97,98,99,100,101,102,103,104,105,106,107,108,109,110,111,112,113,114,115,116,117,118,119,120,121,122,48,49,50,51,52,53,54,55,56,57]⟩] W (ar W (.string (iX (apR (cX s).data.toList pI)))):=fun W=>
  Any.strings_Trim_laid Tryz.Qs (by kernel_rfl) (cX s) ⟨#[97,98,99,100,101,102,103,104,105,106,107,108,109,110,111,112,113,114,115,116,117,118,119,120,121,122,48,49,50,51,52,53,54,55,56,57]⟩ W (by rw[FG];omega) (by decide) (fun j b h=>(by decide:∀b∈pI,b.toNat<128) b (apP h))
 have c3:(iX (apR (cX s).data.toList pI)).toList.isEmpty=(cX s).data.toList.all lL:=by
  rw[apI,fX];exact PV _
 generalize iX (apR (cX s).data.toList pI)=tr at*;generalize hR:(if(cX s).data.toList.all lL=true/\s.size<=12 then Rd.ok (Qy.leaf 2 [cX s] 0) t else Rd.bad 3)=R;have HR:=apC hR;clear hR V Y hE hr p4;generalize(cX s).data.toList.all lL=bb at*;by_cases B:bb=true/\s.size<=12
 ·obtain⟨rfl,a6⟩:=B;have e:=HR.out;rw[if_pos ⟨rfl,a6⟩]at e;subst e;have a7:decide ((12:Int)<(s.size:Int))=false:=by simp;omega
  go_enter apG,apF;go_wp2_with(first|(go_at_call 33;refine L.mono ?_;rintro e J ⟨rfl,rfl⟩)|(go_at_call_of 78 (apA ⟨#[40]⟩);refine M.mono ?_;rintro e J ⟨rfl,rfl⟩)|(go_at_call 185;refine(O _).mono ?_;rintro e J ⟨rfl,rfl⟩)|(go_at_call_of 78 (apA ⟨#[42]⟩);refine I.mono ?_;rintro e w2 ⟨rfl,D,G⟩;have z:=Q.trans G;clear G)|(go_at_call 86;refine(S _).mono ?_;rintro e H ⟨rfl,q⟩;have z:=z.trans (ag.ak q);have D:=D.gr q;clear q)|(go_at_call 186;refine(U _).mono ?_;rintro e w4 ⟨rfl,y⟩;have z:=z.trans (ag.ak y);have D:=D.gr y;clear y))
  go_ret;have a8:N<H.heap.size:=apH a5 z.2.2.2.1;have hq:=ue (N:=N) (w:=H.alloc (.cells #[.string (cX s)] 9)) 2 0 (Cx (cX s) a8 9) (by simp;omega) 116;rw[show(H.alloc (.cells #[.string (cX s)] 9)).heap.size=H.heap.size+1 by simp]at hq;have Z:Gr H ((H.alloc (.cells #[.string (cX s)] 9)).alloc (.cells #[.int .i64 2,.slice (some ⟨H.heap.size,0,none⟩) 1 1,.int .i64 0,.pointer none,.pointer none] 116)):=((Gr.refl H).alloc _).alloc _;exact⟨H.heap.size+1,rfl,hq,D.gr Z,z.trans (ag.ak Z)⟩
 ·have e:=HR.out;rw[if_neg B]at e;subst e;cases bb
  ·clear B;go_enter apG,apF;go_wp2_with(first|(go_at_call 33;refine L.mono ?_;rintro e J ⟨rfl,rfl⟩)|(go_at_call_of 78 (apA ⟨#[40]⟩);refine M.mono ?_;rintro e J ⟨rfl,rfl⟩)|(go_at_call 185;refine(O _).mono ?_;rintro e J ⟨rfl,rfl⟩)|(go_at_call_of 78 (apA ⟨#[42]⟩);refine I.mono ?_;rintro e w2 ⟨rfl,D,G⟩;have z:=Q.trans G;clear G)|(go_at_call 86;refine(S _).mono ?_;rintro e H ⟨rfl,q⟩;have z:=z.trans (ag.ak q);have D:=D.gr q;clear q)|(go_at_call 186;refine(U _).mono ?_;rintro e w4 ⟨rfl,y⟩;have z:=z.trans (ag.ak y);have D:=D.gr y;clear y)|(go_at_call 34;refine(kX 3 _).mono ?_;rintro e w6 ⟨rfl,rfl⟩;unfold c_))
   exact⟨rfl,rfl,z⟩
  ·have a7:decide ((12:Int)<(s.size:Int))=true:=by
    simp only[true_and]at B;simp;omega
   clear B;go_enter apG,apF;go_wp2_with(first|(go_at_call 33;refine L.mono ?_;rintro e J ⟨rfl,rfl⟩)|(go_at_call_of 78 (apA ⟨#[40]⟩);refine M.mono ?_;rintro e J ⟨rfl,rfl⟩)|(go_at_call 185;refine(O _).mono ?_;rintro e J ⟨rfl,rfl⟩)|(go_at_call_of 78 (apA ⟨#[42]⟩);refine I.mono ?_;rintro e w2 ⟨rfl,D,G⟩;have z:=Q.trans G;clear G)|(go_at_call 86;refine(S _).mono ?_;rintro e H ⟨rfl,q⟩;have z:=z.trans (ag.ak q);have D:=D.gr q;clear q)|(go_at_call 186;refine(U _).mono ?_;rintro e w4 ⟨rfl,y⟩;have z:=z.trans (ag.ak y);have D:=D.gr y;clear y)|(go_at_call 34;refine(kX 3 _).mono ?_;rintro e w6 ⟨rfl,rfl⟩;unfold c_))
   exact⟨rfl,rfl,z⟩
theorem lH(s a:ByteArray)(hs:s.size<=1000)(h:aB s=[a])(w:World)(b:dO w):Calls apE 187 #[.string s] w (ar w (.string a)):=by
 have:=J2 s hs w b;rw[h]at this;exact this
theorem CA(s:ByteArray)(hs:s.size<=1000)(h:∀a,aB s≠[a])(w:World)(b:dO w):Calls apE 187 #[.string s] w fun e w'=>e=c_ 3/\Gr w w':=by
 have:=J2 s hs w b;generalize aB s=ws at*
 match ws,h with
 |[],_=>exact this
 |[a],q=>exact absurd rfl (q a)
 |_::_::_,_=>exact this
theorem Mt(N d:Nat)(hd:d<=12)(s:ByteArray)(t:List ByteArray)(w:World)(h:nk N w (s::t))(hf:xm s)(ho:s≠aQ)(H:UInt8)(r:List UInt8)(Z:s.data.toList=H::r)(J:H≠34)(y:aS (t)≠kG)(L:∀a,aB s≠[a]):
  Calls apE 135 #[.pointer (some ⟨N,0,none⟩),.int .i64 d] w (fW N w (.bad 3)):=by
 obtain⟨z,I,q,hE,hN⟩:=h;have B:=fO N _ I w z;have M:=dN N _ ⟨#[40]⟩ I w z ho;have gd:decide ((12:Int)<(d:Int))=false:=by simp;omega
 have O:=(q s (by simp)).2;obtain⟨ao,c,Q,c',p1,p2,p3,D⟩:=z.rest;have S:(t).length<=1000:=by simp at I⊢;omega
 have b:=dN N (t) ⟨#[42]⟩ S _ D y;have P4:=apC D;have b0:=apC q;generalize hm:(t).length=m at p1 p3 D b P4;have U:=oJ s H r Z J;have G:rM N w (w.setCell ⟨N,0,none⟩ (.slice Q m c')):=ag.setCell _ _ rfl;have b1:=ad p1;obtain⟨n0,n1,n2,n3,n4,n5,n6⟩:=hf;rw[show aS (s::t)=s from rfl]at B;have V:=hE.jz G hN;clear z q hE Z D y hm;go_enter apG,apF;go_wp2_with(first|(go_at_call 33;with_reducible refine B.mono ?_;rintro e w1 ⟨rfl,rfl⟩)|(go_at_call_of 78 (apA ⟨#[40]⟩);refine M.mono ?_;rintro e w1 ⟨rfl,rfl⟩)|(go_at_call 185;refine(U _).mono ?_;rintro e w1 ⟨rfl,rfl⟩)|(go_at_call_of 78 (apA ⟨#[42]⟩);refine b.mono ?_;rintro e w2 ⟨rfl,rfl⟩)|(go_at_call_of 187 (apA s);refine(CA s O L _ V).mono ?_;rintro e w3 ⟨rfl,Y⟩;have GN:=G.trans (ag.ak Y);unfold c_))
 exact⟨rfl,rfl,GN⟩
theorem Mu(N d:Nat)(hd:d<=12)(s:ByteArray)(t:List ByteArray)(w:World)(h:nk N w (s::t))(hf:xm s)(ho:s≠aQ)(O:UInt8)(r:List UInt8)(hr:s.data.toList=O::r)(S:O≠34)(D:aS (t)≠kG)(a:ByteArray)(U:aB s=[a])(B:aS t≠nO):
  Calls apE 135 #[.pointer (some ⟨N,0,none⟩),.int .i64 d] w (fW N w (.ok (.leaf 1 [a] 0) t)):=by
 obtain⟨G,Q,y,hE,hN⟩:=h;have H:=fO N _ Q w G;have V:=dN N _ ⟨#[40]⟩ Q w G ho;have gd:decide ((12:Int)<(d:Int))=false:=by simp;omega
 have Y:=(y s (by simp)).2;obtain⟨ao,c,Z,c',p1,p2,p3,I⟩:=G.rest;have J:(t).length<=1000:=by simp at Q⊢;omega
 have q:=dN N (t) ⟨#[42]⟩ J _ I D;have P4:=apC I;have b7:=apC y;generalize hm:(t).length=m at p1 p3 I q P4;have a0:=oJ s O r hr S;have L:rM N w (w.setCell ⟨N,0,none⟩ (.slice Z m c')):=ag.setCell _ _ rfl;have a1:=ad p1;obtain⟨n0,n1,n2,n3,n4,n5,n6⟩:=hf;rw[show aS (s::t)=s from rfl]at H;have a2:=hE.jz L hN;clear G y hE hr I D hm;go_enter apG,apF;go_wp2_with(first|(go_at_call 33;with_reducible refine H.mono ?_;rintro e w1 ⟨rfl,rfl⟩)|(go_at_call_of 78 (apA ⟨#[40]⟩);refine V.mono ?_;rintro e w1 ⟨rfl,rfl⟩)|(go_at_call 185;refine(a0 _).mono ?_;rintro e w1 ⟨rfl,rfl⟩)|(go_at_call_of 78 (apA ⟨#[42]⟩);refine q.mono ?_;rintro e w2 ⟨rfl,rfl⟩)|(go_at_call_of 187 (apA s);refine(lH s a Y U _ a2).mono ?_;rintro e w3 ⟨rfl,z⟩;have GN:=L.trans (ag.ak z);have PC:=P4.out.gr z;clear z)|(go_at_call_of 78 (apA ⟨#[78,69,65,82]⟩);refine(dN N t ⟨#[78,69,65,82]⟩ J _ PC B).mono ?_;rintro e b ⟨rfl,rfl⟩))
 go_ret;have a3:N<b.heap.size:=apH a1 GN.2.2.2.1;have hq:=ue (N:=N) (w:=b.alloc (.cells #[.string a] 9)) 1 0 (Cx a a3 9) (by simp;omega) 116;rw[show(b.alloc (.cells #[.string a] 9)).heap.size=b.heap.size+1 by simp]at hq;have M:Gr b ((b.alloc (.cells #[.string a] 9)).alloc (.cells #[.int .i64 1,.slice (some ⟨b.heap.size,0,none⟩) 1 1,.int .i64 0,.pointer none,.pointer none] 116)):=((Gr.refl b).alloc _).alloc _;exact⟨b.heap.size+1,rfl,hq,PC.gr M,GN.trans (ag.ak M)⟩
theorem Mv(N d:Nat)(hd:d<=12)(s:ByteArray)(t:List ByteArray)(w:World)(h:nk N w (s::(⟨#[78,69,65,82]⟩:ByteArray)::t))(hf:xm s)(ho:s≠aQ)(O:UInt8)(r:List UInt8)(hr:s.data.toList=O::r)(V:O≠34)(B:aS ((⟨#[78,69,65,82]⟩:ByteArray)::t)≠kG)(a:ByteArray)(Y:aB s=[a])(D:aS t=gC):
  Calls apE 135 #[.pointer (some ⟨N,0,none⟩),.int .i64 d] w (fW N w (.bad 3)):=by
 have b0:=(jA (aS t) []).2 D;obtain⟨G,Q,q,hE,hN⟩:=h;have H:=fO N _ Q w G;have Z:=dN N _ ⟨#[40]⟩ Q w G ho;have gd:decide ((12:Int)<(d:Int))=false:=by simp;omega
 have a0:=(q s (by simp)).2;obtain⟨ao,c,a1,c',p1,p2,p3,I⟩:=G.rest;have y:((⟨#[78,69,65,82]⟩:ByteArray)::t).length<=1000:=by simp at Q⊢;omega
 have b:=dN N ((⟨#[78,69,65,82]⟩:ByteArray)::t) ⟨#[42]⟩ y _ I B;have P4:=apC I;have b6:=apC q;generalize hm:((⟨#[78,69,65,82]⟩:ByteArray)::t).length=m at p1 p3 I b P4;have a2:=oJ s O r hr V;have J:rM N w (w.setCell ⟨N,0,none⟩ (.slice a1 m c')):=ag.setCell _ _ rfl;have b7:=ad p1;obtain⟨n0,n1,n2,n3,n4,n5,n6⟩:=hf;rw[show aS (s::(⟨#[78,69,65,82]⟩:ByteArray)::t)=s from rfl]at H;have a3:=hE.jz J hN;clear G q hE hr I B hm;generalize L:aS t=pb at*;have a4:=apC L;clear D L;go_enter apG,apF;go_wp2_with(first|(go_at_call 33;with_reducible refine H.mono ?_;rintro e w1 ⟨rfl,rfl⟩)|(go_at_call_of 78 (apA ⟨#[40]⟩);refine Z.mono ?_;rintro e w1 ⟨rfl,rfl⟩)|(go_at_call 185;refine(a2 _).mono ?_;rintro e w1 ⟨rfl,rfl⟩)|(go_at_call_of 78 (apA ⟨#[42]⟩);refine b.mono ?_;rintro e w2 ⟨rfl,rfl⟩)|(go_at_call_of 187 (apA s);refine(lH s a a0 Y _ a3).mono ?_;rintro e w3 ⟨rfl,z⟩;have S:=J.trans (ag.ak z);have U:=P4.out.gr z;clear z)|(go_at_call_of 78 (apA ⟨#[78,69,65,82]⟩);refine(iQ N ⟨#[78,69,65,82]⟩ t y _ U).mono ?_;rintro e w4 ⟨rfl,U,M⟩;have S:=S.trans M;clear M)|(go_at_call 33;refine(fO N t (by simp at y⊢;omega) _ U).mono ?_;rintro e w5 ⟨rfl,rfl⟩;rw[a4.out])|(go_at_call 34;refine(kX 3 _).mono ?_;rintro e w6 ⟨rfl,rfl⟩;unfold c_))
 exact⟨rfl,rfl,S⟩
theorem Mw(N d:Nat)(hd:d<=12)(s:ByteArray)(b:ByteArray)(t:List ByteArray)(w:World)(h:nk N w (s::(⟨#[78,69,65,82]⟩:ByteArray)::b::t))(hf:xm s)(ho:s≠aQ)(Z:UInt8)(r:List UInt8)(hr:s.data.toList=Z::r)(a1:Z≠34)(J:aS ((⟨#[78,69,65,82]⟩:ByteArray)::b::t)≠kG)(a:ByteArray)(a2:aB s=[a])(L:gY (fT b)=true):
  Calls apE 135 #[.pointer (some ⟨N,0,none⟩),.int .i64 d] w (fW N w (.bad 3)):=by
 obtain⟨M,hl,y,hE,hN⟩:=h;have O:=fO N _ hl w M;have a3:=dN N _ ⟨#[40]⟩ hl w M ho;have gd:decide ((12:Int)<(d:Int))=false:=by simp;omega
 have a4:=(y s (by simp)).2;obtain⟨ao,c,a5,c',p1,p2,p3,Q⟩:=M.rest;have z:((⟨#[78,69,65,82]⟩:ByteArray)::b::t).length<=1000:=by simp at hl⊢;omega
 have q:=dN N ((⟨#[78,69,65,82]⟩:ByteArray)::b::t) ⟨#[42]⟩ z _ Q J;have P4:=apC Q;have S:=apC y;generalize hm:((⟨#[78,69,65,82]⟩:ByteArray)::b::t).length=m at p1 p3 Q q P4;have a6:=oJ s Z r hr a1;have U:rM N w (w.setCell ⟨N,0,none⟩ (.slice a5 m c')):=ag.setCell _ _ rfl;have c2:=ad p1;obtain⟨n0,n1,n2,n3,n4,n5,n6⟩:=hf;rw[show aS (s::(⟨#[78,69,65,82]⟩:ByteArray)::b::t)=s from rfl]at O;have a7:=hE.jz U hN;clear M y hE hr Q J hm;have a8:=(S.out b (by simp)).2;have V:=(S.out b (by simp)).1;have c3:b.toList.isEmpty=false:=by
  obtain⟨c1,r1,a9,_⟩:=V;rw[apI,a9]
  rfl
 have B:=fun W=>oE b ⟨#[40,41,34,42]⟩ a8 (by decide) (by decide) W;rw[show apK b.data.toList (⟨#[40,41,34,42]⟩:ByteArray).data.toList=gY (fT b)from vT V]at B;rw[L]at B;clear L;go_enter apG,apF;go_wp2_with(first|(go_at_call 33;with_reducible refine O.mono ?_;rintro e w1 ⟨rfl,rfl⟩)|(go_at_call_of 78 (apA ⟨#[40]⟩);refine a3.mono ?_;rintro e w1 ⟨rfl,rfl⟩)|(go_at_call 185;refine(a6 _).mono ?_;rintro e w1 ⟨rfl,rfl⟩)|(go_at_call_of 78 (apA ⟨#[42]⟩);refine q.mono ?_;rintro e w2 ⟨rfl,rfl⟩)|(go_at_call_of 187 (apA s);refine(lH s a a4 a2 _ a7).mono ?_;rintro e w3 ⟨rfl,D⟩;have H:=U.trans (ag.ak D);have I:=P4.out.gr D;clear D)|(go_at_call_of 78 (apA ⟨#[78,69,65,82]⟩);refine(iQ N ⟨#[78,69,65,82]⟩ (b::t) z _ I).mono ?_;rintro e w4 ⟨rfl,I,Y⟩;have H:=H.trans Y;clear Y)|(go_at_call 33;refine(fO N (b::t) (by simp at z⊢;omega) _ I).mono ?_;rintro e w5 ⟨rfl,rfl⟩;rw[show aS (b::t)=b from rfl])|(go_at_call 188;refine(B _).mono ?_;rintro e w7 ⟨rfl,G⟩;have H:=H.trans (ag.ak G);have I:=I.gr G;clear G)|(go_at_call 34;refine(kX 3 _).mono ?_;rintro e w6 ⟨rfl,rfl⟩;unfold c_))
 exact⟨rfl,rfl,H⟩
theorem Mx(N d:Nat)(hd:d<=12)(s:ByteArray)(b:ByteArray)(t:List ByteArray)(w:World)(h:nk N w (s::(⟨#[78,69,65,82]⟩:ByteArray)::b::t))(hf:xm s)(ho:s≠aQ)(c0:UInt8)(r:List UInt8)(hr:s.data.toList=c0::r)(a5:c0≠34)(J:aS ((⟨#[78,69,65,82]⟩:ByteArray)::b::t)≠kG)(a:ByteArray)(a6:aB s=[a])(L:gY (fT b)=false)(a7:∀a,aB b≠[a]):
  Calls apE 135 #[.pointer (some ⟨N,0,none⟩),.int .i64 d] w (fW N w (.bad 3)):=by
 obtain⟨M,hl,B,hE,hN⟩:=h;have O:=fO N _ hl w M;have a8:=dN N _ ⟨#[40]⟩ hl w M ho;have gd:decide ((12:Int)<(d:Int))=false:=by simp;omega
 have a9:=(B s (by simp)).2;obtain⟨ao,c,b0,c',p1,p2,p3,Q⟩:=M.rest;have D:((⟨#[78,69,65,82]⟩:ByteArray)::b::t).length<=1000:=by simp at hl⊢;omega
 have y:=dN N ((⟨#[78,69,65,82]⟩:ByteArray)::b::t) ⟨#[42]⟩ D _ Q J;have P4:=apC Q;have U:=apC B;generalize hm:((⟨#[78,69,65,82]⟩:ByteArray)::b::t).length=m at p1 p3 Q y P4;have b1:=oJ s c0 r hr a5;have V:rM N w (w.setCell ⟨N,0,none⟩ (.slice b0 m c')):=ag.setCell _ _ rfl;have d1:=ad p1;obtain⟨n0,n1,n2,n3,n4,n5,n6⟩:=hf;rw[show aS (s::(⟨#[78,69,65,82]⟩:ByteArray)::b::t)=s from rfl]at O;have b2:=hE.jz V hN;have b3:=hE;clear M B hE hr Q J hm;have Y:=(U.out b (by simp)).2;have Z:=(U.out b (by simp)).1;have d2:b.toList.isEmpty=false:=by
  obtain⟨c1,r1,b4,_⟩:=Z;rw[apI,b4]
  rfl
 have G:=fun W=>oE b ⟨#[40,41,34,42]⟩ Y (by decide) (by decide) W;rw[show apK b.data.toList (⟨#[40,41,34,42]⟩:ByteArray).data.toList=gY (fT b)from vT Z]at G;rw[L]at G;clear L;go_enter apG,apF;go_wp2_with(first|(go_at_call 33;with_reducible refine O.mono ?_;rintro e w1 ⟨rfl,rfl⟩)|(go_at_call_of 78 (apA ⟨#[40]⟩);refine a8.mono ?_;rintro e w1 ⟨rfl,rfl⟩)|(go_at_call 185;refine(b1 _).mono ?_;rintro e w1 ⟨rfl,rfl⟩)|(go_at_call_of 78 (apA ⟨#[42]⟩);refine y.mono ?_;rintro e w2 ⟨rfl,rfl⟩)|(go_at_call_of 187 (apA s);refine(lH s a a9 a6 _ b2).mono ?_;rintro e w3 ⟨rfl,H⟩;have q:=V.trans (ag.ak H);have z:=P4.out.gr H;clear H)|(go_at_call_of 78 (apA ⟨#[78,69,65,82]⟩);refine(iQ N ⟨#[78,69,65,82]⟩ (b::t) D _ z).mono ?_;rintro e w4 ⟨rfl,z,a0⟩;have q:=q.trans a0;clear a0)|(go_at_call 33;refine(fO N (b::t) (by simp at D⊢;omega) _ z).mono ?_;rintro e w5 ⟨rfl,rfl⟩;rw[show aS (b::t)=b from rfl])|(go_at_call 188;refine(G _).mono ?_;rintro e w7 ⟨rfl,I⟩;have q:=q.trans (ag.ak I);have z:=z.gr I;clear I;obtain⟨d3,c5,a1,b5,q1,q2,q3,q4⟩:=z.rest;have q:=q.trans (ag.setCell (S:=fun i=>i=N) w7 (p:=⟨N,0,none⟩) (.slice a1 t.length b5) rfl);have b6:=b3.jz q hN)|(go_at_call_of 187 (apA b);refine(CA b Y a7 _ b6).mono ?_;rintro e w8 ⟨rfl,b7⟩;have q:=q.trans (ag.ak b7);unfold c_))
 exact⟨rfl,rfl,q⟩
theorem My(N d:Nat)(hd:d<=12)(s:ByteArray)(b:ByteArray)(t:List ByteArray)(w:World)(h:nk N w (s::(⟨#[78,69,65,82]⟩:ByteArray)::b::t))(hf:xm s)(ho:s≠aQ)(c0:UInt8)(r:List UInt8)(hr:s.data.toList=c0::r)(b0:c0≠34)(O:aS ((⟨#[78,69,65,82]⟩:ByteArray)::b::t)≠kG)(a:ByteArray)(b1:aB s=[a])(Q:gY (fT b)=false)(B:ByteArray)(b2:aB b=[B]):
  Calls apE 135 #[.pointer (some ⟨N,0,none⟩),.int .i64 d] w (fW N w (.ok (.leaf 3 [a,B] 3) t)):=by
 obtain⟨U,hl,G,hE,hN⟩:=h;have V:=fO N _ hl w U;have b3:=dN N _ ⟨#[40]⟩ hl w U ho;have gd:decide ((12:Int)<(d:Int))=false:=by simp;omega
 have b4:=(G s (by simp)).2;obtain⟨ao,c,b5,c',p1,p2,p3,Y⟩:=U.rest;have H:((⟨#[78,69,65,82]⟩:ByteArray)::b::t).length<=1000:=by simp at hl⊢;omega
 have D:=dN N ((⟨#[78,69,65,82]⟩:ByteArray)::b::t) ⟨#[42]⟩ H _ Y O;have P4:=apC Y;have Z:=apC G;generalize hm:((⟨#[78,69,65,82]⟩:ByteArray)::b::t).length=m at p1 p3 Y D P4;have b6:=oJ s c0 r hr b0;have a0:rM N w (w.setCell ⟨N,0,none⟩ (.slice b5 m c')):=ag.setCell _ _ rfl;have b7:=ad p1;obtain⟨n0,n1,n2,n3,n4,n5,n6⟩:=hf;rw[show aS (s::(⟨#[78,69,65,82]⟩:ByteArray)::b::t)=s from rfl]at V;have b8:=hE.jz a0 hN;have b9:=hE;clear U G hE hr Y O hm;have a1:=(Z.out b (by simp)).2;have a3:=(Z.out b (by simp)).1;have d9:b.toList.isEmpty=false:=by
  obtain⟨c1,r1,c2,_⟩:=a3;rw[apI,c2]
  rfl
 have I:=fun W=>oE b ⟨#[40,41,34,42]⟩ a1 (by decide) (by decide) W;rw[show apK b.data.toList (⟨#[40,41,34,42]⟩:ByteArray).data.toList=gY (fT b)from vT a3]at I;rw[Q]at I;clear Q;go_enter apG,apF;go_wp2_with(first|(go_at_call 33;with_reducible refine V.mono ?_;rintro e w1 ⟨rfl,rfl⟩)|(go_at_call_of 78 (apA ⟨#[40]⟩);refine b3.mono ?_;rintro e w1 ⟨rfl,rfl⟩)|(go_at_call 185;refine(b6 _).mono ?_;rintro e w1 ⟨rfl,rfl⟩)|(go_at_call_of 78 (apA ⟨#[42]⟩);refine D.mono ?_;rintro e w2 ⟨rfl,rfl⟩)|(go_at_call_of 187 (apA s);refine(lH s a b4 b1 _ b8).mono ?_;rintro e w3 ⟨rfl,J⟩;have q:=a0.trans (ag.ak J);have z:=P4.out.gr J;clear J)|(go_at_call_of 78 (apA ⟨#[78,69,65,82]⟩);refine(iQ N ⟨#[78,69,65,82]⟩ (b::t) H _ z).mono ?_;rintro e w4 ⟨rfl,z,a4⟩;have q:=q.trans a4;clear a4)|(go_at_call 33;refine(fO N (b::t) (by simp at H⊢;omega) _ z).mono ?_;rintro e w5 ⟨rfl,rfl⟩;rw[show aS (b::t)=b from rfl])|(go_at_call 188;refine(I _).mono ?_;rintro e w7 ⟨rfl,L⟩;have q:=q.trans (ag.ak L);have z:=z.gr L;clear L;obtain⟨e0,c5,a6,c3,q1,q2,q3,q4⟩:=z.rest;have q:=q.trans (ag.setCell (S:=fun i=>i=N) w7 (p:=⟨N,0,none⟩) (.slice a6 t.length c3) rfl);have c4:=b9.jz q hN)|(go_at_call_of 187 (apA b);refine(lH b B a1 b2 _ c4).mono ?_;rintro e y ⟨rfl,M⟩;have q:=q.trans (ag.ak M);have z:=q4.gr M;clear M))
 go_ret;have c6:N<y.heap.size:=apH b7 q.2.2.2.1;have hq:=ue (N:=N) (w:=y.alloc (.cells #[.string a,.string B] 9)) 3 3 (Mq a B c6 9) (by simp;omega) 116;rw[show(y.alloc (.cells #[.string a,.string B] 9)).heap.size=y.heap.size+1 by simp]at hq;have a5:Gr y ((y.alloc (.cells #[.string a,.string B] 9)).alloc (.cells #[.int .i64 3,.slice (some ⟨y.heap.size,0,none⟩) 2 2,.int .i64 3,.pointer none,.pointer none] 116)):=((Gr.refl y).alloc _).alloc _;exact⟨y.heap.size+1,rfl,hq,z.gr a5,q.trans (ag.ak a5)⟩
theorem UW(N d:Nat)(hd:d<=12)(H:List ByteArray->Rd)(Y:∀l q r,H l=.ok q r->fI r l)(Z:∀(l':List ByteArray) (w':World),nk N w' l'->Calls apE 32 #[.pointer (some ⟨N,0,none⟩),.int .i64 ((d:Int)+1)] w' (fW N w' (H l')))
  (l:List ByteArray) (w:World) (h:nk N w l):Calls apE 135 #[.pointer (some ⟨N,0,none⟩),.int .i64 d] w (fW N w (jJ H l)):=by
 unfold jJ
 dsimp only
 split
 ·rename_i hs
  exact PU N d hd l w h hs
 ·rename_i hs
  obtain⟨s,t,rfl,hp⟩:=jc (l:=l) (fun e=>hs (.inl e));rw[hp]at hs;simp only[hp,List.tail_cons];have hf:=R_ hs
  split
  ·rename_i I
   subst I;exact PW N d hd H Y Z t w h
  ·rename_i I
   obtain⟨L,r,J,_⟩:=(h.2.2.1 s (by simp)).1;have hh:fT s=L:=by unfold fT;rw[J];rfl
   rw[hh,J]
   split
   ·rename_i z
    subst z;exact Mr N d hd s t w h hf I r J
   ·rename_i z
    split
    ·rename_i B
     obtain⟨a,G,rfl,ha⟩:=jc (l:=t) (by rw[B];decide);obtain rfl:a=⟨#[42]⟩:=ha.symm.trans B;exact PX N d hd s G w h hf I L r J z
    ·rename_i B
     split
     ·rename_i a D
      show Calls _ _ _ _ (fW N w (if aS t=nO then(if aS t.tail=gC\/gY (fT (aS t.tail))=true then Rd.bad 3 else(match aB (aS t.tail)with|[b]=>Rd.ok (Qy.leaf 3 [a,b] 3) t.tail.tail|_=>Rd.bad 3))else Rd.ok (Qy.leaf 1 [a] 0) t));by_cases y:aS t=nO
      ·rw[if_pos y];obtain⟨x,G,rfl,hx⟩:=jc (l:=t) (by rw[y];decide);obtain rfl:x=⟨#[78,69,65,82]⟩:=hx.symm.trans y;show Calls _ _ _ _ (fW N w (if aS G=gC\/gY (fT (aS G))=true then Rd.bad 3 else(match aB (aS G)with|[b]=>Rd.ok (Qy.leaf 3 [a,b] 3) G.tail|_=>Rd.bad 3)));by_cases Q:aS G=gC\/gY (fT (aS G))=true
       ·rw[if_pos Q];by_cases S:aS G=gC
        ·exact Mv N d hd s G w h hf I L r J z B a D S
        ·obtain⟨b,M,rfl,U⟩:=jc (l:=G) S;have O:gY (fT b)=true:=by
          rcases Q with e|e
          ·exact absurd e S
          ·rwa [U]at e
         exact Mw N d hd s b M w h hf I L r J z B a D O
       ·rw[if_neg Q];obtain⟨b,M,rfl,U⟩:=jc (l:=G) (fun e=>Q (.inl e));rw[U]at Q⊢;have O:gY (fT b)=false:=by
         rw[apL];exact fun e=>Q (.inr e)
        split
        ·rename_i a2 V
         exact My N d hd s b M w h hf I L r J z B a D O a2 V
        ·rename_i V
         exact Mx N d hd s b M w h hf I L r J z B a D O (fun a e=>V a e)
      ·rw[if_neg y];exact Mu N d hd s t w h hf I L r J z B a D y
     ·rename_i D
      exact Mt N d hd s t w h hf I L r J z B (fun a e=>D a e)
def Hk(N:Nat)(w:World):Nat:=match w.cell? ⟨N,0,none⟩with|some (.slice _ n _)=>n|_=>0
theorem nJ{N:Nat}{w:World}{l:List ByteArray}(h:oG N w l):Hk N w=l.length:=by
 obtain⟨y,c,b,s,q,_⟩:=h;unfold Hk;rw[q]
theorem nk.less{N:Nat}{w w':World}{l r:List ByteArray}(h:nk N w l)(b:oG N w' r)(s:∃m,m<:+l/\r<:+m)(g:rM N w w'):nk N w' r:=by
 obtain⟨m,y,z⟩:=s;have q:=z.trans y;exact⟨b,Nat.le_trans q.length_le h.2.1,fun p b=>h.2.2.1 p (q.subset b),h.2.2.2.1.jz g h.2.2.2.2,h.2.2.2.2⟩
theorem Mz(b:List ByteArray->Rd)(n:Nat)(q:Qy)(l:List ByteArray)(h:fy (aS l)):e_ b n q l=.ok q l:=by
 unfold e_;rw[if_pos h]
theorem MC(b:List ByteArray->Rd)(n:Nat)(q:Qy)(l:List ByteArray)(h:¬fy (aS l)):e_ b (n+1) q l=match b (if aS l=ez\/aS l=fp then l.tail else l)with| .bad m=>.bad m| .ok q' r=>e_ b n (.node (if aS l=ez then 6 else 4) q q') r:=by
 conv=>lhs;unfold e_
 rw[if_neg h]
 rfl
theorem Sb(N d:Nat)(_hd:d<=13)(z:List ByteArray->Rd)(c2:∀l q r,z l=.ok q r->fI r l)(c6:∀(l':List ByteArray) (w':World),nk N w' l'->Calls apE 135 #[.pointer (some ⟨N,0,none⟩),.int .i64 d] w' (fW N w' (z l')))
  (l:List ByteArray) (w:World) (h:nk N w l):Calls apE 77 #[.pointer (some ⟨N,0,none⟩),.int .i64 d] w (fW N w (iB z l)):=by
 have HI:=apC h;have Q:=apC c6;have Z:=apC c2;have c9:=(show N<w.heap.size by obtain⟨ao,c,b,e8,h1,_⟩:=h.1;exact ad h1);clear h c6 c2;generalize hR:iB z l=R;unfold iB at hR;cases ho:z l with
 |bad m=>
  rw[ho]at hR;subst hR;have HO:=apC ho;clear ho;go_enter apY,apV;go_wp2_with fail
  refine(Q.out l w HI.out).mono ?_;rw[HO.out];rintro e w1 ⟨rfl,b1⟩;unfold c_;go_wp2_with fail
  exact⟨rfl,rfl,b1⟩
 |ok q r=>
  rw[ho]at hR;have HR:=apC hR;have HO:=apC ho;clear ho hR;go_enter apY,apV;go_wp2_with fail
  refine(Q.out l w HI.out).mono ?_;rw[HO.out];rintro e w1 ⟨b,rfl,d3,d4,b1⟩;have I:=Z.out l q r HO.out;have d5:=HI.out.less d4 ⟨r,I.1,apB r⟩ b1;clear I;go_wp2_with fail
  go_loopw [5] (fun qv w'=>∃(q:Qy) (b:Nat) (l:List ByteArray) (n:Nat),qv=.pointer (some ⟨b,0,none⟩)/\eQ N w' q b/\nk N w' l/\rM N w w'/\l.length<=n/\e_ z n q l=R) (fun _ w'=>Hk N w')
  case atStart=>exact⟨q,b,r,r.length,rfl,d3,d5,b1,apO _,HR.out⟩
  case round=>
   obtain⟨q,b,l,n,rfl,hq,b3,hg,hn,y⟩:=hrel;have HQ:=apC hq;have B:=apC b3;have c4:=nJ b3.1;have O:=fO N l b3.2.1 _ b3.1;clear hq b3 d3 d4 d5 b1;by_cases J:fy (aS l)
   ·rw[Mz _ _ _ _ J]at y;subst y;clear c4;generalize hs:aS l=s at*;rcases J with e|e|e
    ·have hK:=(jA s ([]:List UInt8)).2 e;clear e hs;go_wp2_with(go_at_call 33;refine O.mono ?_;rintro e w1 ⟨rfl,rfl⟩)
     go_ret;exact⟨b,rfl,HQ.out,B.out.1,hg⟩
    ·have hK:=(jA s [41]).2 e;clear e hs;go_wp2_with(go_at_call 33;refine O.mono ?_;rintro e w1 ⟨rfl,rfl⟩)
     go_ret;exact⟨b,rfl,HQ.out,B.out.1,hg⟩
    ·have hK:=(jA s [79,82]).2 e;clear e hs;go_wp2_with(go_at_call 33;refine O.mono ?_;rintro e w1 ⟨rfl,rfl⟩)
     go_ret;exact⟨b,rfl,HQ.out,B.out.1,hg⟩
   ·obtain⟨s,t,rfl,d7⟩:=jc (l:=l) (fun e=>J (.inl e));obtain⟨n,rfl⟩:∃m,n=m+1:=⟨n-1,by simp at hn;omega⟩;rw[MC _ _ _ _ J]at y;rw[d7]at J O y;have s0:s.toList.isEmpty=false:=by rw[J1];simpa using fun e=>J (.inl e)
    have s1:=tD (s:=s) (k:=[41]) (fun e=>J (.inr (.inl e)));have s2:=tD (s:=s) (k:=[79,82]) (fun e=>J (.inr (.inr e)));by_cases a9:s=ez
    ·subst a9;rw[if_pos (rfl:ez=ez)]at y;have a0:=iQ N ⟨#[78,79,84]⟩ t B.out.2.1 _ B.out.1
     change Calls _ _ _ _ fun e w'=>e=.returned (.string ⟨#[78,79,84]⟩)/\w'=_ at O;clear s0 s1 s2;have e1:z (if ez=ez\/ez=fp then(ez::t).tail else ez::t)=z (t):=by rw[if_pos (.inl rfl)];rfl
     rw[e1]at y;cases M:z (t)with
     |bad m=>
      rw[M]at y;have U:=apC M;subst y;clear M e1 J;go_wp2_with(first|(go_at_call 33;refine O.mono ?_;rintro e w1 ⟨rfl,rfl⟩)|(go_at_call_of 78 (apA ⟨#[78,79,84]⟩);refine a0.mono ?_;rintro e w2 ⟨rfl,PC,D⟩;have GN:=hg.trans D;have G:=B.out.less PC ⟨t,apJ _ t,apB t⟩ D;have QC:=eQ.jz D q b HQ.out;clear D))
      refine(Q.out _ _ G).mono ?_;rw[U.out];rintro e S ⟨rfl,H⟩;have L:=GN.trans H;unfold c_;go_wp2_with fail
      exact⟨rfl,rfl,L⟩
     |ok q2 r=>
      rw[M]at y;have U:=apC M;have I:=Z.out _ q2 r M;have b6:=apC y;clear M e1 J y;go_wp2_with(first|(go_at_call 33;refine O.mono ?_;rintro e w1 ⟨rfl,rfl⟩)|(go_at_call_of 78 (apA ⟨#[78,79,84]⟩);refine a0.mono ?_;rintro e w2 ⟨rfl,PC,D⟩;have GN:=hg.trans D;have G:=B.out.less PC ⟨t,apJ _ t,apB t⟩ D;have QC:=eQ.jz D q b HQ.out;clear D))
      refine(Q.out _ _ G).mono ?_;rw[U.out];rintro e S ⟨b2,rfl,a1,a2,H⟩;have L:=GN.trans H;have b7:=eQ.jz H q b QC;have V:=G.less a2 ⟨r,I.1,apB r⟩ H;have b8:N<S.heap.size:=apH c9 L.2.2.2.1;have a3:=uh 6 b7 a1 b8 116;have Y:Gr S (S.alloc (.cells #[.int .i64 6,.slice none 0 0,.int .i64 0,.pointer (some ⟨b,0,none⟩),.pointer (some ⟨b2,0,none⟩)] 116)):=(Gr.refl S).alloc _;have a4:=V.less (V.1.gr Y) ⟨r,apB r,apB r⟩ (ag.ak Y);have b9:=nJ a4.1;have a5:=I.2;have c0:=apC a3;clear a3 I a1 a2 V G;go_wp2_with fail
      refine⟨⟨_,S.heap.size,r,n,rfl,c0.out,a4,L.trans (ag.ak Y),by simp at hn a5;omega,b6.out⟩,?_⟩;rw[b9,c4];simp at a5⊢;omega
    ·rw[if_neg a9]at y;by_cases c1:s=fp
     ·subst c1;have a0:=dN N _ ⟨#[78,79,84]⟩ B.out.2.1 _ B.out.1 (by show fp≠_;decide);have a6:=iQ N ⟨#[65,78,68]⟩ t B.out.2.1 _ B.out.1
      change Calls _ _ _ _ fun e w'=>e=.returned (.string ⟨#[65,78,68]⟩)/\w'=_ at O;clear s0 s1 s2;have e1:z (if fp=ez\/fp=fp then(fp::t).tail else fp::t)=z (t):=by rw[if_pos (.inr rfl)];rfl
      rw[e1]at y;cases M:z (t)with
      |bad m=>
       rw[M]at y;have U:=apC M;subst y;clear M e1 J;go_wp2_with(first|(go_at_call 33;refine O.mono ?_;rintro e w1 ⟨rfl,rfl⟩)|(go_at_call_of 78 (apA ⟨#[78,79,84]⟩);refine a0.mono ?_;rintro e w2 ⟨rfl,rfl⟩)|(go_at_call_of 78 (apA ⟨#[65,78,68]⟩);refine a6.mono ?_;rintro e w2 ⟨rfl,PC,D⟩;have GN:=hg.trans D;have G:=B.out.less PC ⟨t,apJ _ t,apB t⟩ D;have QC:=eQ.jz D q b HQ.out;clear D))
       refine(Q.out _ _ G).mono ?_;rw[U.out];rintro e S ⟨rfl,H⟩;have L:=GN.trans H;unfold c_;go_wp2_with fail
       exact⟨rfl,rfl,L⟩
      |ok q2 r=>
       rw[M]at y;have U:=apC M;have I:=Z.out _ q2 r M;have b6:=apC y;clear M e1 J y;go_wp2_with(first|(go_at_call 33;refine O.mono ?_;rintro e w1 ⟨rfl,rfl⟩)|(go_at_call_of 78 (apA ⟨#[78,79,84]⟩);refine a0.mono ?_;rintro e w2 ⟨rfl,rfl⟩)|(go_at_call_of 78 (apA ⟨#[65,78,68]⟩);refine a6.mono ?_;rintro e w2 ⟨rfl,PC,D⟩;have GN:=hg.trans D;have G:=B.out.less PC ⟨t,apJ _ t,apB t⟩ D;have QC:=eQ.jz D q b HQ.out;clear D))
       refine(Q.out _ _ G).mono ?_;rw[U.out];rintro e S ⟨b2,rfl,a1,a2,H⟩;have L:=GN.trans H;have b7:=eQ.jz H q b QC;have V:=G.less a2 ⟨r,I.1,apB r⟩ H;have b8:N<S.heap.size:=apH c9 L.2.2.2.1;have a3:=uh 4 b7 a1 b8 116;have Y:Gr S (S.alloc (.cells #[.int .i64 4,.slice none 0 0,.int .i64 0,.pointer (some ⟨b,0,none⟩),.pointer (some ⟨b2,0,none⟩)] 116)):=(Gr.refl S).alloc _;have a4:=V.less (V.1.gr Y) ⟨r,apB r,apB r⟩ (ag.ak Y);have b9:=nJ a4.1;have a5:=I.2;have c0:=apC a3;clear a3 I a1 a2 V G;go_wp2_with fail
       refine⟨⟨_,S.heap.size,r,n,rfl,c0.out,a4,L.trans (ag.ak Y),by simp at hn a5;omega,b6.out⟩,?_⟩;rw[b9,c4];simp at a5⊢;omega
     ·have d8:¬(s=ez\/s=fp):=fun h=>h.elim a9 c1;have a0:=dN N _ ⟨#[78,79,84]⟩ B.out.2.1 _ B.out.1 (fun e=>a9 e);have a6:=dN N _ ⟨#[65,78,68]⟩ B.out.2.1 _ B.out.1 (fun e=>c1 e);have e1:z (if s=ez\/s=fp then(s::t).tail else s::t)=z (s::t):=by rw[if_neg d8]
      rw[e1]at y;cases M:z (s::t)with
      |bad m=>
       rw[M]at y;have U:=apC M;subst y;clear M e1 J;go_wp2_with(first|(go_at_call 33;refine O.mono ?_;rintro e w1 ⟨rfl,rfl⟩)|(go_at_call_of 78 (apA ⟨#[78,79,84]⟩);refine a0.mono ?_;rintro e w2 ⟨rfl,rfl⟩)|(go_at_call_of 78 (apA ⟨#[65,78,68]⟩);refine a6.mono ?_;rintro e w2 ⟨rfl,rfl⟩;have GN:=hg;have G:=B.out;have QC:=HQ.out))
       refine(Q.out _ _ G).mono ?_;rw[U.out];rintro e S ⟨rfl,H⟩;have L:=GN.trans H;unfold c_;go_wp2_with fail
       exact⟨rfl,rfl,L⟩
      |ok q2 r=>
       rw[M]at y;have U:=apC M;have I:=Z.out _ q2 r M;have b6:=apC y;clear M e1 J y;go_wp2_with(first|(go_at_call 33;refine O.mono ?_;rintro e w1 ⟨rfl,rfl⟩)|(go_at_call_of 78 (apA ⟨#[78,79,84]⟩);refine a0.mono ?_;rintro e w2 ⟨rfl,rfl⟩)|(go_at_call_of 78 (apA ⟨#[65,78,68]⟩);refine a6.mono ?_;rintro e w2 ⟨rfl,rfl⟩;have GN:=hg;have G:=B.out;have QC:=HQ.out))
       refine(Q.out _ _ G).mono ?_;rw[U.out];rintro e S ⟨b2,rfl,a1,a2,H⟩;have L:=GN.trans H;have b7:=eQ.jz H q b QC;have V:=G.less a2 ⟨r,I.1,apB r⟩ H;have b8:N<S.heap.size:=apH c9 L.2.2.2.1;have a3:=uh 4 b7 a1 b8 116;have Y:Gr S (S.alloc (.cells #[.int .i64 4,.slice none 0 0,.int .i64 0,.pointer (some ⟨b,0,none⟩),.pointer (some ⟨b2,0,none⟩)] 116)):=(Gr.refl S).alloc _;have a4:=V.less (V.1.gr Y) ⟨r,apB r,apB r⟩ (ag.ak Y);have b9:=nJ a4.1;have a5:=I.2;have c0:=apC a3;clear a3 I a1 a2 V G;go_wp2_with fail
       refine⟨⟨_,S.heap.size,r,n,rfl,c0.out,a4,L.trans (ag.ak Y),by simp at hn a5;omega,b6.out⟩,?_⟩;rw[b9,c4];simp at a5⊢;omega
theorem MD(b:List ByteArray->Rd)(n:Nat)(q:Qy)(l:List ByteArray)(h:aS l≠k_):fq b n q l=.ok q l:=by
 unfold fq;rw[if_neg h]
theorem ME(b:List ByteArray->Rd)(n:Nat)(q:Qy)(l:List ByteArray)(h:aS l=k_):fq b (n+1) q l=match b l.tail with| .bad m=>.bad m| .ok q' r=>fq b n (.node 5 q q') r:=by
 conv=>lhs;unfold fq
 rw[if_pos h]
 rfl
theorem Sd(N d:Nat)(y:List ByteArray->Rd)(O:∀l q r,y l=.ok q r->fI r l)(Y:∀(l':List ByteArray) (w':World),nk N w' l'->Calls apE 77 #[.pointer (some ⟨N,0,none⟩),.int .i64 d] w' (fW N w' (y l')))
  (l:List ByteArray) (w:World) (h:nk N w l):Calls apE 32 #[.pointer (some ⟨N,0,none⟩),.int .i64 d] w (fW N w (iC y l)):=by
 have HI:=apC h;have H:=apC Y;have Q:=apC O;have c2:=(show N<w.heap.size by obtain⟨ao,c,b,d7,h1,_⟩:=h.1;exact ad h1);clear h Y O;generalize Z:iC y l=R;unfold iC at Z;cases ho:y l with
 |bad m=>
  rw[ho]at Z;subst Z;have HO:=apC ho;clear ho;go_enter apZ,apW;go_wp2_with fail
  refine(H.out l w HI.out).mono ?_;rw[HO.out];rintro e w1 ⟨rfl,J⟩;unfold c_;go_wp2_with fail
  exact⟨rfl,rfl,J⟩
 |ok q r=>
  rw[ho]at Z;have HR:=apC Z;have HO:=apC ho;clear ho Z;go_enter apZ,apW;go_wp2_with fail
  refine(H.out l w HI.out).mono ?_;rw[HO.out];rintro e w1 ⟨b,rfl,a8,a9,J⟩;have I:=Q.out l q r HO.out;have b0:=HI.out.less a9 ⟨r,I.1,apB r⟩ J;clear I;go_wp2_with fail
  go_loopw [5] (fun qv w'=>∃(q:Qy) (b:Nat) (l:List ByteArray) (n:Nat),qv=.pointer (some ⟨b,0,none⟩)/\eQ N w' q b/\nk N w' l/\rM N w w'/\l.length<=n/\fq y n q l=R) (fun _ w'=>Hk N w')
  case atStart=>exact⟨q,b,r,r.length,rfl,a8,b0,J,apO _,HR.out⟩
  case round=>
   obtain⟨q,b,l,n,rfl,hq,a2,hg,hn,z⟩:=hrel;have HQ:=apC hq;have G:=apC a2;have b1:=nJ a2.1;clear hq a2 a8 a9 b0 J;by_cases D:aS l=k_
   ·obtain⟨s,t,rfl,a3⟩:=jc (l:=l) (by rw[D];decide);obtain rfl:s=⟨#[79,82]⟩:=a3.symm.trans D;obtain⟨n,rfl⟩:∃m,n=m+1:=⟨n-1,by simp at hn;omega⟩;rw[ME _ _ _ _ D]at z
    change (match y t with| .bad m=>Rd.bad m| .ok q' r=>fq y n (.node 5 q q') r)=R at z;have S:=iQ N ⟨#[79,82]⟩ t G.out.2.1 _ G.out.1;cases V:y t with
    |bad m=>
     rw[V]at z;have a4:=apC V;subst z;clear V D a3;go_wp2_with(go_at_call_of 78 (apA ⟨#[79,82]⟩);refine S.mono ?_;rintro e w2 ⟨rfl,PC,B⟩;have GN:=hg.trans B;have L:=G.out.less PC ⟨t,apJ _ t,apB t⟩ B;have QC:=eQ.jz B q b HQ.out;clear B)
     refine(H.out _ _ L).mono ?_;rw[a4.out];rintro e w3 ⟨rfl,M⟩;have U:=GN.trans M;unfold c_;go_wp2_with fail
     exact⟨rfl,rfl,U⟩
    |ok q2 r=>
     rw[V]at z;have a4:=apC V;have I:=Q.out _ q2 r V;have c3:=apC z;clear V D a3 z;go_wp2_with(go_at_call_of 78 (apA ⟨#[79,82]⟩);refine S.mono ?_;rintro e w2 ⟨rfl,PC,B⟩;have GN:=hg.trans B;have L:=G.out.less PC ⟨t,apJ _ t,apB t⟩ B;have QC:=eQ.jz B q b HQ.out;clear B)
     refine(H.out _ _ L).mono ?_;rw[a4.out];rintro e w3 ⟨b2,rfl,b3,b4,M⟩;have U:=GN.trans M;have c4:=eQ.jz M q b QC;have a5:=L.less b4 ⟨r,I.1,apB r⟩ M;have c5:N<w3.heap.size:=apH c2 U.2.2.2.1;have b5:=uh 5 c4 b3 c5 116;have a6:Gr w3 (w3.alloc (.cells #[.int .i64 5,.slice none 0 0,.int .i64 0,.pointer (some ⟨b,0,none⟩),.pointer (some ⟨b2,0,none⟩)] 116)):=(Gr.refl w3).alloc _;have b6:=a5.less (a5.1.gr a6) ⟨r,apB r,apB r⟩ (ag.ak a6);have c6:=nJ b6.1;have b7:=I.2;have c7:=apC b5;clear b5 I b3 b4 a5 L;go_wp2_with fail
     refine⟨⟨_,w3.heap.size,r,n,rfl,c7.out,b6,U.trans (ag.ak a6),by simp at hn b7;omega,c3.out⟩,?_⟩;rw[c6,b1];simp at b7⊢;omega
   ·rw[MD _ _ _ _ D]at z;subst z;have S:=dN N l ⟨#[79,82]⟩ G.out.2.1 _ G.out.1 D;clear D b1;go_wp2_with(go_at_call_of 78 (apA ⟨#[79,82]⟩);refine S.mono ?_;rintro e w2 ⟨rfl,rfl⟩)
    go_ret;exact⟨b,rfl,HQ.out,G.out.1,hg⟩
theorem UX(N:Nat):∀(k d:Nat),d+k=13->∀(l:List ByteArray) (w:World),nk N w l->Calls apE 32 #[.pointer (some ⟨N,0,none⟩),.int .i64 d] w (fW N w (dX k l)):=by
 intro k
 induction k with
 |zero=>
  intro d hd l w h;exact Sd N d (lS 0) (nQ 0) (fun s w' y=>Sb N d (by omega) (jb 0) (nP 0) (fun q b _=>PT N d (by omega) b) s w' y) l w h
 |succ k B=>
  intro d hd l w h;refine Sd N d (lS (k+1)) (nQ (k+1)) (fun s w' y=>Sb N d (by omega) (jb (k+1)) (nP (k+1)) (fun q b z=>?_) s w' y) l w h;exact UW N d (by omega) (dX k) (AM k) (fun D G H=>by
   have:=B (d+1) (by omega) D G H;rwa [show((d+1:Nat):Int)=(d:Int)+1 by omega]at this) q b z
