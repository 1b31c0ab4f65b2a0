/-
  Part 4 of the proof.
-/
import Derived.Test.YtldmhjbdahjhdaaGreatDoorZb3
open Go.Lib renaming hid->ae3
open Go.Proofs.Tryz renaming prog->ae4,zeroCells158->afa,zeroCells89->afk
open Array renaming getElem?_setIfInBounds_ne->ae5,getElem?_setIfInBounds_self_of_lt->ae6
open Go.World renaming cell?_alloc_new->ae7
open Go.ByteArray renaming toList_eq->ae8
open List renaming getD_eq_getElem?_getD->ae9,replicate->ae_,getElem?_replicate->afb,range_succ->afd,length_replicate->afe,mem_range->aff,filter_append->afg,length_append->afh,getElem_mem->afi,length_cons->afj,length_nil->afm,range->afn
open Go.Value renaming string->afc
open Nat renaming le_refl->afl,le_trans->afo,zero_le->afp
set_option maxRecDepth 100000
set_option maxHeartbeats 100000000
set_option linter.all false
namespace Go.Proofs.YtldmhjbdahjhdaaGreatDoor
section
open Go Go.RowKit
def eM(s:ByteArray)(i:Nat):List Nat:=(afn i).filter (iW s.data.toList)
def iK(pg:Nat->ByteArray)(s:ByteArray)(i:Nat):List ByteArray:=(afn (eM s i).length).map fun j=>bO pg (2001+j)
theorem Em(s:ByteArray)(i:Nat):(eM s i).length<=i:=by
 have:=List.length_filter_le (iW s.data.toList) (afn i);simpa[eM]using this
theorem xX(pg:Nat->ByteArray)(s:ByteArray)(i:Nat):(iK pg s i).length=(eM s i).length:=by simp[iK]
theorem Eo{s:ByteArray}{i:Nat}(h:iW s.data.toList i=true):eM s (i+1)=eM s i++[i]:=by
 unfold eM;rw[afd,afg,List.filter_cons_of_pos h]
 rfl
theorem I8{s:ByteArray}{i:Nat}(h:iW s.data.toList i=false):eM s (i+1)=eM s i:=by
 unfold eM;rw[afd,afg,List.filter_cons_of_neg (by rw[h];decide)];simp
theorem OS{pg:Nat->ByteArray}{s:ByteArray}{i:Nat}(h:iW s.data.toList i=true):iK pg s (i+1)=iK pg s i++[bO pg (2001+(eM s i).length)]:=by
 unfold iK;rw[Eo h,afh,List.length_singleton,afd,List.map_append]
 rfl
theorem Rc{pg:Nat->ByteArray}{s:ByteArray}{i:Nat}(h:iW s.data.toList i=false):iK pg s (i+1)=iK pg s i:=by
 unfold iK;rw[I8 h]
theorem Re{d:Dk}(hw:d.whole)(s:ByteArray):∀t∈iK d.pg s 2000,t.size=1024:=by
 intro t b;obtain⟨i,hi,rfl⟩:=List.mem_map.1 b;have:=aff.1 hi;have:=Em s 2000;exact hw _ (by omega)
theorem Lx{pg:Nat->ByteArray}{s:ByteArray}(hs:bO pg 2000=s):(vp (eM s 2000) (iK pg s 2000)=s->eE pg=eM s 2000/\je pg=iK pg s 2000)/\(¬vp (eM s 2000) (iK pg s 2000)=s->eE pg=[]/\je pg=[]):=by
 have b:od pg=eM s 2000:=by
  unfold od eM;rw[hs]
 have q:xQ pg=iK pg s 2000:=by
  unfold xQ iK;rw[b]
 unfold eE je;rw[b,q,hs];exact⟨fun h=>by rw[if_pos h,if_pos h];exact⟨rfl,rfl⟩,fun h=>by rw[if_neg h,if_neg h];exact⟨rfl,rfl⟩⟩
theorem OT(B:Nat)(d:Dk)(w:World)(hd:iJ w B d)(hw:d.whole):
  Calls ae4 79 #[.pointer (some ⟨B,0,none⟩)] w fun e w'=>∃L M,e=.returned (.tuple #[L,M])/\jB yV w' L (eE d.pg)/\jB afc w' M (je d.pg)/\Ek L B/\Ek M B/\Gr w w':=by
 have HD:=ae3 hd;have HW:=ae3 hw;have e6:=hd.lt;clear hd hw;obtain⟨s,hs⟩:∃s,bO d.pg 2000=s:=⟨_,rfl⟩;have e7:s.size=1024:=by rw[<-hs];exact HW.out 2000 (by omega)
 have HS:=ae3 hs;have q:=fun w (h:iJ w B d)=>qZ B d.pg d.cut d.left d.torn 2000 (by omega) w h;rw[hs]at q;clear hs;go_enter Tryz.func79,Tryz.ntmps79;go_wp2_with fail
 refine(q _ HD.out).mono ?_;rintro e w1 ⟨rfl,b1⟩;clear q;go_wp2_with fail
 go_loopw [16,6,7] (fun kv L M w'=>∃i:Nat,i<=2000/\kv=.int .i64 i/\fU yV 3 w w' L (eM s i)/\fU afc 9 w w' M (iK d.pg s i)/\(∀b,L.ownBlock=some b->M.ownBlock≠some b)/\Gr w w') (fun kv _ _ _=>2000-(intOf kv).toNat)
 case atStart=>exact⟨0,afp _,rfl,Bh _ _ _ _,Bh _ _ _ _,(fun b h=>by cases h),b1⟩
 case round=>
  obtain⟨i,hi,rfl,hp,hl,O,hg⟩:=hrel;obtain⟨po,pc,rfl⟩:=hp.row.form;obtain⟨lo,lc,rfl⟩:=hl.row.form;have e8:=Em s i;have a2:=xX d.pg s i;rw[a2]at hl O⊢;have U:=ae3 hp;have V:=ae3 hl;have a3:=ae3 O;have Y:=ae3 hg;clear hp hl O a2;by_cases d4:i<2000
  ·have hq:2+i/8<s.size:=by omega
   have a4:(bits BinOp.and IntKind.u8 ((s[2+i/8].toNat:Int)/2^(i % 8)) 1==1)=iW s.data.toList i:=by
    have e0:s[2+i/8]=s.data.toList.getD (2+i/8) 0:=by
     rw[eH s (2+i/8) hq,ae9,List.getElem?_eq_getElem (by rw[<-size_data];exact hq)]
     rfl
    have y:((s[2+i/8].toNat:Int)/2^(i % 8))=((s[2+i/8].toNat/2^(i % 8):Nat):Int):=by push_cast;rfl
    rw[y,D_ _ (Nat.lt_of_le_of_lt (Nat.div_le_self _ _) s[2+i/8].toNat_lt),e0];unfold iW;generalize(s.data.toList.getD (2+i/8) 0).toNat/2^(i % 8)=x;rcases Nat.mod_two_eq_zero_or_one x with h|h<;>rw[h]<;>rfl
   have q:=fun w (h:iJ w B d)=>qZ B d.pg d.cut d.left d.torn (2001+(eM s i).length) (by omega) w h;have HY:Hid (iW s.data.toList i=true->eM s (i+1)=eM s i++[i]/\iK d.pg s (i+1)=iK d.pg s i++[bO d.pg (2001+(eM s i).length)]):=ae3 fun h=>⟨Eo h,OS h⟩;have HN:Hid (iW s.data.toList i=false->eM s (i+1)=eM s i/\iK d.pg s (i+1)=iK d.pg s i):=ae3 fun h=>⟨I8 h,Rc h⟩;rw[show((2001+(eM s i).length:Nat):Int)=2001+((eM s i).length:Int)by omega]at q;cases z:iW s.data.toList i
   ·rw[z]at a4;obtain⟨y,H⟩:=HN.out z;have b2:Hid (fU yV 3 w wr (.slice po (eM s i).length pc) (eM s (i+1))):=ae3 (by rw[y];exact U.out);have b3:Hid (fU afc 9 w wr (.slice lo (eM s i).length lc) (iK d.pg s (i+1))):=ae3 (by rw[H];exact V.out);clear q HY HN z y H;go_wp2_with fail
    refine⟨⟨i+1,by omega,by go_num,?_,?_,a3.out,Y.out⟩,by simp[intOf];omega⟩
    ·exact b2.out
    ·exact b3.out
   ·rw[z]at a4;obtain⟨y,H⟩:=HY.out z;have E1:=ae3 y;have E2:=ae3 H;clear HY HN z y H;generalize bO d.pg (2001+(eM s i).length)=t at*;go_wp2_with fail
    refine(q _ (HD.out.gr Y.out)).mono ?_;rintro e w2 ⟨rfl,Q⟩;have b4:=ae3 (U.out.gr Q);have b5:=ae3 (V.out.gr Q);have b6:=ae3 (Y.out.trans Q);clear q;go_wp2_with(first
     |(at_builtin;refine El (a0:=w) (enc:=yV) rfl _ _ 49 3 _ 8 Tryz.underlying49 Le rfl (by omega) rfl _ _ rfl b4.out i rfl rfl (by omega) b6.out ?_;intro e9 w3 b7 b8 b9
       obtain⟨c0,c1⟩:=b5.out.Rb (fun b y H=>a3.out b H y) b9)
     |(at_builtin;refine El (a0:=w) (enc:=afc) rfl _ _ 22 9 _ 16 Tryz.underlying22 D4 rfl (by omega) rfl _ _ rfl c0 t rfl rfl (by rw[xX];omega) b8 ?_;intro g0 w4 c2 c3 c4))
    obtain⟨c5,c6⟩:=b7.Rb (fun b y H=>c1 b H y) c4;refine⟨⟨i+1,by omega,by go_num,?_,?_,c6,c3⟩,by simp[intOf];omega⟩
    ·rw[E1.out];exact c5
    ·rw[E2.out];exact c2
  ·obtain rfl:i=2000:=by omega
   have a5:Hid ((⟨(Ga (eM s 2000) (gI (iK d.pg s 2000))).toArray⟩:ByteArray)=vp (eM s 2000) (iK d.pg s 2000)):=ae3 rfl;have D:=Tb (eM s 2000) (iK d.pg s 2000) (.slice po (eM s 2000).length pc) (.slice lo (eM s 2000).length lc) wr U.out.row V.out.row (by omega) (fun i h=>by
    have:=aff.1 (List.mem_filter.1 (afi h)).1;exact this) (by rw[xX];omega) (fun i h=>by
    have:=Re HW.out s _ (afi h);omega)
   rw[a5.out]at D;have S:=ae3 (Lx (pg:=d.pg) HS.out);have J:∀{v:Value} {n:Nat} {xs:List Value} {e:TypeId},wr.ownsRow w.heap.size e 1 v n xs->Ek v B:=fun h b a6 n c e H=>by
    have:=aP h b (by rw[e];rfl);omega
   have a7:=ae3 (And.intro (J U.out) (J V.out));clear J;by_cases G:vp (eM s 2000) (iK d.pg s 2000)=s
   ·have Z:=ae3 (S.out.1 G);rw[G]at D;clear G;go_wp2_with fail
    refine D.mono ?_;rintro e w5 ⟨rfl,I⟩;clear D;go_wp2_with fail
    go_ret2;refine⟨_,_,rfl,?_,?_,a7.out.1,a7.out.2,Y.out.trans I⟩
    ·rw[Z.out.1];exact U.out.row.gr I
    ·rw[Z.out.2];exact V.out.row.gr I
   ·have Z:=ae3 (S.out.2 G);clear S a5;generalize vp (eM s 2000) (iK d.pg s 2000)=nb at*;have hb:(nb.toList==s.toList)=false:=by
     rw[beq_eq_false_iff_ne];intro e;rw[ae8,ae8]at e;exact G (qj e)
    have g3:(!nb.toList==s.toList)=true:=by rw[hb];rfl
    clear G;go_wp2_with fail
    refine D.mono ?_;rintro e w5 ⟨rfl,I⟩;clear D;go_wp2_with fail
    go_ret2;refine⟨_,_,rfl,?_,?_,?_,?_,Y.out.trans I⟩
    ·rw[Z.out.1];exact .inl ⟨rfl,rfl⟩
    ·rw[Z.out.2];exact .inl ⟨rfl,rfl⟩
    ·intro b a6 n c e;cases e
    ·intro b a6 n c e;cases e
theorem sR{S T:Nat->Prop}{w w':World}(h:ag S w w')(i:∀k,S k->T k):ag T w w':=⟨h.1,h.2.1,h.2.2.1,h.2.2.2.1,fun k b hs=>h.2.2.2.2 k b fun q=>hs (i k q)⟩
def vv:List Value:=[.pointer none]++(ae_ 2000 (.bool false)++(ae_ 16 (.int .i64 0)++([.map none]++(ae_ 2000 (.bool false)++(ae_ 16 (.int .i64 0)++[.bool false,.int .i64 0])))))
theorem Ly:afa.toList=vv:=by kernel_rfl
theorem LA:vv.length=4036:=by simp only[vv,afh,afe,afj,afm]
theorem Th{Z:Array Value}(b:Z.toList=vv)(DB M:Nat){k:Nat}{v:Value}(h:vv[k]?=some v)(q:k≠0)(s:k≠2017):((Z.setIfInBounds 0 (.pointer (some ⟨DB,0,none⟩))).setIfInBounds 2017 (.map (some M)))[k]?=some v:=by
 rw[ae5 (by omega),ae5 (by omega),<-Array.getElem?_toList,b];exact h
theorem LB(w:World)(DB M:Nat)(z:M<w.heap.size)(t:TypeId)(y:MapAt w M 0 fun _=>none){Z:Array Value}(s:Z.toList=vv):
  aF (w.alloc (.cells ((Z.setIfInBounds 0 (.pointer (some ⟨DB,0,none⟩))).setIfInBounds 2017 (.map (some M))) t)) w.heap.size DB M 0 lx lx (fun _=>none) false 0:=by
 have hs:Z.size=4036:=by rw[<-Array.length_toList,s,LA]
 have b:((Z.setIfInBounds 0 (.pointer (some ⟨DB,0,none⟩))).setIfInBounds 2017 (.map (some M)))[0]?=some (.pointer (some ⟨DB,0,none⟩)):=by
  rw[ae5 (by omega),ae6 (by omega)]
 have q:((Z.setIfInBounds 0 (.pointer (some ⟨DB,0,none⟩))).setIfInBounds 2017 (.map (some M)))[2017]?=some (.map (some M)):=by
  rw[ae6 (by rw[Array.size_setIfInBounds];omega)]
 have hn:=fun k v h b q=>Th s DB M (k:=k) (v:=v) h b q;generalize(Z.setIfInBounds 0 (.pointer (some ⟨DB,0,none⟩))).setIfInBounds 2017 (.map (some M))=C at*;have hc:∀k v,C[k]?=some v->(w.alloc (.cells C t)).cell? ⟨w.heap.size,k,none⟩=some v:=fun k v h=>by rw[ae7];exact h
 refine⟨hc _ _ b,⟨fun i hi=>?_,fun i hi=>?_,fun i hi=>?_⟩,hc _ _ q,⟨fun i hi=>?_,fun i hi=>?_,fun i hi=>?_⟩,?_,?_,fun o=>by simp,y.gr ((Gr.refl w).alloc _),by omega⟩
 all_goals refine hc _ _ (hn _ _ ?_ (by omega) (by omega))
 all_goals simp only[vv,List.getElem?_append,afb,afj,afm,afe,lx]
 all_goals(repeat' split)
 all_goals first|omega|rfl|skip
def Aq(DB:Nat)(d:Dk)(w:World)(e:Ending)(w':World):Prop:=
 iJ w' DB (fu d (jZ d.pg)).2/\ag (fun b=>b=DB) w w'/\
  if(fu d (jZ d.pg)).1 then∃PB M,e=.returned (.tuple #[.pointer (some ⟨PB,0,none⟩),.nilIface])/\aF w' PB DB M 0 (headD (fu d (jZ d.pg)).2.pg) (headD (fu d (jZ d.pg)).2.pg) (fun _=>none) false 0/\w.heap.size<=PB/\w.heap.size<=M
  else e=.returned (.tuple #[.pointer none,.iface 24 (.int .i64 14)])
theorem Ti(DB:Nat)(d:Dk)(w:World)(hd:iJ w DB d)(hw:d.whole)(hl:-890000<=d.left/\d.left<=1000000):
  Calls ae4 35 #[.pointer (some ⟨DB,0,none⟩)] w (Aq DB d w):=by
 have HD:=ae3 hd;have HW:=ae3 hw;have g0:=hd.lt;clear hd hw;have h3:=fun w=>run_makeMap (P:=ae4) 152 w;have HN:Hid (aF ((w.alloc (.map #[] 0)).alloc (.cells ((afa.setIfInBounds 0 (.pointer (some ⟨DB,0,none⟩))).setIfInBounds 2017 (.map (some w.heap.size))) 158)) (w.heap.size+1) DB w.heap.size 0 lx lx (fun _=>none) false 0):=ae3 (by
  have:=LB (w.alloc (.map #[] 0)) DB w.heap.size (by simp) 158 (MapAt.made w) Ly;simpa using this)
 go_enter Tryz.func35,Tryz.ntmps35;go_wp2_with fail
 generalize((afa.setIfInBounds 0 (.pointer (some ⟨DB,0,none⟩))).setIfInBounds 2017 (.map (some w.heap.size)))=Z at*;have a3:Gr w ((w.alloc (.map #[] 0)).alloc (.cells Z 158)):=((Gr.refl w).alloc _).alloc _;generalize(w.alloc (.map #[] 0)).alloc (.cells Z 158)=w1 at*;have d6:=ae3 a3;have c0:=ae3 (HD.out.gr a3);clear a3;have d7:¬(fun b=>b=DB) (w.heap.size+1):=fun e=>absurd e (by omega);have d8:¬(fun b=>b=DB) w.heap.size:=fun e=>absurd e (by omega);refine(OT DB d w1 c0.out HW.out).mono ?_;rintro e w2 ⟨pv,lv,rfl,a4,c1,c2,c3,Q⟩;obtain⟨po,pc,rfl⟩:=a4.form;have N2:=ae3 (HN.out.gr Q);have a5:=ae3 (c0.out.gr Q);have c4:=ae3 (d6.out.trans Q);have c5:=ae3 a4;have d9:=ae3 c1;have e0:=ae3 c2;have e1:=ae3 c3;have e2:=ae3 (I1 d.pg);have e3:=ae3 (za d.pg);have e4:=ae3 (zb HW.out);have c6:Hid ((eE d.pg).length<=2000):=ae3 (by
  have h1:=Bo d.pg;unfold eE
  split
  ·exact h1
  ·exact afp _)
 have c7:Hid (jZ d.pg=if eE d.pg=[]then[]else kL (eE d.pg) (je d.pg)):=ae3 rfl;have e5:=ae3 (OK HW.out);have c8:Hid ((fu d (jZ d.pg)).2.whole):=ae3 (sI _ HW.out e5.out);clear a4 c1 c2 c3 Q;generalize eE d.pg=ps at*;generalize je d.pg=L at*;cases ps with
 |nil=>
  have HE:Hid (fu d (jZ d.pg)=(true,d)):=ae3 (by rw[c7.out,if_pos rfl];rfl);have U:=ae3 (ag.ak (S:=fun b=>b=DB) c4.out);have a6:∀w,iJ w DB d->Calls ae4 81 #[.pointer (some ⟨DB,0,none⟩),.int .i64 0] w (ar w (.tuple #[.string (bO d.pg 0),.nilIface])):=fun w h=>qZ DB d.pg d.cut d.left d.torn 0 (by omega) w h;have H:(bO d.pg 0).size=1024:=HW.out 0 (by omega);obtain⟨A,y⟩:∃A:Array Value,A=(headD d.pg).cells.toArray:=⟨_,rfl⟩;have a7:∀w,Calls ae4 82 #[.string (bO d.pg 0)] w (ar w (.agg A)):=fun w=>by rw[y];exact IV (bO d.pg 0) H w
  have hA:=ae3 y;clear y H;have O:∃hh,headD d.pg=hh:=⟨_,rfl⟩;obtain⟨hh,z⟩:=O;rw[z]at hA;have a8:=ae3 z;clear z;generalize bO d.pg 0=s0 at*;go_wp2_with fail
  refine(a6 _ a5.out).mono ?_;rintro e w4 ⟨rfl,B⟩;have N4:=ae3 (N2.out.gr B);have a9:=ae3 (a5.out.gr B);have b0:=ae3 (U.out.trans (ag.ak B));go_wp2_with(first
   |( go_at_call 82;refine(a7 _).mono ?_;rintro e w5 ⟨rfl,D⟩
      have N5:=ae3 (N4.out.gr D);have b1:=ae3 (a9.out.gr D);have b2:=ae3 (b0.out.trans (ag.ak D)))
   |( refine ij rfl _ _ rfl (w.heap.size+1) 1 _ _ _ rfl rfl hA.out N5.out.head N5.out.free ?_;intro w6 b3
      have q:=ae3 (Bs b3 N5.out))
   |( refine pn rfl _ rfl (w.heap.size+1) 1 _ rfl q.out.1.head ?_;intro A3 b4)
   |( refine ij rfl _ _ rfl (w.heap.size+1) 2018 _ _ _ rfl rfl b4.out q.out.1.saved q.out.1.free ?_;intro w7 b5
      have I:=ae3 (Bt b5 q.out.1)))
  go_ret2;rw[Aq,HE.out];have J:=I.out.1;rw[<-a8.out]at J;have M:=q.out.2.trans I.out.2;have s:ag (fun k=>k=DB\/k=w.heap.size+1) w w7:=(sR b2.out fun _ h=>.inl h).trans (sR M fun _ h=>.inr h);refine⟨b1.out.aC M (fun e=>by omega),⟨s.1,s.2.1,s.2.2.1,s.2.2.2.1,fun k hk hs=>s.2.2.2.2 k hk (fun e=>e.elim hs (fun e=>by omega))⟩,?_⟩;exact⟨w.heap.size+1,w.heap.size,rfl,J,by omega,afl _⟩
 |cons p0 V=>
  have a2:(p0::V).length=V.length+1:=rfl;rw[a2]at c5⊢;have e6:=c6.out;rw[a2]at e6;go_wp2_with fail
  refine(OQ DB d (p0::V) L _ _ w2 c5.out d9.out e0.out e1.out e2.out e3.out e4.out c6.out a5.out HW.out (by omega)).mono ?_;rintro e w3 ⟨rfl,b6,b7⟩;have e7:Hid (jZ d.pg=kL (p0::V) L):=ae3 (by rw[c7.out,if_neg (by simp)]);rw[<-e7.out]at b6⊢;have Y:=ae3 b6;have N3:=ae3 (N2.out.aC b7 d7 d8);have U:=ae3 ((ag.ak (S:=fun b=>b=DB) c4.out).trans b7);clear b6 b7;obtain⟨r3,b8⟩:∃r3,fu d (jZ d.pg)=r3:=⟨_,rfl⟩;have HE:=ae3 b8;rw[b8]at Y c8⊢;clear b8;obtain⟨e8,G⟩:=r3;cases e8
  ·unfold Ei;go_wp2_with fail
   go_ret2;rw[Aq,HE.out];exact⟨Y.out,U.out,rfl⟩
  ·unfold Ei;have a6:∀w,iJ w DB G->Calls ae4 81 #[.pointer (some ⟨DB,0,none⟩),.int .i64 0] w (ar w (.tuple #[.string (bO G.pg 0),.nilIface])):=fun w h=>qZ DB G.pg G.cut G.left G.torn 0 (by omega) w h;have H:(bO G.pg 0).size=1024:=c8.out 0 (by omega);obtain⟨A,y⟩:∃A:Array Value,A=(headD G.pg).cells.toArray:=⟨_,rfl⟩;have a7:∀w,Calls ae4 82 #[.string (bO G.pg 0)] w (ar w (.agg A)):=fun w=>by rw[y];exact IV (bO G.pg 0) H w
   have hA:=ae3 y;clear y H;have O:∃hh,headD G.pg=hh:=⟨_,rfl⟩;obtain⟨hh,z⟩:=O;rw[z]at hA;have a8:=ae3 z;clear z;generalize bO G.pg 0=s0 at*;go_wp2_with fail
   refine(a6 _ Y.out).mono ?_;rintro e w4 ⟨rfl,B⟩;have N4:=ae3 (N3.out.gr B);have a9:=ae3 (Y.out.gr B);have b0:=ae3 (U.out.trans (ag.ak B));go_wp2_with(first
     |(go_at_call 82;refine(a7 _).mono ?_;rintro e w5 ⟨rfl,D⟩
       have N5:=ae3 (N4.out.gr D);have b1:=ae3 (a9.out.gr D);have b2:=ae3 (b0.out.trans (ag.ak D)))
     |(refine ij rfl _ _ rfl (w.heap.size+1) 1 _ _ _ rfl rfl hA.out N5.out.head N5.out.free ?_;intro w6 b3
       have q:=ae3 (Bs b3 N5.out))
     |(refine pn rfl _ rfl (w.heap.size+1) 1 _ rfl q.out.1.head ?_;intro A3 b4)
     |(refine ij rfl _ _ rfl (w.heap.size+1) 2018 _ _ _ rfl rfl b4.out q.out.1.saved q.out.1.free ?_;intro w7 b5
       have I:=ae3 (Bt b5 q.out.1)))
   go_ret2;rw[Aq,HE.out];have J:=I.out.1;rw[<-a8.out]at J;have M:=q.out.2.trans I.out.2;have s:ag (fun k=>k=DB\/k=w.heap.size+1) w w7:=(sR b2.out fun _ h=>.inl h).trans (sR M fun _ h=>.inr h);refine⟨b1.out.aC M (fun e=>by omega),⟨s.1,s.2.1,s.2.2.1,s.2.2.2.1,fun k hk hs=>s.2.2.2.2 k hk (fun e=>e.elim hs (fun e=>by omega))⟩,?_⟩;exact⟨w.heap.size+1,w.heap.size,rfl,J,by omega,afl _⟩
theorem kn(j:Nat):eC.data.toList.getD j 0=0:=by
 rw[wB];unfold lr;rw[List.nil_append,ae9,afb]
 split<;>rfl
theorem GB{pg:Nat->ByteArray}(h:od pg=[]):eE pg=[]:=by
 unfold eE;rw[h]
 split<;>rfl
theorem I9{pg:Nat->ByteArray}(h:∀j,2<=j->(bO pg 2000).data.toList.getD j 0=0):od pg=[]:=by
 unfold od;rw[List.filter_eq_nil_iff];intro k _ b;unfold iW at b;rw[h _ (by omega)]at b;simp at b
theorem Dj{pg:Nat->ByteArray}(h:bO pg 2000=eC):eE pg=[]:=GB (I9 fun j _=>by rw[h];exact kn j)
structure mK(w:World)(PB DB M n:Nat)(c:Ch)(sv:Head)(t:Int)(d:Dk):Prop where
 pg:∃n',n'<=n/\aF w PB DB M n' c.h sv c.F false t
 dk:iJ w DB d
 Wl:PB≠DB
 Wm:M≠DB
def aM(PB DB M q:Nat)(w w':World):Prop:=(q=M\/w.heap.size<=q)/\ag (fun b=>b=PB\/b=DB\/b=M) w w'
theorem aM.refl(PB DB M:Nat)(w:World):aM PB DB M M w w:=⟨.inl rfl,ag.refl _ _⟩
theorem aM.trans{PB DB M H B:Nat}{w w' D:World}(h:aM PB DB M H w w')(k:aM PB DB H B w' D):aM PB DB M B w D:=by
 obtain⟨s,y⟩:=h;obtain⟨G,z⟩:=k;have hs:=y.2.2.2.1;refine⟨?_,z.1.trans y.1,z.2.1.trans y.2.1,z.2.2.1.trans y.2.2.1,afo hs z.2.2.2.1,fun b I q=>?_⟩
 ·rcases G with rfl|G
  ·exact s
  ·exact .inr (afo hs G)
 ·refine(z.2.2.2.2 b (Nat.lt_of_lt_of_le I hs) fun e=>?_).trans (y.2.2.2.2 b I q);rcases e with e|e|e
  ·exact q (.inl e)
  ·exact q (.inr (.inl e))
  ·rcases s with s|s
   ·exact q (.inr (.inr (e.trans s)))
   ·omega
theorem aM.ak(PB DB M:Nat){w w':World}(g:Gr w w'):aM PB DB M M w w':=⟨.inl rfl,ag.ak g⟩
theorem aM.keeps{PB DB M q:Nat}{w w':World}(h:aM PB DB M q w w'){b o:Nat}{v:Value}(s:b≠PB)(y:b≠DB)(z:b≠M)(hc:w.cell? ⟨b,o,none⟩=some v):w'.cell? ⟨b,o,none⟩=some v:=
 h.2.keeps (fun e=>e.elim s fun e=>e.elim y z) hc
theorem aM.size{PB DB M b:Nat}{w w':World}(h:aM PB DB M b w w'):w.heap.size<=w'.heap.size:=h.2.2.2.2.1
theorem mK.gr{w w':World}{PB DB M n:Nat}{c:Ch}{sv:Head}{t:Int}{d:Dk}(h:mK w PB DB M n c sv t d)(g:Gr w w'):mK w' PB DB M n c sv t d:=by
 obtain⟨⟨b,q,s⟩,y,z,B⟩:=h;exact⟨⟨b,q,s.gr g⟩,y.gr g,z,B⟩
theorem mK.mono{w:World}{PB DB M n m:Nat}{c:Ch}{sv:Head}{t:Int}{d:Dk}(h:mK w PB DB M n c sv t d)(B:n<=m):mK w PB DB M m c sv t d:=by
 obtain⟨⟨b,D,q⟩,s,y,z⟩:=h;exact⟨⟨b,by omega,q⟩,s,y,z⟩
theorem mK.lt{w:World}{PB DB M n:Nat}{c:Ch}{sv:Head}{t:Int}{d:Dk}(h:mK w PB DB M n c sv t d):PB<w.heap.size/\DB<w.heap.size/\M<w.heap.size:=by
 obtain⟨⟨s,y,b⟩,q,z,B⟩:=h;exact⟨b.lt,q.lt,b.g_.lt⟩
theorem rm{PB DB M:Nat}{w w':World}(h:ag (fun b=>b=PB\/b=M) w w'):ag (fun b=>b=PB\/b=DB\/b=M) w w':=sR h fun _ e=>e.elim .inl fun e=>.inr (.inr e)
def ik(c:Ch):Value:=match bZ c.h with|none=>.tuple #[.int .i64 0,.iface 24 (.int .i64 12)]|some k=>.tuple #[.int .i64 k,.nilIface]
theorem Ar{PB DB M:Nat}{w w':World}{d:Dk}(h:iJ w DB d)(q:PB≠DB)(s:M≠DB)(g:ag (fun b=>b=PB\/b=M) w w'):iJ w' DB d:=h.aC g fun e=>e.elim (fun e=>q e.symm) fun e=>s e.symm
section
variable{w:World}{PB DB M n:Nat}{c:Ch}{sv:Head}{t:Int}{d:Dk}
theorem Rg(h:mK w PB DB M n c sv t d)(hn:n<1000000):Calls ae4 199 #[.pointer (some ⟨PB,0,none⟩)] w fun e w'=>e=.returned (ik c)/\mK w' PB DB M (n+1) c.alloc sv t d/\aM PB DB M M w w':=by
 obtain⟨⟨b,D,q⟩,z,s,y⟩:=h;unfold ik Ch.alloc;cases ha:bZ c.h with
 |none=>
  refine(Br PB DB M b c.h sv c.F t w q ha).mono ?_;rintro e w' ⟨rfl,g⟩;exact⟨rfl,⟨⟨b,by omega,q.gr g⟩,z.gr g,s,y⟩,aM.ak _ _ _ g⟩
 |some k=>
  have B:k<2000:=aff.1 (List.mem_of_find?_eq_some ha);refine(OR PB DB M b c.h sv c.F t (by omega) w q B ha).mono ?_;rintro e w' ⟨rfl,p,g⟩;exact⟨rfl,⟨⟨b+1,by omega,p⟩,Ar z s y g,s,y⟩,.inl rfl,rm g⟩
def Nj(b:Bool):Value:=if b then .nilIface else .iface 24 (.int .i64 2)
theorem Tj(h:mK w PB DB M n c sv t d)(k:Int):Calls ae4 204 #[.pointer (some ⟨PB,0,none⟩),.int .i64 k] w fun e w'=>e=.returned (Nj (d_ c.h k))/\mK w' PB DB M (n+1) (c.free k) sv t d/\aM PB DB M M w w':=by
 obtain⟨⟨b,B,q⟩,z,s,y⟩:=h;unfold Ch.free;cases hu:d_ c.h k with
 |false=>
  refine(Gv PB DB M b c.h sv c.F false t k w q hu).mono ?_;rintro e w' ⟨rfl,g⟩;exact⟨rfl,⟨⟨b,by omega,q.gr g⟩,z.gr g,s,y⟩,aM.ak _ _ _ g⟩
 |true=>
  obtain⟨m,rfl,D⟩:=gJ.1 hu;refine(Q4 PB DB M b c.h sv c.F t m w q hu).mono ?_;rintro e w' ⟨rfl,p,g⟩;exact⟨rfl,⟨⟨b,by omega,p⟩,Ar z s y g,s,y⟩,.inl rfl,rm g⟩
theorem Rh(h:mK w PB DB M n c sv t d)(hn:n<1000000)(k:Int)(s:ByteArray)(hs:s.size=1024):Calls ae4 251 #[.pointer (some ⟨PB,0,none⟩),.int .i64 k,.string s] w fun e w'=>e=.returned (Nj (d_ c.h k))/\mK w' PB DB M (n+1) (c.write k s) sv t d/\aM PB DB M M w w':=by
 obtain⟨⟨b,D,q⟩,B,y,z⟩:=h;unfold Ch.write;cases hu:d_ c.h k with
 |false=>
  refine(Dg PB DB M b c.h sv c.F false t k s w q hu).mono ?_;rintro e w' ⟨rfl,g⟩;exact⟨rfl,⟨⟨b,by omega,q.gr g⟩,B.gr g,y,z⟩,aM.ak _ _ _ g⟩
 |true=>
  refine(OL PB DB M b c.h sv c.F t k s hs (by omega) w q hu).mono ?_;rintro e w' ⟨rfl,p,g⟩;exact⟨rfl,⟨⟨b+1,by omega,p⟩,Ar B y z g,y,z⟩,.inl rfl,rm g⟩
theorem LC(h:mK w PB DB M n c sv t d)(i:Nat)(k m:Int)(hi:i<8)(y:0<=k/\k<2000)(z:0<=m/\m<65536):Calls ae4 202 #[.pointer (some ⟨PB,0,none⟩),.int .i64 i,.int .i64 k,.int .i64 m] w fun e w'=>e=.returned .nilIface/\mK w' PB DB M n ⟨c.h.dE i k m,c.F⟩ sv t d/\aM PB DB M M w w':=by
 obtain⟨⟨b,G,B⟩,D,q,s⟩:=h;refine(I6 PB DB M b c.h sv c.F t i k m hi y z w B).mono ?_;rintro e w' ⟨rfl,p,g⟩;exact⟨rfl,⟨⟨b,by omega,p⟩,Ar D q s g,q,s⟩,.inl rfl,rm g⟩
theorem Tk(h:mK w PB DB M n c sv t d)(k:Int):Calls ae4 170 #[.pointer (some ⟨PB,0,none⟩),.int .i64 k] w (ar w (if d_ c.h k then .tuple #[.string (eT d.pg c.F k.toNat),.nilIface]else .tuple #[.string ⟨#[]⟩,.iface 24 (.int .i64 2)])):=by
 obtain⟨⟨b,y,q⟩,s,z,B⟩:=h;cases hu:d_ c.h k with
 |false=>exact Gu PB DB M b c.h sv c.F false t k w q hu
 |true=>
  obtain⟨m,rfl,D⟩:=gJ.1 hu;exact Q3 PB DB M b c.h sv c.F t d.pg d.cut d.left d.torn m w q s hu
theorem GC(h:mK w PB DB M n c sv t d)(k:Nat)(b:k<8):Calls ae4 83 #[.pointer (some ⟨PB,0,none⟩),.int .i64 k] w (ar w (.tuple #[.int .i64 (c.h.roots k),.int .i64 (c.h.notes k),.nilIface])):=by
 obtain⟨⟨q,y,s⟩,_⟩:=h;exact Ra PB DB M q c.h sv c.F false t k b w s
end
def rF:Dk:=⟨fun _=>⟨#[]⟩,false,0,0⟩
def fV:Head:=⟨fun i=>i==0,fun _=>0,fun _=>0⟩
theorem pB:fV.aA:=⟨rfl,fun _ _=>⟨by show(0:Int)<=0;omega,by show(0:Int)<2000;omega⟩,fun _ _=>⟨by show(0:Int)<=0;omega,by show(0:Int)<65536;omega⟩⟩
theorem rG(k:Nat):bO rF.pg k=eC:=by
 unfold bO;rw[if_pos];rw[ae8]
 rfl
theorem tk:headD rF.pg=fV:=by
 unfold headD;rw[rG];unfold mV fV eA
 congr 1
 ·funext i
  rw[kn];simp
 ·funext i
  rw[kn,kn]
  rfl
 ·funext i
  rw[kn,kn]
  rfl
structure Clean(d:Dk)(sv:Head):Prop where
 whole:d.whole
 log:bO d.pg 2000=eC
 head:(headD d.pg).same sv
 aA:sv.aA
theorem Nz:Clean rF fV:=⟨fun k _=>by rw[rG];exact n_,rG _,by rw[tk];exact Head.same.refl _,pB⟩
theorem Clean.jZ{d:Dk}{b:Head}(h:Clean d b):jZ d.pg=[]:=by
 unfold Go.Proofs.YtldmhjbdahjhdaaGreatDoor.jZ;rw[if_pos (Dj h.log)]
theorem L_:afk=Array.replicate 4001 (.string ⟨#[]⟩)++#[.bool false,.int .i64 0,.int .i64 0]:=by kernel_rfl
theorem Cc(w:World):iJ (w.alloc (.cells afk 89)) w.heap.size rF:=by
 rw[L_];refine⟨fun k b=>?_,?_,?_,?_,fun o=>by simp⟩
 ·rw[ae7,Array.getElem?_append_left (by simpa using b)];simp[b,rF]
 all_goals
  rw[ae7,Array.getElem?_append_right (by simp)];simp[rF]
theorem NA(DB:Nat)(d:Dk)(z:Head)(w:World)(hd:iJ w DB d)(hc:Clean d z)(B:-890000<=d.left/\d.left<=1000000):
  Calls ae4 35 #[.pointer (some ⟨DB,0,none⟩)] w fun e w'=>∃q M,e=.returned (.tuple #[.pointer (some ⟨q,0,none⟩),.nilIface])/\mK w' q DB M 0 (.new (headD d.pg)) (headD d.pg) 0 d/\w.heap.size<=q/\w.heap.size<=M/\ag (fun b=>b=DB) w w':=by
 have J:=hd.lt;refine(Ti DB d w hd hc.whole B).mono ?_;rintro e w' ⟨y,D,s⟩;rw[hc.jZ]at y s;rw[xP]at y s;rw[if_pos rfl]at s;obtain⟨q,M,rfl,G,H,I⟩:=s;exact⟨q,M,rfl,⟨⟨0,afl _,G⟩,y,by omega,by omega⟩,H,I,D⟩
