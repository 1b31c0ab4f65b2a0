/-
  Part 16 of the proof.
-/
import Derived.Deep.OwnRows
import Derived.Deep.RegionHeld3
import Derived.Test.YtldmhjbdahjhdaaGreatDoorZb2
open Go.Proofs.Tryz renaming prog->aoq,underlying22->aoA,ntmps131->ao3,underlying188->ao4,func131->ao9,underlying9->ao_,underlying5->apa,ntmps33->apt,ntmps78->apu,func33->apx,func78->apy
open Go.Lib renaming hid->aor,indexByte->aoz,extract_data->aoT,indexAny->aoV,hasSuffix->ao2,indexAny_none->ao8,indexAny_hit->apb,containsAny->aph,trimSuffix->apj,validRune->apm
open Bool renaming eq_false_iff->aos,and_eq_true->aoC,false_eq_true->aoM,or_eq_true->aoW,eq_iff_iff->apg
open List renaming length_append->aot,getElem?_eq_getElem->aou,all_eq_true->aow,drop_eq_nil_of_le->aoy,map_append->aoD,take_of_length_le->aoE,length_take->aoH,length_drop->aoI,takeWhile_cons->aoJ,getElem?_take->aoK,drop_eq_getElem_cons->aoO,getElem?_eq_some_iff->aoP,mem_cons->aoS,tail_suffix->aoU,all_append->aoX,mem_of_getElem?->aoZ,mem_of_mem_take->ao0,dropWhile_cons->ao1,mem_cons_self->ao5,getElem?_map->ao6,getElem_mem->apc,length->apd,append_nil->ape,nil_append->apf,all_cons->apl,map_nil->apo,mem_map->apr
open Go.ByteArray renaming toList_eq->aov
open Go.Instr renaming index->aox
open Go.Value renaming string->aoB
open Option renaming map_eq_some_iff->aoF
open UInt8 renaming le_iff_toNat_le->aoG,toNat_lt->aoY,toNat_inj->api,ofNat->apw
open Array renaming getElem?_eq_some_iff->aoL
open Go.World renaming cell?_setCell_other->aoN,cell?_setCell_same->aoR
open Nat renaming le_refl->aoQ,lt_irrefl->apk,le_of_lt->apn,le_trans->apq,add_zero->aps,zero_le->apv
open Option.some renaming injEq->ao7,inj->apz
set_option maxRecDepth 100000
set_option maxHeartbeats 100000000
set_option linter.all false
namespace Go.Proofs.YtldmhjbdahjhdaaGreatDoor
section
open Go Go.RowKit
def pW(w:World)(b:Nat)(l:List UInt8):Prop:=∀i (h:i<l.length),w.cell? ⟨b,i,none⟩=some (.int .u8 (l[i].toNat:Int))/\w.frozen? ⟨b,i,none⟩=false
theorem pW.set{w:World}{b:Nat}{l:List UInt8}(h:pW w b l)(k:Nat)(s:k<l.length)(c:UInt8):pW (w.setCell ⟨b,k,none⟩ (.int .u8 (c.toNat:Int))) b (l.set k c):=by
 intro i hi;have q:i<l.length:=by simpa using hi
 refine⟨?_,by simpa using(h i q).2⟩;by_cases e:k=i
 ·subst e;rw[aoR (w:=w) (a:=⟨b,k,none⟩) (v:=.int .u8 (c.toNat:Int)) (h:=(h k s).1)];simp
 ·rw[aoN (w:=w) (a:=⟨b,k,none⟩) (b:=⟨b,i,none⟩) (v:=.int .u8 (c.toNat:Int)) (h:=by intro h;injection h with _ y _;exact e y),(h i q).1];simp[e]
theorem FD(w:World)(s:ByteArray)(cap:Nat)(t:TypeId):pW (w.alloc (.cells (bytesRow s cap) t ((bytesRow s cap).size,(bytesRow s cap).size+1))) w.heap.size s.data.toList:=by
 intro i hi;have b:i<s.data.size:=by simpa using hi
 have q:i<(bytesRow s cap).size:=by
  unfold bytesRow;rw[Array.size_append,Array.size_map];omega
 refine⟨?_,?_⟩
 ·rw[World.cell?_alloc_mark];unfold bytesRow;rw[Array.getElem?_append_left (by simpa using b),Array.getElem?_map,Array.getElem?_eq_getElem b];simp
 ·rw[World.frozen?_alloc_mark];simp;omega
def dp(c:UInt8):UInt8:=if 65<=c/\c<=90 then c+32 else c
def cX(s:ByteArray):ByteArray:=⟨(s.data.toList.map dp).toArray⟩
def pX(l:List UInt8)(j:Nat):List UInt8:=(l.take j).map dp++l.drop j
theorem wk(l:List UInt8)(j:Nat):(pX l j).length=l.length:=by simp[pX];omega
theorem AB(l:List UInt8)(j i:Nat)(b:j<=l.length):(pX l j)[i]?=if i<j then l[i]?.map dp else l[i]?:=by
 unfold pX
 split
 ·rename_i h
  rw[List.getElem?_append_left (by simp;omega),ao6,aoK,if_pos h]
 ·rename_i h
  rw[List.getElem?_append_right (by simp;omega),List.getElem?_drop]
  congr 1
  simp;omega
theorem DL(l:List UInt8)(j:Nat)(h:j<l.length)(b:j<(pX l j).length):(pX l j)[j]=l[j]:=by
 have:=AB l j j (apn h);rw[if_neg (apk j),aou h,aou b]at this;exact apz this
theorem AD(l:List UInt8)(j:Nat)(h:j<l.length):pX l (j+1)=(pX l j).set j (dp l[j]):=by
 apply List.ext_getElem?;intro i;rw[AB l (j+1) i h,List.getElem?_set,AB l j i (apn h)];by_cases e:j=i
 ·subst e;rw[if_pos (by omega),if_pos rfl,if_pos (by rw[wk];exact h),aou h]
  rfl
 ·rw[if_neg e];by_cases b:i<j
  ·rw[if_pos (by omega),if_pos b]
  ·rw[if_neg (by omega),if_neg b]
theorem N8(l:List UInt8)(j:Nat)(h:l.length<=j):pX l j=l.map dp:=by
 unfold pX;rw[aoE h,aoy h,ape]
theorem yJ(c:UInt8)(s:(65:Int)<=(c.toNat:Int))(y:(c.toNat:Int)<=90):((dp c).toNat:Int)=(c.toNat:Int)+32:=by
 have b:(65:UInt8)<=c:=by rw[aoG];simpa using(by omega:65<=c.toNat)
 have q:c<=(90:UInt8):=by rw[aoG];simpa using(by omega:c.toNat<=90)
 unfold dp;rw[if_pos ⟨b,q⟩,UInt8.toNat_add];simp;omega
theorem AE(c:UInt8)(h:¬((65:Int)<=(c.toNat:Int)/\(c.toNat:Int)<=90)):dp c=c:=by
 unfold dp;rw[if_neg];rintro⟨b,q⟩;rw[aoG]at b q;simp at b q;omega
theorem Io(s:ByteArray)(hs:s.size<=9223372036854775807)(w:World):Calls aoq 86 #[.string s] w (ar w (.string (cX s))):=by
 have J:=fun w=>run_bytes_of_string (P:=aoq) w 9 188 5 s ao_ ao4 apa;go_enter Tryz.func86,Tryz.ntmps86;go_wp2_with fail
 clear J;have z:pW (w.alloc (Obj.cells (bytesRow s (grownCap w s.size 0 5)) 5 ((bytesRow s (grownCap w s.size 0 5)).size,(bytesRow s (grownCap w s.size 0 5)).size+1))).drew w.heap.size (pX s.data.toList 0):=
  FD w s (grownCap w s.size 0 5) 5
 generalize grownCap w s.size 0 5=cap at*;have B:Gr w (w.alloc (Obj.cells (bytesRow s cap) 5 ((bytesRow s cap).size,(bytesRow s cap).size+1))).drew:=(Gr.alloc (Gr.refl w) _).drew;generalize(w.alloc (Obj.cells (bytesRow s cap) 5 ((bytesRow s cap).size,(bytesRow s cap).size+1))).drew=w0 at*;have L:=aor z;clear z;go_loopw [10] (fun i w'=>∃j:Nat,j<=s.size/\i=.int .i64 j/\Gr w w'/\pW w' w.heap.size (pX s.data.toList j)) (fun i _=>s.size-(intOf i).toNat)
 case atStart=>exact⟨0,apv _,rfl,B,L.out⟩
 case round=>
  obtain⟨j,O,rfl,G,Q⟩:=hrel;have q:=aor Q;clear Q B;by_cases M:j<s.size
  ·have y:j<s.data.toList.length:=by rw[<-size_data];exact M
   have b:j<(pX s.data.toList j).length:=by rw[wk];exact y
   have hc:=(q.out j b).1;have hf:=(q.out j b).2;rw[DL _ _ y]at hc;generalize D:s.data.toList[j]=c at*;have H:=aor D;clear D;have Y:=aoY c;go_wp2_with fail
   ·have S:(65:Int)<=(c.toNat:Int):=by assumption
    have U:(c.toNat:Int)<=90:=by assumption
    have e:(c.toNat:Int)+97-65=((dp c).toNat:Int):=by rw[yJ c S U];omega
    refine⟨⟨j+1,by omega,by go_num,G.setCell (aoQ _) _,?_⟩,by simp[intOf];omega⟩;rw[e,AD _ _ y,H.out];exact q.out.set j b _
   all_goals
    have e:dp c=c:=AE c (by omega);refine⟨⟨j+1,by omega,by go_num,G,?_⟩,by simp[intOf];omega⟩;rw[AD _ _ y,H.out,e,<-H.out,<-DL _ _ y b,List.set_getElem_self];exact q.out
  ·have I:=q.out;rw[N8 _ _ (by rw[<-size_data];omega)]at I;have Z:(convert 188 9 (.slice (some ⟨w.heap.size,0,none⟩) s.size cap)).run aoq wr=.ok (.string (cX s)) wr:=by
    have:=run_convert_bytes_back (P:=aoq) wr 188 9 5 ⟨w.heap.size,0,none⟩ cap (s.data.toList.map dp) ao4 apa ao_
     (fun j O=>by
      have:=(I j O).1;unfold Addr.add
      split
      ·rename_i V;subst V;exact this
      ·simpa using this)
    rw[List.length_map,<-size_data]at this;exact this
   clear I;go_wp2_with fail
   go_ret;exact ar.mk rfl G
def ll:List (List UInt8×List UInt8):=[([115,115,101,115],[115,115]),([105,101,115],[121]),([115,115],[115,115]),([105,110,103],[]),([101,100],[]),([101,115],[101]),([115],[])]
def eI:Array Value:=#[.string ⟨#[115,115,101,115]⟩,.string ⟨#[115,115]⟩,.string ⟨#[105,101,115]⟩,.string ⟨#[121]⟩,.string ⟨#[115,115]⟩,.string ⟨#[115,115]⟩,.string ⟨#[105,110,103]⟩,.string ⟨#[]⟩,.string ⟨#[101,100]⟩,.string ⟨#[]⟩,.string ⟨#[101,115]⟩,.string ⟨#[101]⟩,.string ⟨#[115]⟩,.string ⟨#[]⟩]
def mO(j:Nat):ByteArray:=⟨(ll.getD j ([],[])).1.toArray⟩
def ux(j:Nat):ByteArray:=⟨(ll.getD j ([],[])).2.toArray⟩
def dO(w:World):Prop:=∃t b,w.heap[(0:Nat)]?=some (.cells eI t b)
theorem dO.lt{w:World}(h:dO w):0<w.heap.size:=by
 obtain⟨t,b,h⟩:=h;exact(aoL.1 h).1
theorem dO.gr{w w':World}(h:dO w)(g:Gr w w'):dO w':=by
 have b:=h.lt;obtain⟨t,q,h⟩:=h;exact⟨t,q,by rw[g.block _ b];exact h⟩
theorem Kz(w:World):(aox 228 (.agg eI) (.int .i64 0)).run aoq w=.ok (.agg #[.string (mO 0),.string (ux 0)]) w:=by kernel_rfl
theorem KA(w:World):(aox 228 (.agg eI) (.int .i64 1)).run aoq w=.ok (.agg #[.string (mO 1),.string (ux 1)]) w:=by kernel_rfl
theorem KB(w:World):(aox 228 (.agg eI) (.int .i64 2)).run aoq w=.ok (.agg #[.string (mO 2),.string (ux 2)]) w:=by kernel_rfl
theorem KC(w:World):(aox 228 (.agg eI) (.int .i64 3)).run aoq w=.ok (.agg #[.string (mO 3),.string (ux 3)]) w:=by kernel_rfl
theorem KD(w:World):(aox 228 (.agg eI) (.int .i64 4)).run aoq w=.ok (.agg #[.string (mO 4),.string (ux 4)]) w:=by kernel_rfl
theorem KE(w:World):(aox 228 (.agg eI) (.int .i64 5)).run aoq w=.ok (.agg #[.string (mO 5),.string (ux 5)]) w:=by kernel_rfl
theorem KG(w:World):(aox 228 (.agg eI) (.int .i64 6)).run aoq w=.ok (.agg #[.string (mO 6),.string (ux 6)]) w:=by kernel_rfl
theorem N9(j:Nat)(b:j<7)(w:World):(aox 228 (.agg eI) (.int .i64 (j:Int))).run aoq w=.ok (.agg #[.string (mO j),.string (ux j)]) w:=
 match j,b with
 |0,_=>Kz w
 |1,_=>KA w
 |2,_=>KB w
 |3,_=>KC w
 |4,_=>KD w
 |5,_=>KE w
 |6,_=>KG w
def ln:List (List UInt8×List UInt8)->List UInt8->List UInt8
 |[],s=>s
 |(e,r)::rest,s=>if e.isSuffixOf s then(if s.length-e.length<3 then s else s.take (s.length-e.length)++r)else ln rest s
def xy(s:ByteArray):ByteArray:=⟨(ln ll s.data.toList).toArray⟩
def AF(s p:ByteArray):ByteArray:=⟨(apj s.data.toList p.data.toList).toArray⟩
theorem KH(l:List UInt8)(j:Nat)(b:j<7):ln (ll.drop j) l=if(mO j).data.toList.isSuffixOf l then(if l.length-(mO j).data.toList.length<3 then l else l.take (l.length-(mO j).data.toList.length)++(ux j).data.toList)else ln (ll.drop (j+1)) l:=by
 match j,b with
 |0,_=>rfl
 |1,_=>rfl
 |2,_=>rfl
 |3,_=>rfl
 |4,_=>rfl
 |5,_=>rfl
 |6,_=>rfl
theorem QI(s p:ByteArray)(hs:s.size<=9223372036854775807)(h:p.data.toList.isSuffixOf s.data.toList=true)(w:World):
  Calls aoq 141 #[.string s,.string p] w fun e w'=>e=.returned (.tuple #[.string (AF s p),.bool true])/\w=w':=
 (Tryz.strings_CutSuffix s p w hs).mono fun _ _ ⟨b,hw⟩=>⟨by rw[b];unfold ao2;rw[h];rfl,hw.symm⟩
theorem SQ(s p:ByteArray)(hs:s.size<=9223372036854775807)(h:p.data.toList.isSuffixOf s.data.toList=false)(w:World):
  Calls aoq 141 #[.string s,.string p] w fun e w'=>e=.returned (.tuple #[.string (AF s p),.bool false])/\w=w':=
 (Tryz.strings_CutSuffix s p w hs).mono fun _ _ ⟨b,hw⟩=>⟨by rw[b];unfold ao2;rw[h];rfl,hw.symm⟩
theorem AG(s p:ByteArray)(h:p.data.toList.isSuffixOf s.data.toList=true):(AF s p).data.toList=s.data.toList.take (s.data.toList.length-p.data.toList.length):=by
 unfold AF apj ao2;rw[h];simp
theorem KI(s p:ByteArray)(h:p.data.toList.isSuffixOf s.data.toList=true):(AF s p).size=s.size-p.size:=by
 rw[size_data,AG s p h,aoH,<-size_data,<-size_data];omega
theorem Ip(j:Nat)(b:j<7):(ux j).size<=2:=by
 match j,b with
 |0,_=>decide
 |1,_=>decide
 |2,_=>decide
 |3,_=>decide
 |4,_=>decide
 |5,_=>decide
 |6,_=>decide
theorem N_(a b:ByteArray):(a++b).data.toList=a.data.toList++b.data.toList:=by
 rw[ByteArray.data_append,Array.toList_append]
theorem SR(s:ByteArray)(hs:s.size<=4611686018427387904)(w:World)(B:dO w):Calls aoq 88 #[.string s] w (ar w (.string (xy s))):=by
 obtain⟨O,Q,B⟩:=B;go_enter Tryz.func88,Tryz.ntmps88;go_wp2_with(refine wpList_load_row rfl 228 _ rfl 0 rfl O eI Q _ B Tryz.underlying228 rfl (by kernel_rfl) ?_)
 clear B;go_loopw [8] (fun i w'=>∃j:Nat,j<=7/\i=.int .i64 j/\Gr w w'/\ln (ll.drop j) s.data.toList=ln ll s.data.toList) (fun i _=>7-(intOf i).toNat)
 case atStart=>exact⟨0,apv _,rfl,Gr.refl _,rfl⟩
 case round=>
  obtain⟨j,Y,rfl,H,D⟩:=hrel;have I:=aor D;clear D;by_cases z:j<7
  ·have L:=fun w=>N9 j z w;have J:=aor (KH s.data.toList j z);have V:=Ip j z;cases b:(mO j).data.toList.isSuffixOf s.data.toList
   ·have q:=aor b;clear b;go_wp2_with(go_at_call 141;refine(SQ _ _ (by omega) q.out _).mono ?_;rintro e S ⟨rfl,rfl⟩)
    exact⟨⟨j+1,by omega,by go_num,H.alloc _,by rw[<-I.out,J.out,q.out];rfl⟩,by simp[intOf];omega⟩
   ·have q:=aor b;clear b;have G:=KI s (mO j) q.out;have U:=aor G;have M:(AF s (mO j)).size<=s.size:=by omega
    clear G;go_wp2_with(go_at_call 141;refine(QI _ _ (by omega) q.out _).mono ?_;rintro e S ⟨rfl,rfl⟩)
    all_goals
     go_ret;refine ar.mk ?_ (H.alloc _);have y:s.data.toList.length-(mO j).data.toList.length=(AF s (mO j)).size:=by rw[U.out,size_data,size_data]
     rw[show xy s=⟨(ln ll s.data.toList).toArray⟩from rfl,<-I.out,J.out,q.out,y];simp only[↓reduceIte]
    ·rw[if_pos (by omega)];rfl
    ·rw[if_neg (by omega)];refine congrArg aoB (bz ?_);rw[N_,AG s _ q.out,<-y]
  ·go_wp2_with fail
   go_ret;obtain rfl:j=7:=by omega
   exact ar.mk (by rw[show xy s=⟨(ln ll s.data.toList).toArray⟩from rfl,<-I.out];rfl) H
end
section
open Go
def cY(c:UInt8):Bool:=(decide ((97:Int)<=c.toNat)&&decide ((c.toNat:Int)<=122))||(decide ((65:Int)<=c.toNat)&&decide ((c.toNat:Int)<=90))||(decide ((48:Int)<=c.toNat)&&decide ((c.toNat:Int)<=57))||decide ((127:Int)<c.toNat)
def dD(p:UInt8->Bool)(b:List UInt8):List UInt8->List (List UInt8)
 |[]=>if b.isEmpty then[]else[b]
 |c::l=>if p c then dD p (b++[c]) l else if b.isEmpty then dD p [] l else b::dD p [] l
theorem uy(p:UInt8->Bool)(x l:List UInt8)(h:x.all p=true):∀b,dD p b (x++l)=dD p (b++x) l:=by
 induction x with
 |nil=>intro b;simp
 |cons c x q=>
  intro b;simp only[apl,aoC]at h;rw[List.cons_append,dD,if_pos h.1,q h.2];simp
theorem KJ(p:UInt8->Bool)(x l:List UInt8)(c:UInt8)(h:x.all p=true)(b:x≠[])(hc:p c=false):dD p [] (x++c::l)=x::dD p [] l:=by
 rw[uy p x _ h,apf,dD,if_neg (by simp[hc]),if_neg (by simpa using b)]
theorem KK(p:UInt8->Bool)(x:List UInt8)(h:x.all p=true)(b:x≠[]):dD p [] x=[x]:=by
 have:=uy p x [] h [];rw[ape,apf]at this;rw[this,dD,if_neg (by simpa using b)]
theorem KM(p:UInt8->Bool)(l:List UInt8)(c:UInt8)(hc:p c=false):dD p [] (c::l)=dD p [] l:=by
 rw[dD,if_neg (by simp[hc])];rfl
theorem Oa(p:UInt8->Bool)(f:UInt8->UInt8)(hf:∀c,p (f c)=p c)(l:List UInt8):∀b,dD p (b.map f) (l.map f)=(dD p b l).map (List.map f):=by
 induction l with
 |nil=>intro b;cases b<;>simp[dD]
 |cons c l s=>
  intro b;simp only[List.map_cons,dD,hf]
  split
  ·rw[<-s];simp
  ·have q:=s [];rw[apo]at q;cases b with
   |nil=>simpa using q
   |cons d b=>simp[q]
end
section
open Go Go.RowKit
theorem xz(c:UInt8)(w:World):Calls aoq 87 #[.int .u8 (c.toNat:Int)] w fun e w'=>e=.returned (.bool (cY c))/\w'=w:=by
 have y:=aoY c;generalize q:cY c=b;have s:=aor q;clear q;go_enter Tryz.func87,Tryz.ntmps87;go_wp2_with fail
 all_goals
  go_ret;refine⟨congrArg (fun x=>Ending.returned (Value.bool x)) ?_,rfl⟩;rw[<-s.out];unfold cY
  first|(simp[*];done)|(rw[apg];simp only[aoW,aoC,decide_eq_true_eq];omega)
theorem uA(c:UInt8):cY (dp c)=cY c:=by
 by_cases h:(65:Int)<=(c.toNat:Int)/\(c.toNat:Int)<=90
 ·have e:=yJ c h.1 h.2;unfold cY;rw[e,apg];simp only[aoW,aoC,decide_eq_true_eq];omega
 ·rw[AE c h]
def qM(y:List UInt8):ByteArray:=xy ⟨(y.take 12).toArray⟩
def oR(l:List UInt8):List ByteArray:=(dD cY [] l).map qM
def aB(s:ByteArray):List ByteArray:=oR (cX s).data.toList
def nN(w:World)(B:Nat)(v:Value)(ws:List ByteArray):Prop:=w.ownsRow B 9 1 v ws.length (ws.map aoB)
def TL(w:World)(ws:List ByteArray)(e:Ending)(w':World):Prop:=∃v,e=.returned v/\nN w' w.heap.size v ws/\Gr w w'
theorem qN:(aoq.info? 9).map (fun i=>(i.zero,i.size,i.bytes))=some (some (.string ⟨#[]⟩),1,16):=by kernel_rfl
theorem CZ(l:List UInt8)(j m:Nat)(q:j<=m)(s:m<l.length)(h:((l.drop j).take (m-j)).all cY=true)(b:cY l[m]=true):((l.drop j).take (m+1-j)).all cY=true:=by
 rw[show m+1-j=(m-j)+1 from by omega,List.take_succ_eq_append_getElem (by simp;omega),aoX,h];simp[show j+(m-j)=m from by omega,b]
theorem Ob(l:List UInt8)(j m:Nat)(D:j<=m)(H:m<=l.length)(h:((l.drop j).take (m-j)).all cY=true)(z:∀h:m<l.length,cY l[m]=false):
  oR (l.drop j)=(if j<m then[qM ((l.drop j).take (m-j))]else[])++oR (l.drop (m+1)):=by
 unfold oR;rcases Nat.lt_or_ge m l.length with b|G
 ·have e:l.drop j=(l.drop j).take (m-j)++l[m]::l.drop (m+1):=by
   rw[<-aoO b];have:=List.take_append_drop (m-j) (l.drop j);rw[List.drop_drop,show j+(m-j)=m from by omega]at this;exact this.symm
  split
  ·rename_i B
   conv=>lhs;rw[e]
   rw[KJ cY _ _ _ h (by intro s;have:=congrArg apd s;simp at this;omega) (z b)]
   rfl
  ·have q:m=j:=by omega
   subst q;rw[aoO b,KM cY _ _ (z b)]
   rfl
 ·have y:m=l.length:=by omega
  subst y;rw[aoy (Nat.le_succ _)];have e:(l.drop j).take (l.length-j)=l.drop j:=by rw[aoE (by simp)]
  rw[e]at h⊢
  split
  ·rename_i B
   rw[KK cY _ h (by intro s;have:=congrArg apd s;simp at this;omega)]
   rfl
  ·rw[aoy (by omega)]
   rfl
theorem Oc(t:ByteArray)(j m:Nat)(b:j<=m):t.extract j (min (m:Int) ((j:Int)+12)).toNat=⟨(((t.data.toList.drop j).take (m-j)).take 12).toArray⟩:=by
 refine bz ?_;rw[aoT,List.take_take];simp only
 congr 1
 omega
theorem ss(s:ByteArray)(hs:s.size<=1000000)(w:World)(he:dO w):Calls aoq 44 #[.string s] w (TL w (aB s)):=by
 obtain⟨i0,hi,a4,a5,a6⟩:=info_parts qN;have HE:=aor he;clear he;generalize D:aB s=ws;unfold aB at D;have O:(cX s).size=s.size:=by rw[size_data,size_data];simp[cX]
 have HW:=aor D;have HZ:=aor O;clear D O;go_enter Tryz.func44,Tryz.ntmps44;go_wp2_with(go_at_call 86;refine(Io s (by omega) _).mono ?_;rintro e Y ⟨rfl,a7⟩)
 have c2:(cX s).size<=1000000:=by rw[HZ.out];exact hs
 clear HZ;generalize cX s=t at*;go_loopw [4,3] (fun i v w'=>∃(j:Nat) (us:List ByteArray),j<=t.size+1/\i=.int .i64 j/\us.length<=j/\Gr w w'/\nN w' w.heap.size v us/\us++oR (t.data.toList.drop j)=oR t.data.toList) (fun i _ _=>t.size+1-(intOf i).toNat)
 case atStart=>exact⟨0,[],by omega,rfl,by simp,a7,⟨rfl,.inl ⟨rfl,rfl⟩⟩,rfl⟩
 case round=>
  obtain⟨j,us,hj,rfl,c3,Q,z,q⟩:=hrel;have Z:=aor q;have HO:=aor z;clear q z;by_cases c4:j<t.size
  ·go_wp2_with fail
   go_loop [5] (fun n=>∃m:Nat,j<=m/\m<=t.size/\n=.int .i64 m/\((t.data.toList.drop j).take (m-j)).all cY=true) (fun n=>t.size-(intOf n).toNat)
   case atStart=>exact⟨j,aoQ _,by omega,rfl,by simp⟩
   case round=>
    obtain⟨m,G,hm,rfl,B⟩:=hrel;have HA:=aor B;clear B;by_cases b:m<t.size/\∃h:m<t.size,cY t[m]=true
    ·obtain⟨b,_,S⟩:=b;have hr:=aoY t[m];have I:=aor S;clear S;go_wp2_with(go_at_call 87;refine(xz t[m] _).mono ?_;rintro e Y ⟨rfl,rfl⟩;rw[I.out])
     refine⟨⟨m+1,by omega,by omega,by go_num,?_⟩,by simp[intOf];omega⟩;exact CZ t.data.toList j m G (by rw[<-size_data];exact b) HA.out (by rw[<-eH t m b];exact I.out)
    ·have q:=Ob t.data.toList j m G (by rw[<-size_data];exact hm) HA.out (fun h=>by
      have h':m<t.size:=by rw[size_data];exact h
      rw[<-eH t m h',aos];exact fun h2=>b ⟨h',h',h2⟩)
     have I:=aor q;have U:∀h:m<t.size,cY t[m]=false:=fun h=>by rw[aos];exact fun h2=>b ⟨h,h,h2⟩
     have HF:=aor U;clear q b U;by_cases V:j<m
     ·have J:=Oc t j m G;generalize hy:(t.data.toList.drop j).take (m-j)=y at*;have HX:=aor J;clear J;have HY:=aor hy;clear hy;have a8:(⟨(y.take 12).toArray⟩:ByteArray).size<=4611686018427387904:=by rw[size_data];simp;omega
      go_wp2_with(go_at_call 87;refine(xz t[m] _).mono ?_;rintro e Y ⟨rfl,rfl⟩;rw[HF.out])
      all_goals
       rw[HX.out];refine(SR _ a8 _ (HE.out.gr Q)).mono ?_;rintro e w2 ⟨rfl,H⟩;have L:=aL HO.out H;have a9:=Q.trans H;clear H;go_wp2_with(at_builtin;refine dK (a0:=w) rfl _ _ 22 rfl 9 i0 (.string ⟨#[]⟩) 1 16 aoA hi a4 a5 a6 rfl (by decide) _ us.length (us.map aoB) rfl L [_] rfl (by simp;rfl) rfl a9 (by omega) (by omega) ?_;intro v4 w4 M b0)
      all_goals
       refine⟨⟨m+1,us++[qM y],by omega,by go_num,by rw[aot];simp;omega,b0,?_,?_⟩,by simp[intOf];omega⟩
       ·unfold nN;rw[aot,aoD];exact M
       ·rw[<-Z.out,I.out,if_pos V,List.append_assoc]
     ·obtain rfl:m=j:=by omega
      go_wp2_with(go_at_call 87;refine(xz t[m] _).mono ?_;rintro e Y ⟨rfl,rfl⟩;rw[HF.out])
      exact⟨⟨m+1,us,by omega,by go_num,by omega,Q,HO.out,by rw[<-Z.out,I.out,if_neg (apk _)];rfl⟩,by simp[intOf];omega⟩
  ·go_wp2_with fail
   go_ret;refine⟨_,rfl,?_,Q⟩;have J:=Z.out;rw[aoy (by rw[<-size_data];omega)]at J;have b1:us=ws:=by rw[<-HW.out,<-J];simp[oR,dD]
   rw[<-b1];exact HO.out
theorem FE(p:UInt8->Bool)(l:List UInt8):∀b,(dD p b l).length<=l.length+1:=by
 induction l with
 |nil=>intro b;rw[dD];split<;>simp
 |cons c l q=>
  intro b;rw[dD]
  split
  ·exact apq (q _) (by simp)
  ·split
   ·exact apq (q _) (by simp)
   ·simp only[List.length_cons];have:=q [];omega
theorem uY(s:ByteArray):aB s=(dD cY [] s.data.toList).map (fun x=>qM (x.map dp)):=by
 unfold aB oR cX;have:=Oa cY dp uA s.data.toList [];rw[apo]at this;simp only;rw[this,List.map_map]
 rfl
theorem FG(x:ByteArray):(cX x).size=x.size:=by rw[size_data,size_data];simp[cX]
def bt(c:UInt8):Bool:=c==32||c==40||c==41||c==34||c==42
def iX(l:List UInt8):ByteArray:=⟨l.toArray⟩
theorem fX(l:List UInt8):(iX l).data.toList=l:=by simp[iX]
def bB:Nat->List UInt8->Option (List ByteArray)
 |_,[]=>some []
 |0,_::_=>none
 |n+1,c::r=>
  if c=32 then bB n r
  else if c=34 then(if r.all (·!=34)then none else(bB n (r.drop ((r.takeWhile (·!=34)).length+1))).map (iX (c::r.takeWhile (·!=34))::·))
  else if bt c then(bB n r).map (iX [c]::·)
  else(bB n ((c::r).dropWhile (fun x=>!bt x))).map (iX ((c::r).takeWhile (fun x=>!bt x))::·)
def gY(c:UInt8):Bool:=c==40||c==41||c==34||c==42
def AH(p:ByteArray):Prop:=∃c r,p.data.toList=c::r/\(gY c=true\/(c::r).all (fun x=>!bt x)=true)
theorem su{b:Type}(p:b->Bool)(l:List b):(l.dropWhile p).length<=l.length:=by
 induction l with
 |nil=>simp
 |cons a t q=>simp only[ao1];split<;>simp<;>omega
theorem all_takeWhile{b:Type}(p:b->Bool)(l:List b):(l.takeWhile p).all p=true:=by
 induction l with
 |nil=>rfl
 |cons a t q=>simp only[aoJ];split<;>simp_all
theorem SS:∀(n:Nat) (l:List UInt8) (s:List ByteArray),bB n l=some s->∀p∈s,AH p:=by
 intro n
 induction n with
 |zero=>
  intro l s h;cases l with
  |nil=>simp only[bB,ao7]at h;subst h;simp
  |cons c r=>simp[bB]at h
 |succ n y=>
  intro l s h;cases l with
  |nil=>simp only[bB,ao7]at h;subst h;simp
  |cons c r=>
   simp only[bB]at h
   split at h
   ·exact y _ _ h
   ·rename_i B
    split at h
    ·rename_i z
     split at h
     ·simp at h
     ·simp only[aoF]at h;obtain⟨D,q,rfl⟩:=h;intro p b;rcases aoS.1 b with rfl|b
      ·exact⟨c,_,fX _,.inl (by subst z;decide)⟩
      ·exact y _ _ q p b
    ·rename_i z
     split at h
     ·rename_i hs
      simp only[aoF]at h;obtain⟨D,q,rfl⟩:=h;intro p b;rcases aoS.1 b with rfl|b
      ·refine⟨c,_,fX _,.inl ?_⟩;unfold bt at hs;unfold gY;simp only[aoW,beq_iff_eq]at hs⊢;rcases hs with(((h|h)|h)|h)|h
       ·exact absurd h B
       ·exact .inl (.inl (.inl h))
       ·exact .inl (.inl (.inr h))
       ·exact .inl (.inr h)
       ·exact .inr h
      ·exact y _ _ q p b
     ·rename_i hs
      simp only[aoF]at h;obtain⟨D,q,rfl⟩:=h;intro p b;rcases aoS.1 b with rfl|b
      ·have e:(c::r).takeWhile (fun x=>!bt x)=c::r.takeWhile (fun x=>!bt x):=by simp[hs]
       refine⟨c,r.takeWhile (fun x=>!bt x),by rw[fX,e],.inr ?_⟩;rw[<-e];exact all_takeWhile _ _
      ·exact y _ _ q p b
theorem AI{b:Type}(p:b->Bool)(l:List b):l.take (l.takeWhile p).length=l.takeWhile p:=by
 induction l with
 |nil=>rfl
 |cons a t q=>simp only[aoJ];split<;>simp[q]
theorem QJ{b:Type}(p:b->Bool)(l:List b):l.drop (l.takeWhile p).length=l.dropWhile p:=by
 induction l with
 |nil=>rfl
 |cons a t q=>simp only[aoJ,ao1];split<;>simp[q]
theorem sw{b:Type}(p:b->Bool)(l:List b):l.all p=true↔l.takeWhile p=l:=by
 induction l with
 |nil=>simp
 |cons a t q=>cases h:p a<;>simp[h,<-q]
theorem FH{s:Type}(p:s->Bool)(l:List s)(h:l.all p=false):∃q:(l.takeWhile p).length<l.length,p (l[(l.takeWhile p).length]'q)=false:=by
 induction l with
 |nil=>simp at h
 |cons a t y=>
  cases b:p a
  ·exact⟨by simp[b],by simp[b]⟩
  ·have z:t.all p=false:=by simpa[b]using h
   obtain⟨q,hv⟩:=y z;exact⟨by simp[b];exact q,by simp[b,hv]⟩
def jI(l:List UInt8):Int:=if l.all (fun x=>!bt x)=true then-1 else((l.takeWhile (fun x=>!bt x)).length:Int)
def Aj:List UInt8:=[32,40,41,34,42]
theorem AJ(c:UInt8):Aj.contains c=bt c:=by
 unfold Aj bt;simp only[List.contains_cons,List.contains_nil,Bool.or_false,Bool.or_assoc]
theorem DM(l:List UInt8):Lib.NoAny l Aj (l.takeWhile (fun x=>!bt x)).length:=by
 intro j b q s;rw[AJ];have y:(l.takeWhile (fun x=>!bt x))[j]?=some b:=by
  rw[<-AI,aoK,if_pos q];exact s
 have z:=aoZ y;have B:=aow.1 (all_takeWhile (fun x=>!bt x) l) b z;simpa using B
theorem Iq(l:List UInt8):aoV l Aj=jI l:=by
 unfold jI
 split
 ·rename_i h
  have b:=DM l;rw[(sw _ l).1 h]at b;exact ao8 b
 ·rename_i h
  obtain⟨q,hv⟩:=FH (fun x=>!bt x) l (by simpa using h);exact apb (DM l) (aou q) (by rw[AJ];simpa using hv)
theorem QK{c:UInt8}{r:List UInt8}(n:Nat)(h:(c::r).all (fun x=>!bt x)=true):bB (n+1) (c::r)=some [iX (c::r)]:=by
 have hc:bt c=false:=by simpa using aow.1 h c ao5
 have b:¬c=32:=fun e=>by subst e;revert hc;decide
 have q:¬c=34:=fun e=>by subst e;revert hc;decide
 have s:=(sw _ _).1 h;have hd:(c::r).dropWhile (fun x=>!bt x)=[]:=by
  have:=List.takeWhile_append_dropWhile (p:=fun x=>!bt x) (l:=c::r);rw[s]at this;simpa using this
 simp only[bB,if_neg b,if_neg q,hc,aoM,if_false,s,hd];cases n<;>rfl
theorem DN{c:UInt8}{r:List UInt8}(n:Nat)(hc:bt c=false):bB (n+1) (c::r)=(bB n ((c::r).dropWhile (fun x=>!bt x))).map (iX ((c::r).takeWhile (fun x=>!bt x))::·):=by
 have b:¬c=32:=fun e=>by subst e;revert hc;decide
 have q:¬c=34:=fun e=>by subst e;revert hc;decide
 simp only[bB,if_neg b,if_neg q,hc,aoM,if_false]
theorem AK(n:Nat)(r:List UInt8):bB (n+1) (32::r)=bB n r:=by simp[bB]
theorem xA{c:UInt8}(n:Nat)(r:List UInt8)(h:bt c=true)(b:¬c=32)(q:¬c=34):bB (n+1) (c::r)=(bB n r).map (iX [c]::·):=by
 simp only[bB,if_neg b,if_neg q,h,if_true]
theorem Oe(n:Nat)(r:List UInt8)(h:r.all (·!=34)=true):bB (n+1) (34::r)=none:=by
 have b:¬(34:UInt8)=32:=by decide
 simp only[bB,if_neg b,if_true,h]
theorem uZ(n:Nat)(r:List UInt8)(h:r.all (·!=34)=false):bB (n+1) (34::r)=(bB n (r.drop ((r.takeWhile (·!=34)).length+1))).map (iX (34::r.takeWhile (·!=34))::·):=by
 have b:¬(34:UInt8)=32:=by decide
 simp only[bB,if_neg b,if_true,h,aoM,if_false]
theorem uB(l:List UInt8)(c:UInt8):aoz l c=if l.all (·!=c)=true then-1 else((l.takeWhile (·!=c)).length:Int):=by
 induction l with
 |nil=>rfl
 |cons a t y=>
  unfold aoz;cases s:(a==c)
  ·have b:(a !=c)=true:=by simp[bne,s]
   rw[y];cases q:t.all (·!=c)
   ·have z:(((t.takeWhile (·!=c)).length:Int)==-1)=false:=by
     rw[aos];intro h;have:=beq_iff_eq.1 h;omega
    simp[q,b,z]
   ·simp[q,b]
  ·have b:(a !=c)=false:=by simp[bne,s]
   simp[b]
inductive Qy
 |leaf (kind:Int) (ws:List ByteArray) (dT:Int)
 |node (kind:Int) (l r:Qy)
inductive Rd
 |ok (q:Qy) (l:List ByteArray)
 |bad (n:Int)
def aS(l:List ByteArray):ByteArray:=l.headD ⟨#[]⟩
def aQ:ByteArray:=⟨#[40]⟩
def az:ByteArray:=⟨#[41]⟩
def kG:ByteArray:=⟨#[42]⟩
def fp:ByteArray:=⟨#[65,78,68]⟩
def k_:ByteArray:=⟨#[79,82]⟩
def ez:ByteArray:=⟨#[78,79,84]⟩
def nO:ByteArray:=⟨#[78,69,65,82]⟩
def gC:ByteArray:=⟨#[]⟩
def lL(c:UInt8):Bool:=(97<=c&&c<=122)||(48<=c&&c<=57)
def fT(s:ByteArray):UInt8:=s.data.toList.headD 0
def jJ(y:List ByteArray->Rd)(l:List ByteArray):Rd:=
 let s:=aS l
 if s=gC\/s=az\/s=kG\/s=fp\/s=k_\/s=ez\/s=nO then .bad 3
 else if s=aQ then
  match y l.tail with
  | .bad n=>.bad n
  | .ok q r=>if aS r=az then .ok q r.tail else .bad 3
 else if fT s=34 then(if aB (iX s.data.toList.tail)=[]then .bad 3 else .ok (.leaf 1 (aB (iX s.data.toList.tail)) 0) l.tail)
 else if aS l.tail=kG then
  (if(cX s).data.toList.all lL=true/\s.size<=12 then .ok (.leaf 2 [cX s] 0) l.tail.tail else .bad 3)
 else
  match aB s with
  |[a]=>
   if aS l.tail=nO then
    (if aS l.tail.tail=gC\/gY (fT (aS l.tail.tail))=true then .bad 3
     else match aB (aS l.tail.tail)with
      |[b]=>.ok (.leaf 3 [a,b] 3) l.tail.tail.tail
      |_=>.bad 3)
   else .ok (.leaf 1 [a] 0) l.tail
  |_=>.bad 3
def fy(s:ByteArray):Prop:=s=gC\/s=az\/s=k_
instance (s:ByteArray):Decidable (fy s):=by unfold fy;infer_instance
def e_(b:List ByteArray->Rd):Nat->Qy->List ByteArray->Rd
 |n,q,l=>
  if fy (aS l)then .ok q l
  else match n with
   |0=>.bad 0
   |n+1=>
    match b (if aS l=ez\/aS l=fp then l.tail else l)with
    | .bad m=>.bad m
    | .ok s r=>e_ b n (.node (if aS l=ez then 6 else 4) q s) r
def iB(b:List ByteArray->Rd)(l:List ByteArray):Rd:=
 match b l with
 | .bad m=>.bad m
 | .ok q r=>e_ b r.length q r
def fq(b:List ByteArray->Rd):Nat->Qy->List ByteArray->Rd
 |n,q,l=>
  if aS l=k_ then
   match n with
   |0=>.bad 0
   |n+1=>
    match b l.tail with
    | .bad m=>.bad m
    | .ok s r=>fq b n (.node 5 q s) r
  else .ok q l
def iC(b:List ByteArray->Rd)(l:List ByteArray):Rd:=
 match b l with
 | .bad m=>.bad m
 | .ok q r=>fq b r.length q r
def jb:Nat->List ByteArray->Rd
 |0,_=>.bad 4
 |k+1,l=>jJ (fun l=>iC (iB (jb k)) l) l
def lS(k:Nat)(l:List ByteArray):Rd:=iB (jb k) l
def dX(k:Nat)(l:List ByteArray):Rd:=iC (lS k) l
def fH(s:ByteArray):Option Qy×Int:=
 match bB s.size s.data.toList with
 |none=>(none,3)
 |some l=>
  match dX 13 l with
  | .bad n=>(none,n)
  | .ok q r=>if r=[]then(some q,0)else(none,3)
def fI(r l:List ByteArray):Prop:=r<:+l/\r.length<l.length
theorem jc{l:List ByteArray}(h:aS l≠gC):∃a t,l=a::t/\aS l=a:=by
 cases l with
 |nil=>exact absurd rfl h
 |cons a t=>exact⟨a,t,rfl,rfl⟩
theorem KN{l:List ByteArray}(h:aS l≠gC):fI l.tail l:=by
 obtain⟨a,t,rfl,_⟩:=jc h;exact⟨List.suffix_cons a t,by simp⟩
theorem fI.trans{a b c:List ByteArray}(h:fI a b)(k:fI b c):fI a c:=⟨h.1.trans k.1,by have:=h.2;have:=k.2;omega⟩
theorem fI.tail{r l:List ByteArray}(h:fI r l):fI r.tail l:=⟨(aoU r).trans h.1,by have:=h.2;have:r.tail.length<=r.length:=(by simp);omega⟩
theorem Of(b:List ByteArray->Rd)(ha:∀l q r,b l=.ok q r->fI r l)(l:List ByteArray)(q:Qy)(r:List ByteArray)(h:jJ b l=.ok q r):fI r l:=by
 unfold jJ at h
 dsimp only at h
 split at h
 ·cases h
 ·rename_i y
  have hn:aS l≠gC:=fun e=>y (.inl e);have s:=KN hn
  split at h
  ·split at h
   ·cases h
   ·rename_i B r1 z
    split at h
    ·cases h;exact((ha _ _ _ z).trans s).tail
    ·cases h
  ·split at h
   ·split at h
    ·cases h
    ·cases h;exact s
   ·split at h
    ·split at h
     ·cases h;exact s.tail
     ·cases h
    ·split at h
     ·split at h
      ·split at h
       ·cases h
       ·split at h
        ·cases h;exact s.tail.tail
        ·cases h
      ·cases h;exact s
     ·cases h
theorem KO(b:List ByteArray->Rd)(B:∀l q r,b l=.ok q r->fI r l):∀(n:Nat) (q:Qy) (l:List ByteArray) (y:Qy) (r:List ByteArray),e_ b n q l=.ok y r->r=l\/fI r l:=by
 intro n
 induction n with
 |zero=>
  intro q l y r h;unfold e_ at h
  split at h
  ·cases h;exact .inl rfl
  ·cases h
 |succ n D=>
  intro q l y r h;unfold e_ at h
  split at h
  ·cases h;exact .inl rfl
  ·dsimp only at h
   split at h
   ·cases h
   ·rename_i I r1 G
    have s:=B _ _ _ G;have z:fI r1 l:=by
     split at s
     ·exact⟨s.1.trans (aoU l),by have:=s.2;have:l.tail.length<=l.length:=(by simp);omega⟩
     ·exact s
    rcases D _ _ _ _ h with rfl|H
    ·exact .inr z
    ·exact .inr (H.trans z)
theorem DO(b:List ByteArray->Rd)(s:∀l q r,b l=.ok q r->fI r l)(l:List ByteArray)(q:Qy)(r:List ByteArray)(h:iB b l=.ok q r):fI r l:=by
 unfold iB at h
 split at h
 ·cases h
 ·rename_i B r1 y
  rcases KO b s _ _ _ _ _ h with rfl|z
  ·exact s _ _ _ y
  ·exact z.trans (s _ _ _ y)
theorem KP(b:List ByteArray->Rd)(B:∀l q r,b l=.ok q r->fI r l):∀(n:Nat) (q:Qy) (l:List ByteArray) (s:Qy) (r:List ByteArray),fq b n q l=.ok s r->r=l\/fI r l:=by
 intro n
 induction n with
 |zero=>
  intro q l s r h;unfold fq at h
  split at h
  ·cases h
  ·cases h;exact .inl rfl
 |succ n D=>
  intro q l s r h;unfold fq at h
  split at h
  ·dsimp only at h
   split at h
   ·cases h
   ·rename_i I r1 G
    have y:=B _ _ _ G;have z:fI r1 l:=⟨y.1.trans (aoU l),by have:=y.2;have:l.tail.length<=l.length:=(by simp);omega⟩;rcases D _ _ _ _ h with rfl|H
    ·exact .inr z
    ·exact .inr (H.trans z)
  ·cases h;exact .inl rfl
theorem DP(b:List ByteArray->Rd)(s:∀l q r,b l=.ok q r->fI r l)(l:List ByteArray)(q:Qy)(r:List ByteArray)(h:iC b l=.ok q r):fI r l:=by
 unfold iC at h
 split at h
 ·cases h
 ·rename_i B r1 y
  rcases KP b s _ _ _ _ _ h with rfl|z
  ·exact s _ _ _ y
  ·exact z.trans (s _ _ _ y)
theorem nP:∀(k:Nat) (l:List ByteArray) (q:Qy) (r:List ByteArray),jb k l=.ok q r->fI r l:=by
 intro k
 induction k with
 |zero=>intro l q r h;cases h
 |succ k b=>exact fun l q r h=>Of _ (fun l q r h=>DP _ (DO _ b) l q r h) l q r h
theorem nQ(k:Nat):∀(l:List ByteArray) (q:Qy) (r:List ByteArray),lS k l=.ok q r->fI r l:=DO _ (nP k)
theorem AM(k:Nat):∀(l:List ByteArray) (q:Qy) (r:List ByteArray),dX k l=.ok q r->fI r l:=DP _ (nQ k)
def gV(w:World)(b q:Nat)(ws:List ByteArray):Prop:=∀i (h:i<ws.length),w.cell? ⟨b,q+i,none⟩=some (.string ws[i])
theorem gV.gr{w w':World}{b q:Nat}{ws:List ByteArray}(h:gV w b q ws)(g:Gr w w'):gV w' b q ws:=fun i hi=>g.keeps (h i hi)
theorem iP{w:World}{B:Nat}{v:Value}{ws:List ByteArray}(h:nN w B v ws):∃(s:Option Addr) (c b:Nat),v=.slice s ws.length c/\(0<ws.length->s=some ⟨b,0,none⟩)/\gV w b 0 ws:=by
 obtain⟨I,z⟩:=h;rcases z with⟨rfl,D⟩|⟨g,cap,q,rfl,_,G,hn,_,y,H⟩
 ·exact⟨none,0,0,by rw[D],fun h=>by omega,fun i hi=>by omega⟩
 ·refine⟨_,_,g,rfl,fun _=>rfl,fun i hi=>?_⟩;have hc:q.toList[i]?=some (.string ws[i]):=by
   have e:=congrArg (fun l:List Value=>l[i]?) H;simp only[Nat.mul_one]at e;rw[aoK,if_pos hi,ao6,aou hi]at e;exact e
  unfold World.cell?;simp only[G,Nat.zero_add];rw[<-Array.getElem?_toList];exact hc
end
section
open Go
theorem Du(c:UInt8):dp (dp c)=dp c:=by
 have h:∀n:Fin 256,dp (dp (apw n.val))=dp (apw n.val):=by decide+kernel
 have:=h ⟨c.toNat,c.toNat_lt⟩;simpa using this
def Cq(c:UInt8):Bool:=cY c&&(dp c==c)
def Hb(l:List UInt8):Prop:=l≠[]/\l.length<=12/\l.all Cq=true
theorem ua(p:UInt8->Bool):∀(l q:List UInt8),q.all p=true->∀x∈dD p q l,x≠[]/\x.all p=true
 |[],q,h,x,b=>by
  rw[dD]at b
  split at b
  ·simp at b
  ·simp only[List.mem_singleton]at b;subst b;exact⟨by rename_i h;simpa using h,h⟩
 |c::l,q,h,x,b=>by
  rw[dD]at b
  split at b
  ·rename_i hc
   exact ua p l _ (by simp[aoX,h,hc]) x b
  ·split at b
   ·exact ua p l [] rfl x b
   ·rename_i hn
    rcases aoS.1 b with rfl|b
    ·exact⟨by simpa using hn,h⟩
    ·exact ua p l [] rfl x b
theorem Hc(c:UInt8)(h:cY c=true):Cq (dp c)=true:=by
 unfold Cq;rw[uA,h,Du];simp
theorem Mi:ll.all (fun e=>e.2.all Cq&&decide (e.2.length<=e.1.length))=true:=by decide+kernel
theorem zG:∀(E:List (List UInt8×List UInt8)) (l:List UInt8),E.all (fun e=>e.2.all Cq&&decide (e.2.length<=e.1.length))=true->Hb l->Hb (ln E l)
 |[],l,_,h=>h
 |( e,r)::E,l,b,h=>by
   simp only[apl,aoC,decide_eq_true_eq]at b;unfold ln
   split
   · rename_i hs
     split
     ·exact h
     ·rename_i q
      refine⟨?_,?_,?_⟩
      ·intro hn;have:=congrArg apd hn;simp only[aot,aoH,List.length_nil]at this;omega
      ·have s:=(List.isSuffixOf_iff_suffix.1 hs).length_le;have y:=h.2.1;have z:=b.1.2;simp only[aot,aoH];omega
      ·rw[aoX,b.1.1];simp only[Bool.and_true,aow];intro c hc;exact aow.1 h.2.2 c (ao0 hc)
   · exact zG E l (by simpa using b.2) h
theorem xh(s:ByteArray):∀w∈aB s,Hb w.data.toList:=by
 intro w hw;rw[uY]at hw;obtain⟨x,b,rfl⟩:=apr.1 hw;obtain⟨q,y⟩:=ua cY _ [] rfl x b;have e:(qM (x.map dp)).data.toList=ln ll ((x.map dp).take 12):=by unfold qM xy;simp
 rw[e];refine zG _ _ Mi ⟨?_,?_,?_⟩
 ·cases x with
  |nil=>exact absurd rfl q
  |cons c x=>simp
 ·simp only[aoH];omega
 ·rw[aow];intro c hc;obtain⟨d,hd,rfl⟩:=apr.1 (ao0 hc);exact Hc d (aow.1 y d hd)
end
section
open Go Go.RowKit
theorem Tx(l:List UInt8)(c:UInt8)(h:∀b∈l,b≠c):aoz l c=-1:=by
 induction l with
 |nil=>rfl
 |cons a t q=>
  have s:=q (fun b y=>h b (List.mem_cons_of_mem _ y));have z:(a==c)=false:=by simpa using h a (ao5)
  simp[aoz,s,z]
theorem yx(s:ByteArray)(h4:4<=s.size/\s.size<=8)(ha:∀b∈s.data.toList,b.toNat<128)(r:Int)(hr:128<=r/\r<=2147483647)(w:World):
  Calls aoq 131 #[.string s,.int .i32 r] w (ar w (.int .i64 (-1))):=by
 have B:=aor ha;clear ha;have g1:decide (r<128)=false:=by simp;omega
 have g0:decide ((0:Int)<=r)=true:=by simp;omega
 by_cases V:r=65533
 ·subst V;go_enter ao9,ao3;go_wp2_with fail
  go_loopg [5,6] s.size (fun g _ _ wx=>∃i:Nat,i+g=s.size/\wx=w.iter s i)
  case atStart=>exact⟨0,by omega,rfl⟩
  case round=>
   obtain⟨i,a7,rfl⟩:=hrel;cases gk with
   |zero=>
    obtain rfl:i=s.size:=by omega
    have H:=run_next_end (P:=aoq) w s s.size;go_wp2_with fail
    go_ret;exact ar.mk rfl ((Gr.refl w).alloc _)
   |succ g=>
    have hi:i<s.size:=by omega
    have D:=B.out s[i] (by rw[eH s i hi];exact apc _);have H:=fun ty=>run_next_ascii (P:=aoq) w s i ty hi D;have I:(((s[i].toNat:Nat):Int)==65533)=false:=by rw[aos];intro h;have:=beq_iff_eq.1 h;omega
    generalize s[i].toNat=x at*;go_wp2_with fail
    go_roundg g
    case measure=>omega
    case rel=>exact⟨i+1,by omega,rfl⟩
 ·have I:(r==65533)=false:=by simp;exact V
  have J:Utf8.valid r=apm r:=validRune_eq r;cases hv:apm r
  ·go_enter ao9,ao3;go_wp2_with(go_at_call 182;refine(Tryz.utf8_ValidRune r _).mono ?_;rintro e w1 ⟨rfl,hw⟩;rw[hw,hv])
   go_ret;exact ar.mk rfl (Gr.refl _)
  ·obtain⟨e1,e2,G⟩:=encode_facts r (by rw[J];exact hv) hr.1;generalize L:Utf8.encode r=q at*;obtain⟨m,D⟩:∃m,q.size=m+1:=⟨q.size-1,by omega⟩;have M:m<s.size:=by omega
   have O:m<q.size:=by omega
   have e4:128<=q[m].toNat:=by
    have:=G (by omega);simpa[D]using this
   have e5:s[m].toNat<128:=B.out s[m] (by rw[eH s m M];exact apc _);have Y:(((s[m].toNat:Nat):Int)==((q[m].toNat:Nat):Int))=false:=by rw[aos];intro h;have:=beq_iff_eq.1 h;omega
   have Q:aoz (s.extract (m+1) s.size).data.toList q[m]=-1:=Tx _ _ fun b hb hc=>by
    have h1:=B.out b (mem_extract hb);rw[hc]at h1;omega
   have HE:=aor G;have a8:∀W,(aox 9 (.string q) (.int .i64 m)).run aoq W=.ok (.int .u8 (q[m].toNat:Int)) W:=fun W=>by simp[go_sem,O]
   have a9:(m:Int)+1<=(s.size:Int):=by omega
   have b0:¬(s.size:Int)<(m:Int)+1:=by omega
   clear G e4 e5;have Z:∀W,(convert 21 9 (.int .i32 r)).run aoq W=.ok (.string q) W:=fun W=>by
    rw[<-L];exact run_convert_int_string W _ _ .i32 r (by kernel_rfl) (by kernel_rfl)
   go_enter ao9,ao3;go_wp2_with(go_at_call 182;refine(Tryz.utf8_ValidRune r _).mono ?_;rintro e w1 ⟨rfl,hw⟩;rw[hw,hv])
   go_step3
   go_wp2_with fail
   refine wp_loop_rounds 1 ?_;rw[rounds_succ];go_wp2_with fail
   go_step3
   go_wp2_with fail
   go_region
   go_wp2_with fail
   have S:∀W,Calls aoq 72 #[.string (s.extract (m+1) s.size),.int .u8 (q[m].toNat:Int)] W fun e w'=>e=.returned (.int .i64 (-1))/\w'=W:=fun W=>by
    have:=Tryz.strings_IndexByte (s.extract (m+1) s.size) (q[m].toNat:Int) W;rw[show(((q[m].toNat:Nat):Int)).toNat.toUInt8=q[m]from by simp,Q]at this;exact this
   have U:∀W,Calls aoq 72 #[.string (s.extract (m+1) s.size),.int .u8 (q[m].toNat:Int)] W (ar W (.int .i64 (-1))):=fun W=>ar.of_same (S W);refine wp_region_quiet_below (by kernel_rfl) (by kernel_rfl) ?_
   repeat(go_big_quiet_step (first|(go_at_call 72;exact ar.sr (U _))))
   refine wpQuiet_nil ?_;intro w2 y;have z:=cg y;clear y;go_wp2_with fail
   simp only[Exit.noGoto,Exit.inBlock,Exit.then];go_ret
   first|exact ar.mk rfl z|exact ar.mk rfl (((Gr.refl _).drew).trans z)
theorem Hg(s:ByteArray)(pos:Nat)(h:pos<s.size)(ha:128<=(s[pos]'h).toNat):
  pos+(Utf8.decode s pos).2<=s.size/\∀j b,pos<=j->j<pos+(Utf8.decode s pos).2->s.data.toList[j]?=some b->128<=b.toNat:=by
 have hn:¬(s[pos]'h).toNat<128:=by omega
 have I:∀k b,s.data.toList[pos+k]?=some b->s.get! (pos+k)=b:=by
  intro k b B;have D:pos+k<s.size:=by rw[size_data];exact(aoP.1 B).1
  have y:=get_at s (pos+k) D;rw[aps]at y;rw[y,eH s _ D];exact(aoP.1 B).2
 have q:∀m:Nat,1<=m->pos+m<=s.size->(∀k,1<=k->k<m->(s.get! (pos+k)).toNat/64=2)->pos+m<=s.size/\∀j b,pos<=j->j<pos+m->s.data.toList[j]?=some b->128<=b.toNat:=by
  intro m y J hc;refine⟨J,fun j b z M L=>?_⟩;obtain⟨k,rfl⟩:∃k,j=pos+k:=⟨j-pos,by omega⟩;have H:=I k b L;rcases Nat.eq_zero_or_pos k with rfl|B
  ·have G:=get_at s pos h;rw[H]at G;rw[G];exact ha
  ·have G:=hc k B (by omega);rw[H]at G;omega
 simp only[Utf8.decode,get_at s pos h,hn,if_false]
 repeat' split
 all_goals simp only[aoC,decide_eq_true_eq,beq_iff_eq]at*
 ·exact q 2 (by omega) (by omega) (fun k y z=>by obtain rfl:k=1:=(by omega);grind)
 ·exact q 1 (by omega) (by omega) (fun k y z=>by omega)
 ·exact q 3 (by omega) (by omega) (fun k y z=>by rcases(show k=1\/k=2 by omega)with rfl|rfl<;>grind)
 ·exact q 1 (by omega) (by omega) (fun k y z=>by omega)
 ·exact q 4 (by omega) (by omega) (fun k y z=>by rcases(show k=1\/k=2\/k=3 by omega)with rfl|rfl|rfl<;>grind)
 ·exact q 1 (by omega) (by omega) (fun k y z=>by omega)
 ·exact q 1 (by omega) (by omega) (fun k y z=>by omega)
theorem zH(t q:ByteArray)(ht:t.size<=1000)(U:4<=q.size/\q.size<=8)(ha:∀b∈q.data.toList,b.toNat<128)(w:World):
  Calls aoq 76 #[.string t,.string q] w (ar w (.int .i64 (aoV t.data.toList q.data.toList))):=by
 have B:∀(j:Nat) b,q.data.toList[j]?=some b->b.toNat<128:=fun j b h=>ha b (aoZ h);by_cases h8:8<t.size
 ·refine(Tryz.strings_IndexAny_long (zero_of_info (by kernel_rfl:(aoq.info? 215).map (fun i=>(i.zero,i.size))=some (some (.agg (Array.replicate 256 (.bool false))),256))).1 t q w (by omega) h8 (by omega) (by omega) B).mono ?_;rintro e w' ⟨rfl,rfl⟩;exact ar.mk rfl (((Gr.refl _).alloc _).alloc _)
 ·have Z:=aor ha;have a5:q.toList.isEmpty=false:=by
   rw[aov];cases h:q.data.toList with
   |nil=>rw[size_data,h]at U;simp at U
   |cons _ _=>rfl
  have b5:((q.size:Int)==1)=false:=beq_eq_false_iff_ne.2 (by omega);have V:decide ((8:Int)<(t.size:Int))=false:=decide_eq_false (by omega);clear ha B;go_enter Tryz.func76,Tryz.ntmps76;go_wp2_with(go_at_call 132;refine(Tryz.strings_shouldUseASCIISet _ _).mono ?_;rintro e w' ⟨rfl,hw⟩;rw[hw,V])
  go_loopg [9,10] t.size (fun g _ _ wx=>∃i:Nat,t.size<=i+g/\i<=t.size/\wx.heap[w.heap.size]?=some (.stringIter t i)/\Gr w wx/\Lib.NoAny t.data.toList q.data.toList i)
  case atStart=>exact⟨0,by omega,by omega,World.iter_heap w t 0,(Gr.refl w).alloc _,Lib.NoAny.zero _ _⟩
  case round=>
   obtain⟨i,b6,hit,L,M,O⟩:=hrel;have HN:=aor O;clear O;by_cases hi:i<t.size
   ·obtain⟨g,rfl⟩:∃g,gk=g+1:=⟨gk-1,by omega⟩;have G:=fun ty=>Lib.run_next_any_at (P:=aoq) wr w.heap.size t i ty L hi;have Q:=fun p=>Lib.iterAt_heap wr w.heap.size t i p L;have H:=fun p=>(Lib.below_iterAt M (aoQ _) t p:Gr w (wr.iterAt w.heap.size t p));by_cases D:t[i].toNat<128
    ·rw[decode_ascii t i hi D]at G;have I:t.data.toList[i]?=some t[i]:=Lib.data_getElem? t i hi;generalize t[i]=x at*;have s:=Lib.contains_iff_indexByte q.data.toList x;have J:((x.toNat:Int)).toNat.toUInt8=x:=by simp
     have y:=fun W=>Tryz.strings_IndexRune_ascii q (x.toNat:Int) W (by omega) (by omega);rw[J]at y;have HX:=aor I;cases z:q.data.toList.contains x
     ·rw[z]at s;have b7:¬((0:Int)<=aoz q.data.toList x):=of_decide_eq_false s.symm;clear s I;go_wp2_with(go_at_call 131;refine(y _).mono ?_;rintro e w' ⟨rfl,hw⟩;rw[hw])
      go_roundg g
      case measure=>omega
      case rel=>exact⟨i+1,by omega,by omega,Q _,H _,HN.out.succ HX.out z⟩
     ·rw[z]at s;have b8:(0:Int)<=aoz q.data.toList x:=of_decide_eq_true s.symm;clear s I;go_wp2_with(go_at_call 131;refine(y _).mono ?_;rintro e w' ⟨rfl,hw⟩;rw[hw])
      go_ret;exact⟨by rw[apb HN.out HX.out z];rfl,H _⟩
    ·obtain⟨d1,d2⟩:=decode_high t i hi (by omega);have d3:=decode_le t i;obtain⟨d4,d5⟩:=Hg t i hi (by omega);have D5:=aor d5;clear d5 D;generalize Utf8.decode t i=rk at*;obtain⟨rr,k⟩:=rk;simp only at d1 d2 d3 d4 G;have y:=fun W=>yx q U Z.out (rr:Int) (by omega) W;go_wp2_with(go_at_call 131;refine(y _).mono ?_;rintro e w' ⟨rfl,S⟩)
     go_roundg g
     case measure=>omega
     case rel=>
      refine⟨i+k,by omega,by omega,?_,Gr.trans (H (i+k)) S,?_⟩
      ·have h1:=Q (i+k);rw[S.block _ (by rw[Lib.iterAt_size];exact(aoL.1 L).1)];exact h1
      ·intro j b hj hb;by_cases Y:j<i
       ·exact HN.out j b Y hb
       ·have h1:=D5.out j b (by omega) hj hb;rw[aos];intro h2;have h3:=Z.out b (List.contains_iff_mem.1 h2);omega
   ·obtain rfl:i=t.size:=by omega
    have G:=fun ty=>Lib.run_next_end_at (P:=aoq) wr w.heap.size t t.size ty L (by omega);go_wp2_with fail
    go_ret;exact⟨by rw[ao8 (by rw[<-size_data];exact HN.out)];rfl,M⟩
theorem Mn(t:ByteArray)(b:t.size<=1000)(w:World):Calls aoq 76 #[.string t,.string ⟨#[32,40,41,34,42]⟩] w (ar w (.int .i64 (jI t.data.toList))):=by
 have h:=zH t ⟨#[32,40,41,34,42]⟩ b (by decide) (by decide) w;have e:aoV t.data.toList (⟨#[32,40,41,34,42]⟩:ByteArray).data.toList=jI t.data.toList:=Iq t.data.toList;rw[e]at h;exact h
theorem oE(t q:ByteArray)(y:t.size<=1000)(z:4<=q.size/\q.size<=8)(ha:∀b∈q.data.toList,b.toNat<128)(w:World):
  Calls aoq 188 #[.string t,.string q] w (ar w (.bool (aph t.data.toList q.data.toList))):=by
 have s:=fun W=>zH t q y z ha W;unfold aph;clear ha;generalize aoV t.data.toList q.data.toList=k at*;go_enter Tryz.func188,Tryz.ntmps188;go_wp2_with(go_at_call 76;refine(s _).mono ?_;rintro e w' ⟨rfl,B⟩)
 go_ret;exact ar.mk rfl B
def c_(n:Int):Ending:=.panicked [{v:=.iface 75 (.agg #[.int .i64 n]),recovered:=false}]
theorem kX(n:Int)(w:World):Calls aoq 34 #[.int .i64 n] w (fun e w'=>e=c_ n/\w'=w):=by
 go_enter Tryz.func34,Tryz.ntmps34;go_wp2_with fail
 exact⟨rfl,rfl,rfl⟩
def tC(v:Value):Nat:=match v with| .string t=>t.size|_=>0
def RZ(w:World)(R:Option (List ByteArray))(e:Ending)(w':World):Prop:=
 match R with
 |none=>e=c_ 3/\Gr w w'
 |some b=>TL w b e w'
theorem yy(t:ByteArray)(k:Nat):t.extract 0 k=iX (t.data.toList.take k):=by
 apply bz;rw[aoT,fX];simp
theorem nI(t:ByteArray)(k:Nat):(t.extract k t.size).data.toList=t.data.toList.drop k:=by
 rw[aoT];exact aoE (by rw[aoI,<-size_data];exact aoQ _)
theorem UT(s:ByteArray)(hs:s.size<=1000)(w:World):Calls aoq 31 #[.string s] w (RZ w (bB s.size s.data.toList)):=by
 obtain⟨i0,hi,a1,a2,a3⟩:=info_parts qN;generalize hR:bB s.size s.data.toList=R;have HR:=aor hR;clear hR;go_enter Tryz.func31,Tryz.ntmps31;go_wp2_with fail
 go_loopw [0,3] (fun sv v w'=>∃(t:ByteArray) (us:List ByteArray) (n:Nat),sv=.string t/\t.size<=n/\t.size<=1000/\us.length+t.size<=1000/\Gr w w'/\nN w' w.heap.size v us/\(bB n t.data.toList).map (us++·)=R) (fun sv _ _=>tC sv)
 case atStart=>exact⟨s,[],s.size,rfl,aoQ _,hs,by simpa using hs,Gr.refl _,⟨rfl,.inl ⟨rfl,rfl⟩⟩,by rw[HR.out];cases R<;>simp⟩
 case round=>
  obtain⟨t,us,n,rfl,hn,ht,d6,hg,a9,hcut⟩:=hrel;have HO:=aor a9;have HC:=aor hcut;clear a9 hcut;cases I:t.data.toList with
  |nil=>
   have hb:t.toList.isEmpty=true:=by rw[aov,I];rfl
   have Z:=aor I;clear I;go_wp2_with fail
   go_ret;have hc:=HC.out;rw[Z.out]at hc;have:R=some us:=by rw[<-hc];cases n<;>simp[bB]
   rw[this];exact⟨_,rfl,HO.out,hg⟩
  |cons c r=>
   have hb:t.toList.isEmpty=false:=by rw[aov,I];rfl
   have b5:t.size=r.length+1:=by rw[size_data,I];rfl
   have h0:0<t.size:=by omega
   have J:t[0]=c:=by rw[eH t 0 h0];simp[I]
   obtain⟨n,rfl⟩:∃m,n=m+1:=⟨n-1,by omega⟩;have D:=fun W=>Mn t (by omega) W;have H:=HO.out;rw[I]at D;have Z:=aor I;have b6:=aor b5;clear b5;by_cases y:(c::r).all (fun x=>!bt x)=true
   ·have hv:jI (c::r)=-1:=by unfold jI;rw[if_pos y]
    rw[hv]at D;have O:=aor D;have V:=QK n y;have b0:=aor V;clear I D J hv y V;go_wp2_with(first
     |( go_at_call 76;refine(O.out _).mono ?_;rintro e w1 ⟨rfl,q⟩;have G:=hg.trans q;have b:=aL H q)
     |( at_builtin;refine dK (a0:=w) rfl _ _ 22 rfl 9 i0 (.string ⟨#[]⟩) 1 16 aoA hi a1 a2 a3 rfl (by decide) _ us.length (us.map aoB) rfl b [_] rfl (by simp;rfl) rfl G (by omega) (by omega) ?_;intro v4 w4 B Q))
    go_ret;have hc:=HC.out;rw[Z.out,b0.out]at hc;have he:R=some (us++[t]):=by
     rw[<-hc];show some (us++[iX (c::r)])=_;rw[<-Z.out,show iX t.data.toList=t from rfl]
    rw[he];refine⟨_,rfl,?_,Q⟩;unfold nN;rw[aot,aoD];exact B
   ·cases L:bt c
    ·have c4:∃K:Nat,((c::r).takeWhile (fun x=>!bt x)).length=K+1:=⟨(r.takeWhile (fun x=>!bt x)).length,by simp[L]⟩;obtain⟨K,hK⟩:=c4;obtain⟨b8,_⟩:=FH (fun x=>!bt x) (c::r) (by simpa using y);rw[hK]at b8;have d2:K+1<t.size:=by rw[b6.out];exact b8
     have hv:jI (c::r)=((K+1:Nat):Int):=by unfold jI;rw[if_neg y,hK]
     rw[hv]at D;have O:=aor D;have V:=DN n L (r:=r);rw[<-AI,<-QJ,hK,<-I]at V;have b0:=aor V;have g3:0<K+1:=by omega
     have g1:decide (((K+1:Nat):Int)<0)=false:=by simp;omega
     have g2:decide ((0:Int)<((K+1:Nat):Int))=true:=by simp
     clear I D J hv y V hK L;generalize K+1=k at*;go_wp2_with(first
       |( go_at_call 76;refine(O.out _).mono ?_;rintro e w1 ⟨rfl,q⟩;have G:=hg.trans q;have b:=aL H q)
       |( at_builtin;refine dK (a0:=w) rfl _ _ 22 rfl 9 i0 (.string ⟨#[]⟩) 1 16 aoA hi a1 a2 a3 rfl (by decide) _ us.length (us.map aoB) rfl b [_] rfl (by simp;rfl) rfl G (by omega) (by omega) ?_;intro v4 w4 B Q))
     have hx:(t.extract k t.size).size=t.size-k:=by rw[size_data,nI,aoI,<-size_data]
     refine⟨⟨t.extract k t.size,us++[t.extract 0 k],n,rfl,by omega,by omega,by simp;omega,Q,?_,?_⟩,by simp[tC];omega⟩
     · unfold nN
       rw[aot,aoD];exact B
     · rw[nI,yy,<-HC.out,b0.out]
       cases bB n (t.data.toList.drop k)<;>simp
    ·have hv:jI (c::r)=0:=by unfold jI;rw[if_neg y];simp[L]
     rw[hv]at D;have O:=aor D;have d7:1<=t.size:=h0;have M:(t.extract 1 t.size).data.toList=r:=by rw[nI,I];rfl
     by_cases a4:c=34
     · have hq:(((t[0].toNat:Nat):Int)==34)=true:=by rw[J,a4];rfl
       have Y:∀W,Calls aoq 72 #[.string (t.extract 1 t.size),.int .u8 34] W (ar W (.int .i64 (if r.all (·!=34)=true then-1 else((r.takeWhile (·!=34)).length:Int)))):=fun W=>by
         have h:=Tryz.strings_IndexByte (t.extract 1 t.size) 34 W;rw[show((34:Int)).toNat.toUInt8=34 from rfl,M,uB]at h;exact ar.of_same h
       subst a4;by_cases S:r.all (·!=34)=true
       · rw[if_pos S]at Y
         have z:=Oe n r S;have U:=aor z;have b1:=aor Y;clear I D J hv y L Y S z M;go_wp2_with(first
           |(go_at_call 76;refine(O.out _).mono ?_;rintro e w1 ⟨rfl,q⟩;have G:=hg.trans q;have b:=aL H q)
           |(go_at_call 72;refine(b1.out _).mono ?_;rintro e w3 ⟨rfl,a5⟩;have c5:=G.trans a5)
           |(go_at_call 34;refine(kX 3 _).mono ?_;rintro e w6 ⟨rfl,rfl⟩;unfold c_))
         have hc:=HC.out;rw[Z.out,U.out]at hc;have he:R=none:=by rw[<-hc];rfl
         rw[he];exact⟨rfl,rfl,c5⟩
       · obtain⟨hE,_⟩:=FH (·!=34) r (by simpa using S)
         rw[if_neg S]at Y;have z:=uZ n r (by simpa using S);rw[show iX (34::r.takeWhile (·!=34))=t.extract 0 ((r.takeWhile (·!=34)).length+1)by rw[yy,I,List.take_succ_cons,AI],show r.drop ((r.takeWhile (·!=34)).length+1)=(t.extract ((r.takeWhile (·!=34)).length+2) t.size).data.toList by rw[nI,I];rfl]at z;have U:=aor z;have b9:=b6.out;generalize c6:(r.takeWhile (·!=34)).length=E at*;have d8:E+2<=t.size:=by omega
         have b1:=aor Y;have gE:decide ((E:Int)<0)=false:=by simp
         clear I D J hv y L Y S z M b9 c6;go_wp2_with(first
           |(go_at_call 76;refine(O.out _).mono ?_;rintro e w1 ⟨rfl,q⟩;have G:=hg.trans q;have b:=aL H q)
           |(go_at_call 72;refine(b1.out _).mono ?_;rintro e w3 ⟨rfl,a5⟩;have G:=G.trans a5;have b:=aL b a5)
           |(at_builtin;refine dK (a0:=w) rfl _ _ 22 rfl 9 i0 (.string ⟨#[]⟩) 1 16 aoA hi a1 a2 a3 rfl (by decide) _ us.length (us.map aoB) rfl b [_] rfl (by simp;rfl) rfl G (by omega) (by omega) ?_;intro v4 w4 B Q))
         have hx:(t.extract (E+2) t.size).size=t.size-(E+2):=by rw[size_data,nI,aoI,<-size_data]
         refine⟨⟨t.extract (E+2) t.size,us++[t.extract 0 (E+1)],n,rfl,by omega,by omega,by simp;omega,Q,?_,?_⟩,by simp[tC];omega⟩
         · unfold nN
           rw[aot,aoD];exact B
         · rw[<-HC.out,Z.out,U.out]
           cases bB n (t.extract (E+2) t.size).data.toList<;>simp
     · have hq:(((t[0].toNat:Nat):Int)==34)=false:=by
         rw[J,aos];intro h;have:=beq_iff_eq.1 h;exact a4 (api.1 (by show c.toNat=34;omega))
       have hx:(t.extract 1 t.size).size=t.size-1:=by rw[size_data,nI,aoI,<-size_data]
       by_cases a6:c=32
       · have c7:(((t[0].toNat:Nat):Int) !=32)=false:=by rw[J,a6];rfl
         subst a6;have z:=AK n r;rw[<-M]at z;have U:=aor z;have b2:=aor M;clear I D J hv y L z M;go_wp2_with(first
           |(go_at_call 76;refine(O.out _).mono ?_;rintro e w1 ⟨rfl,q⟩;have G:=hg.trans q;have b:=aL H q))
         refine⟨⟨t.extract 1 t.size,us,n,rfl,by omega,by omega,by omega,G,b,?_⟩,by simp[tC];omega⟩;rw[<-HC.out,Z.out,<-b2.out];exact congrArg _ U.out.symm
       · have c7:(((t[0].toNat:Nat):Int) !=32)=true:=by
           rw[J,bne_iff_ne];intro h;exact a6 (api.1 (by show c.toNat=32;omega))
         have z:=xA n r L a6 a4;rw[show iX [c]=t.extract 0 1 by rw[yy,I];rfl,<-M]at z;have U:=aor z;have b2:=aor M;clear I D J hv y L z M;go_wp2_with(first
           |(go_at_call 76;refine(O.out _).mono ?_;rintro e w1 ⟨rfl,q⟩;have G:=hg.trans q;have b:=aL H q)
           |(at_builtin;refine dK (a0:=w) rfl _ _ 22 rfl 9 i0 (.string ⟨#[]⟩) 1 16 aoA hi a1 a2 a3 rfl (by decide) _ us.length (us.map aoB) rfl b [_] rfl (by simp;rfl) rfl G (by omega) (by omega) ?_;intro v4 w4 B Q))
         refine⟨⟨t.extract 1 t.size,us++[t.extract 0 1],n,rfl,by omega,by omega,by simp;omega,Q,?_,?_⟩,by simp[tC];omega⟩
         · unfold nN
           rw[aot,aoD];exact B
         · rw[<-HC.out,Z.out,<-b2.out,U.out]
           cases bB n (t.extract 1 t.size).data.toList<;>simp
def jm(N:Nat)(w:World)(v:Value)(ws:List ByteArray):Prop:=
 ∃(q:Option Addr) (c b:Nat),v=.slice q ws.length c/\(0<ws.length->q=some ⟨b,0,none⟩/\N<b/\ws.length<=c)/\gV w b 0 ws
def eQ(N:Nat)(w:World):Qy->Nat->Prop
 | .leaf kind ws dT,b=>N<b/\w.cell? ⟨b,0,none⟩=some (.int .i64 kind)/\(∃v,w.cell? ⟨b,1,none⟩=some v/\jm N w v ws)/\w.cell? ⟨b,2,none⟩=some (.int .i64 dT)/\w.cell? ⟨b,3,none⟩=some (.pointer none)/\w.cell? ⟨b,4,none⟩=some (.pointer none)
 | .node kind l r,b=>N<b/\w.cell? ⟨b,0,none⟩=some (.int .i64 kind)/\w.cell? ⟨b,1,none⟩=some (.slice none 0 0)/\w.cell? ⟨b,2,none⟩=some (.int .i64 0)/\
  ∃q s,w.cell? ⟨b,3,none⟩=some (.pointer (some ⟨q,0,none⟩))/\w.cell? ⟨b,4,none⟩=some (.pointer (some ⟨s,0,none⟩))/\eQ N w l q/\eQ N w r s
abbrev rM (N:Nat) (w w':World):Prop:=ag (fun i=>i=N) w w'
theorem gV.jz{N:Nat}{w w':World}{b q:Nat}{ws:List ByteArray}(h:gV w b q ws)(g:rM N w w')(s:0<ws.length->b≠N):gV w' b q ws:=fun i hi=>g.keeps (s (by omega)) (h i hi)
theorem jm.jz{N:Nat}{w w':World}{v:Value}{ws:List ByteArray}(h:jm N w v ws)(g:rM N w w'):jm N w' v ws:=by
 obtain⟨s,c,b,y,q,z⟩:=h;exact⟨s,c,b,y,q,z.jz g fun B=>by have:=(q B).2;omega⟩
theorem eQ.jz{N:Nat}{w w':World}(g:rM N w w'):∀(q:Qy) (b:Nat),eQ N w q b->eQ N w' q b
 | .leaf kind ws dT,b,⟨s,y,⟨v,z,B⟩,D,G,H⟩=>⟨s,g.keeps (by omega) y,⟨v,g.keeps (by omega) z,B.jz g⟩,g.keeps (by omega) D,g.keeps (by omega) G,g.keeps (by omega) H⟩
 | .node kind l r,b,⟨s,y,z,B,I,J,D,G,H,L⟩=>⟨s,g.keeps (by omega) y,g.keeps (by omega) z,g.keeps (by omega) B,I,J,g.keeps (by omega) D,g.keeps (by omega) G,eQ.jz g l I H,eQ.jz g r J L⟩
theorem R1{w:World}{B:Nat}{v:Value}{ws:List ByteArray}(h:nN w B v ws){b:Option Addr}{k c:Nat}(e:v=.slice b k c):ws.length<=c:=by
 obtain⟨_,q⟩:=h;rcases q with⟨rfl,y⟩|⟨g,cap,s,rfl,_,z,hn,_⟩
 ·omega
 ·cases e;exact hn
theorem Hh{N B:Nat}{w:World}{v:Value}{ws:List ByteArray}(h:nN w B v ws)(G:N<B):jm N w v ws:=by
 obtain⟨z,c,b,q,s,D⟩:=iP h;refine⟨z,c,b,q,fun y=>⟨s y,?_,R1 h q⟩,D⟩;have:=aP h b (by rw[q,s y];rfl);omega
def oG(N:Nat)(w:World)(l:List ByteArray):Prop:=
 ∃(s:Option Addr) (c b q:Nat),w.cell? ⟨N,0,none⟩=some (.slice s l.length c)/\l.length<=c/\(0<l.length->s=some ⟨b,q,none⟩)/\(0<l.length->b≠N)/\gV w b q l/\w.frozen? ⟨N,0,none⟩=false
theorem oG.gr{N:Nat}{w w':World}{l:List ByteArray}(h:oG N w l)(g:Gr w w'):oG N w' l:=by
 obtain⟨y,c,b,q,s,z,B,D,G,H⟩:=h;exact⟨y,c,b,q,g.keeps s,z,B,D,G.gr g,(g.frozen 0 (ad s)).trans H⟩
theorem fO(N:Nat)(l:List ByteArray)(D:l.length<=1000)(w:World)(h:oG N w l):Calls aoq 33 #[.pointer (some ⟨N,0,none⟩)] w fun e w'=>e=.returned (.string (aS l))/\w'=w:=by
 obtain⟨G,c,b,B,H,I,q,y,s,J⟩:=h;cases l with
 |nil=>
  clear q y s;go_enter apx,apt;go_wp2_with fail
  go_ret;exact⟨rfl,rfl⟩
 |cons a t=>
  obtain rfl:=q (by simp);have z:=s 0 (by simp);simp only[List.getElem_cons_zero,aps]at z;have L:((((a::t).length:Nat):Int)==0)=false:=by rw[aos];intro h;have:=beq_iff_eq.1 h;simp at this;omega
  have M:0<(a::t).length:=by simp
  show Calls _ _ _ _ fun e w'=>e=.returned (.string a)/\w'=w;generalize(a::t).length=m at*;clear q y s;go_enter apx,apt;go_wp2_with fail
  go_ret;exact⟨rfl,rfl⟩
theorem oG.step{N:Nat}{w:World}{a:ByteArray}{t:List ByteArray}{b q y:Nat}{s:Option Addr}{u:Value}(B:gV w b q (a::t))(D:b≠N)(G:w.cell? ⟨N,0,none⟩=some u)(H:w.frozen? ⟨N,0,none⟩=false)(hc:t.length<=y)(z:0<t.length->s=some ⟨b,q+1,none⟩):
  oG N (w.setCell ⟨N,0,none⟩ (.slice s t.length y)) t:=by
 refine⟨s,y,b,q+1,aoR _ _ _ G,hc,z,fun _=>D,fun i hi=>?_,by rw[World.frozen?_setCell];exact H⟩;have:=B (i+1) (by simp;omega);rw[aoN _ _ _ _ (by simp)];rw[show q+1+i=q+(i+1)by omega];simpa using this
theorem iQ(N:Nat)(a:ByteArray)(t:List ByteArray)(D:(a::t).length<=1000)(w:World)(h:oG N w (a::t)):Calls aoq 78 #[.pointer (some ⟨N,0,none⟩),.string a] w fun e w'=>e=.returned (.bool true)/\oG N w' t/\rM N w w':=by
 have hn:=fO N (a::t) D w h;rw[show aS (a::t)=a from rfl]at hn;obtain⟨M,c,b,L,s,G,y,z,B,H⟩:=h;obtain rfl:=y (by simp);have I:=z (by simp);have J:=aor B;have q:(a::t).length=t.length+1:=rfl;rw[q]at s G;clear y z B;go_enter apy,apu;go_wp2_with(go_at_call 33;refine hn.mono ?_;rintro e O ⟨rfl,rfl⟩)
 all_goals
  go_ret;refine⟨rfl,oG.step J.out I s H (by omega) ?_,ag.setCell _ _ rfl⟩;intro Q
  first|rfl|omega
theorem dN(N:Nat)(l:List ByteArray)(s:ByteArray)(b:l.length<=1000)(w:World)(h:oG N w l)(hs:aS l≠s):Calls aoq 78 #[.pointer (some ⟨N,0,none⟩),.string s] w fun e w'=>e=.returned (.bool false)/\w'=w:=by
 have hn:=fO N l b w h;generalize aS l=a at*;have q:(a.toList==s.toList)=false:=by
  rw[aos];intro h;exact hs (bz (by rw[beq_iff_eq,aov,aov]at h;exact h))
 clear h hs;go_enter apy,apu;go_wp2_with(go_at_call 33;refine hn.mono ?_;rintro e y ⟨rfl,rfl⟩)
 go_ret;exact⟨rfl,rfl⟩
