/-
  Part 22 of the proof.
-/
import Derived.Test.YtldmhjbdahjhdaaGreatDoorZc1
import Derived.Deep.OwnRows
set_option maxRecDepth 100000
set_option maxHeartbeats 100000000
set_option linter.all false
namespace Go.Proofs.YtldmhjbdahjhdaaGreatDoor
section
open Go Go.RowKit
def BytesIn(w:World)(b:Nat)(l:List UInt8):Prop:=∀i (h:i<l.length),w.cell? ⟨b,i,none⟩=some (.int .u8 (l[i].toNat:Int))/\w.frozen? ⟨b,i,none⟩=false
theorem BytesIn.set{w:World}{b:Nat}{l:List UInt8}(h:BytesIn w b l)(k:Nat)(hk:k<l.length)(c:UInt8):BytesIn (w.setCell ⟨b,k,none⟩ (.int .u8 (c.toNat:Int))) b (l.set k c):=by
 intro i hi
 have hi':i<l.length:=by simpa using hi
 refine⟨?_,by simpa using(h i hi').2⟩
 by_cases e:k=i
 ·subst e
  rw[World.cell?_setCell_same (w:=w) (a:=⟨b,k,none⟩) (v:=.int .u8 (c.toNat:Int)) (h:=(h k hk).1)]
  simp
 ·rw[World.cell?_setCell_other (w:=w) (a:=⟨b,k,none⟩) (b:=⟨b,i,none⟩) (v:=.int .u8 (c.toNat:Int)) (h:=by intro h;injection h with _ h2 _;exact e h2),(h i hi').1]
  simp[e]
theorem bytesIn_new(w:World)(s:ByteArray)(cap:Nat)(t:TypeId):BytesIn (w.alloc (.cells (bytesRow s cap) t ((bytesRow s cap).size,(bytesRow s cap).size+1))) w.heap.size s.data.toList:=by
 intro i hi
 have hi':i<s.data.size:=by simpa using hi
 have hsz:i<(bytesRow s cap).size:=by
  unfold bytesRow
  rw[Array.size_append,Array.size_map]
  omega
 refine⟨?_,?_⟩
 ·rw[World.cell?_alloc_mark]
  unfold bytesRow
  rw[Array.getElem?_append_left (by simpa using hi'),Array.getElem?_map,Array.getElem?_eq_getElem hi']
  simp
 ·rw[World.frozen?_alloc_mark]
  simp
  omega
def smallC(c:UInt8):UInt8:=if 65<=c/\c<=90 then c+32 else c
def smallS(s:ByteArray):ByteArray:=⟨(s.data.toList.map smallC).toArray⟩
def upTo(l:List UInt8)(j:Nat):List UInt8:=(l.take j).map smallC++l.drop j
theorem upTo_length(l:List UInt8)(j:Nat):(upTo l j).length=l.length:=by simp[upTo];omega
theorem upTo_at(l:List UInt8)(j i:Nat)(hj:j<=l.length):(upTo l j)[i]?=if i<j then l[i]?.map smallC else l[i]?:=by
 unfold upTo
 split
 ·rename_i h
  rw[List.getElem?_append_left (by simp;omega),List.getElem?_map,List.getElem?_take,if_pos h]
 ·rename_i h
  rw[List.getElem?_append_right (by simp;omega),List.getElem?_drop]
  congr 1
  simp
  omega
theorem upTo_get(l:List UInt8)(j:Nat)(h:j<l.length)(h':j<(upTo l j).length):(upTo l j)[j]=l[j]:=by
 have:=upTo_at l j j (Nat.le_of_lt h)
 rw[if_neg (Nat.lt_irrefl j),List.getElem?_eq_getElem h,List.getElem?_eq_getElem h']at this
 exact Option.some.inj this
theorem upTo_succ(l:List UInt8)(j:Nat)(h:j<l.length):upTo l (j+1)=(upTo l j).set j (smallC l[j]):=by
 apply List.ext_getElem?
 intro i
 rw[upTo_at l (j+1) i h,List.getElem?_set,upTo_at l j i (Nat.le_of_lt h)]
 by_cases e:j=i
 ·subst e
  rw[if_pos (by omega),if_pos rfl,if_pos (by rw[upTo_length];exact h),List.getElem?_eq_getElem h]
  rfl
 ·rw[if_neg e]
  by_cases e2:i<j
  ·rw[if_pos (by omega),if_pos e2]
  ·rw[if_neg (by omega),if_neg e2]
theorem upTo_all(l:List UInt8)(j:Nat)(h:l.length<=j):upTo l j=l.map smallC:=by
 unfold upTo
 rw[List.take_of_length_le h,List.drop_eq_nil_of_le h,List.append_nil]
theorem smallC_yes(c:UInt8)(h1:(65:Int)<=(c.toNat:Int))(h2:(c.toNat:Int)<=90):((smallC c).toNat:Int)=(c.toNat:Int)+32:=by
 have e1:(65:UInt8)<=c:=by rw[UInt8.le_iff_toNat_le];simpa using(by omega:65<=c.toNat)
 have e2:c<=(90:UInt8):=by rw[UInt8.le_iff_toNat_le];simpa using(by omega:c.toNat<=90)
 unfold smallC
 rw[if_pos ⟨e1,e2⟩,UInt8.toNat_add]
 simp
 omega
theorem smallC_no(c:UInt8)(h:¬((65:Int)<=(c.toNat:Int)/\(c.toNat:Int)<=90)):smallC c=c:=by
 unfold smallC
 rw[if_neg]
 rintro⟨e1,e2⟩
 rw[UInt8.le_iff_toNat_le]at e1 e2
 simp at e1 e2
 omega
theorem small_t(s:ByteArray)(hs:s.size<=9223372036854775807)(w:World):Calls Tryz.prog 86 #[.string s] w (Ret w (.string (smallS s))):=by
 have hcv:=fun w=>run_bytes_of_string (P:=Tryz.prog) w 9 188 5 s Tryz.underlying9 Tryz.underlying188 Tryz.underlying5
 go_enter Tryz.func86,Tryz.ntmps86
 go_wp2_with fail
 clear hcv
 have hb0:BytesIn (w.alloc (Obj.cells (bytesRow s (grownCap w s.size 0 5)) 5 ((bytesRow s (grownCap w s.size 0 5)).size,(bytesRow s (grownCap w s.size 0 5)).size+1))).drew w.heap.size (upTo s.data.toList 0):=
  bytesIn_new w s (grownCap w s.size 0 5) 5
 generalize grownCap w s.size 0 5=cap at*
 have hg0:Gr w (w.alloc (Obj.cells (bytesRow s cap) 5 ((bytesRow s cap).size,(bytesRow s cap).size+1))).drew:=(Gr.alloc (Gr.refl w) _).drew
 generalize(w.alloc (Obj.cells (bytesRow s cap) 5 ((bytesRow s cap).size,(bytesRow s cap).size+1))).drew=w0 at*
 have HB0:=Lib.hid hb0
 clear hb0
 go_loopw [10] (fun i w'=>∃j:Nat,j<=s.size/\i=.int .i64 j/\Gr w w'/\BytesIn w' w.heap.size (upTo s.data.toList j)) (fun i _=>s.size-(intOf i).toNat)
 case atStart=>exact⟨0,Nat.zero_le _,rfl,hg0,HB0.out⟩
 case round=>
  obtain⟨j,hj,rfl,hg,hb⟩:=hrel
  have HB:=Lib.hid hb
  clear hb hg0
  by_cases hlt:j<s.size
  ·have hl:j<s.data.toList.length:=by rw[<-size_data];exact hlt
   have hl':j<(upTo s.data.toList j).length:=by rw[upTo_length];exact hl
   have hc:=(HB.out j hl').1
   have hf:=(HB.out j hl').2
   rw[upTo_get _ _ hl]at hc
   generalize hcc:s.data.toList[j]=c at*
   have HC:=Lib.hid hcc
   clear hcc
   have hr:=UInt8.toNat_lt c
   go_wp2_with fail
   ·have h1:(65:Int)<=(c.toNat:Int):=by assumption
    have h2:(c.toNat:Int)<=90:=by assumption
    have e:(c.toNat:Int)+97-65=((smallC c).toNat:Int):=by rw[smallC_yes c h1 h2];omega
    refine⟨⟨j+1,by omega,by go_num,hg.setCell (Nat.le_refl _) _,?_⟩,by simp[intOf];omega⟩
    rw[e,upTo_succ _ _ hl,HC.out]
    exact HB.out.set j hl' _
   all_goals
    have e:smallC c=c:=smallC_no c (by omega)
    refine⟨⟨j+1,by omega,by go_num,hg,?_⟩,by simp[intOf];omega⟩
    rw[upTo_succ _ _ hl,HC.out,e,<-HC.out,<-upTo_get _ _ hl hl',List.set_getElem_self]
    exact HB.out
  ·have hx:=HB.out
   rw[upTo_all _ _ (by rw[<-size_data];omega)]at hx
   have hk:(convert 188 9 (.slice (some ⟨w.heap.size,0,none⟩) s.size cap)).run Tryz.prog wr=.ok (.string (smallS s)) wr:=by
    have:=run_convert_bytes_back (P:=Tryz.prog) wr 188 9 5 ⟨w.heap.size,0,none⟩ cap (s.data.toList.map smallC) Tryz.underlying188 Tryz.underlying5 Tryz.underlying9
     (fun j hj=>by
      have:=(hx j hj).1
      unfold Addr.add
      split
      ·rename_i h0;subst h0;exact this
      ·simpa using this)
    rw[List.length_map,<-size_data]at this
    exact this
   clear hx
   go_wp2_with fail
   go_ret
   exact Ret.mk rfl hg
def endsT:List (List UInt8×List UInt8):=[([115,115,101,115],[115,115]),([105,101,115],[121]),([115,115],[115,115]),([105,110,103],[]),([101,100],[]),([101,115],[101]),([115],[])]
def endsCells:Array Value:=#[.string ⟨#[115,115,101,115]⟩,.string ⟨#[115,115]⟩,.string ⟨#[105,101,115]⟩,.string ⟨#[121]⟩,.string ⟨#[115,115]⟩,.string ⟨#[115,115]⟩,.string ⟨#[105,110,103]⟩,.string ⟨#[]⟩,.string ⟨#[101,100]⟩,.string ⟨#[]⟩,.string ⟨#[101,115]⟩,.string ⟨#[101]⟩,.string ⟨#[115]⟩,.string ⟨#[]⟩]
def endE(j:Nat):ByteArray:=⟨(endsT.getD j ([],[])).1.toArray⟩
def endR(j:Nat):ByteArray:=⟨(endsT.getD j ([],[])).2.toArray⟩
def EndsAt(w:World):Prop:=∃t fr,w.heap[(0:Nat)]?=some (.cells endsCells t fr)
theorem EndsAt.lt{w:World}(h:EndsAt w):0<w.heap.size:=by
 obtain⟨t,fr,h⟩:=h
 exact(Array.getElem?_eq_some_iff.1 h).1
theorem EndsAt.gr{w w':World}(h:EndsAt w)(g:Gr w w'):EndsAt w':=by
 have hl:=h.lt
 obtain⟨t,fr,h⟩:=h
 exact⟨t,fr,by rw[g.block _ hl];exact h⟩
theorem run_ends0(w:World):(Instr.index 228 (.agg endsCells) (.int .i64 0)).run Tryz.prog w=.ok (.agg #[.string (endE 0),.string (endR 0)]) w:=by kernel_rfl
theorem run_ends1(w:World):(Instr.index 228 (.agg endsCells) (.int .i64 1)).run Tryz.prog w=.ok (.agg #[.string (endE 1),.string (endR 1)]) w:=by kernel_rfl
theorem run_ends2(w:World):(Instr.index 228 (.agg endsCells) (.int .i64 2)).run Tryz.prog w=.ok (.agg #[.string (endE 2),.string (endR 2)]) w:=by kernel_rfl
theorem run_ends3(w:World):(Instr.index 228 (.agg endsCells) (.int .i64 3)).run Tryz.prog w=.ok (.agg #[.string (endE 3),.string (endR 3)]) w:=by kernel_rfl
theorem run_ends4(w:World):(Instr.index 228 (.agg endsCells) (.int .i64 4)).run Tryz.prog w=.ok (.agg #[.string (endE 4),.string (endR 4)]) w:=by kernel_rfl
theorem run_ends5(w:World):(Instr.index 228 (.agg endsCells) (.int .i64 5)).run Tryz.prog w=.ok (.agg #[.string (endE 5),.string (endR 5)]) w:=by kernel_rfl
theorem run_ends6(w:World):(Instr.index 228 (.agg endsCells) (.int .i64 6)).run Tryz.prog w=.ok (.agg #[.string (endE 6),.string (endR 6)]) w:=by kernel_rfl
theorem run_ends(j:Nat)(hj:j<7)(w:World):(Instr.index 228 (.agg endsCells) (.int .i64 (j:Int))).run Tryz.prog w=.ok (.agg #[.string (endE j),.string (endR j)]) w:=
 match j,hj with
 |0,_=>run_ends0 w
 |1,_=>run_ends1 w
 |2,_=>run_ends2 w
 |3,_=>run_ends3 w
 |4,_=>run_ends4 w
 |5,_=>run_ends5 w
 |6,_=>run_ends6 w
def stemL:List (List UInt8×List UInt8)->List UInt8->List UInt8
 |[],s=>s
 |(e,r)::rest,s=>if e.isSuffixOf s then(if s.length-e.length<3 then s else s.take (s.length-e.length)++r)else stemL rest s
def stemS(s:ByteArray):ByteArray:=⟨(stemL endsT s.data.toList).toArray⟩
def cutS(s p:ByteArray):ByteArray:=⟨(Lib.trimSuffix s.data.toList p.data.toList).toArray⟩
theorem stem_step(l:List UInt8)(j:Nat)(hj:j<7):stemL (endsT.drop j) l=if(endE j).data.toList.isSuffixOf l then(if l.length-(endE j).data.toList.length<3 then l else l.take (l.length-(endE j).data.toList.length)++(endR j).data.toList)else stemL (endsT.drop (j+1)) l:=by
 match j,hj with
 |0,_=>rfl
 |1,_=>rfl
 |2,_=>rfl
 |3,_=>rfl
 |4,_=>rfl
 |5,_=>rfl
 |6,_=>rfl
theorem cut_yes(s p:ByteArray)(hs:s.size<=9223372036854775807)(h:p.data.toList.isSuffixOf s.data.toList=true)(w:World):
  Calls Tryz.prog 141 #[.string s,.string p] w fun e w'=>e=.returned (.tuple #[.string (cutS s p),.bool true])/\w=w':=
 (Tryz.strings_CutSuffix s p w hs).mono fun _ _ ⟨he,hw⟩=>⟨by rw[he];unfold Lib.hasSuffix;rw[h];rfl,hw.symm⟩
theorem cut_no(s p:ByteArray)(hs:s.size<=9223372036854775807)(h:p.data.toList.isSuffixOf s.data.toList=false)(w:World):
  Calls Tryz.prog 141 #[.string s,.string p] w fun e w'=>e=.returned (.tuple #[.string (cutS s p),.bool false])/\w=w':=
 (Tryz.strings_CutSuffix s p w hs).mono fun _ _ ⟨he,hw⟩=>⟨by rw[he];unfold Lib.hasSuffix;rw[h];rfl,hw.symm⟩
theorem cutS_data(s p:ByteArray)(h:p.data.toList.isSuffixOf s.data.toList=true):(cutS s p).data.toList=s.data.toList.take (s.data.toList.length-p.data.toList.length):=by
 unfold cutS Lib.trimSuffix Lib.hasSuffix
 rw[h]
 simp
theorem cutS_size(s p:ByteArray)(h:p.data.toList.isSuffixOf s.data.toList=true):(cutS s p).size=s.size-p.size:=by
 rw[size_data,cutS_data s p h,List.length_take,<-size_data,<-size_data]
 omega
theorem endR_small(j:Nat)(hj:j<7):(endR j).size<=2:=by
 match j,hj with
 |0,_=>decide
 |1,_=>decide
 |2,_=>decide
 |3,_=>decide
 |4,_=>decide
 |5,_=>decide
 |6,_=>decide
theorem data_app(a b:ByteArray):(a++b).data.toList=a.data.toList++b.data.toList:=by
 rw[ByteArray.data_append,Array.toList_append]
theorem stem_t(s:ByteArray)(hs:s.size<=4611686018427387904)(w:World)(he:EndsAt w):Calls Tryz.prog 88 #[.string s] w (Ret w (.string (stemS s))):=by
 obtain⟨tt,fr,he⟩:=he
 go_enter Tryz.func88,Tryz.ntmps88
 go_wp2_with(refine wpList_load_row rfl 228 _ rfl 0 rfl tt endsCells fr _ he Tryz.underlying228 rfl (by kernel_rfl) ?_)
 clear he
 go_loopw [8] (fun i w'=>∃j:Nat,j<=7/\i=.int .i64 j/\Gr w w'/\stemL (endsT.drop j) s.data.toList=stemL endsT s.data.toList) (fun i _=>7-(intOf i).toNat)
 case atStart=>exact⟨0,Nat.zero_le _,rfl,Gr.refl _,rfl⟩
 case round=>
  obtain⟨j,hj,rfl,hg,hst⟩:=hrel
  have HS:=Lib.hid hst
  clear hst
  by_cases hlt:j<7
  ·have hidx:=fun w=>run_ends j hlt w
   have HT:=Lib.hid (stem_step s.data.toList j hlt)
   have hr2:=endR_small j hlt
   cases hsx:(endE j).data.toList.isSuffixOf s.data.toList
   ·have HX:=Lib.hid hsx
    clear hsx
    go_wp2_with(go_at_call 141;refine(cut_no _ _ (by omega) HX.out _).mono ?_;rintro e w1 ⟨rfl,rfl⟩)
    exact⟨⟨j+1,by omega,by go_num,hg.alloc _,by rw[<-HS.out,HT.out,HX.out];rfl⟩,by simp[intOf];omega⟩
   ·have HX:=Lib.hid hsx
    clear hsx
    have hcs:=cutS_size s (endE j) HX.out
    have HC:=Lib.hid hcs
    have hcs2:(cutS s (endE j)).size<=s.size:=by omega
    clear hcs
    go_wp2_with(go_at_call 141;refine(cut_yes _ _ (by omega) HX.out _).mono ?_;rintro e w1 ⟨rfl,rfl⟩)
    all_goals
     go_ret
     refine Ret.mk ?_ (hg.alloc _)
     have hlen:s.data.toList.length-(endE j).data.toList.length=(cutS s (endE j)).size:=by rw[HC.out,size_data,size_data]
     rw[show stemS s=⟨(stemL endsT s.data.toList).toArray⟩from rfl,<-HS.out,HT.out,HX.out,hlen]
     simp only[↓reduceIte]
    ·rw[if_pos (by omega)];rfl
    ·rw[if_neg (by omega)]
     refine congrArg Value.string (bytes_ext ?_)
     rw[data_app,cutS_data s _ HX.out,<-hlen]
  ·go_wp2_with fail
   go_ret
   obtain rfl:j=7:=by omega
   exact Ret.mk (by rw[show stemS s=⟨(stemL endsT s.data.toList).toArray⟩from rfl,<-HS.out];rfl) hg
end
section
open Go
def letterB(c:UInt8):Bool:=(decide ((97:Int)<=c.toNat)&&decide ((c.toNat:Int)<=122))||(decide ((65:Int)<=c.toNat)&&decide ((c.toNat:Int)<=90))||(decide ((48:Int)<=c.toNat)&&decide ((c.toNat:Int)<=57))||decide ((127:Int)<c.toNat)
def runsA(p:UInt8->Bool)(cur:List UInt8):List UInt8->List (List UInt8)
 |[]=>if cur.isEmpty then[]else[cur]
 |c::l=>if p c then runsA p (cur++[c]) l else if cur.isEmpty then runsA p [] l else cur::runsA p [] l
theorem runs_letters(p:UInt8->Bool)(x l:List UInt8)(h:x.all p=true):∀cur,runsA p cur (x++l)=runsA p (cur++x) l:=by
 induction x with
 |nil=>intro cur;simp
 |cons c x ih=>
  intro cur
  simp only[List.all_cons,Bool.and_eq_true]at h
  rw[List.cons_append,runsA,if_pos h.1,ih h.2]
  simp
theorem runs_stop(p:UInt8->Bool)(x l:List UInt8)(c:UInt8)(h:x.all p=true)(hx:x≠[])(hc:p c=false):runsA p [] (x++c::l)=x::runsA p [] l:=by
 rw[runs_letters p x _ h,List.nil_append,runsA,if_neg (by simp[hc]),if_neg (by simpa using hx)]
theorem runs_last(p:UInt8->Bool)(x:List UInt8)(h:x.all p=true)(hx:x≠[]):runsA p [] x=[x]:=by
 have:=runs_letters p x [] h []
 rw[List.append_nil,List.nil_append]at this
 rw[this,runsA,if_neg (by simpa using hx)]
theorem runs_skip(p:UInt8->Bool)(l:List UInt8)(c:UInt8)(hc:p c=false):runsA p [] (c::l)=runsA p [] l:=by
 rw[runsA,if_neg (by simp[hc])];rfl
theorem runs_map(p:UInt8->Bool)(f:UInt8->UInt8)(hf:∀c,p (f c)=p c)(l:List UInt8):∀cur,runsA p (cur.map f) (l.map f)=(runsA p cur l).map (List.map f):=by
 induction l with
 |nil=>intro cur;cases cur<;>simp[runsA]
 |cons c l ih=>
  intro cur
  simp only[List.map_cons,runsA,hf]
  split
  ·rw[<-ih];simp
  ·have h0:=ih []
   rw[List.map_nil]at h0
   cases cur with
   |nil=>simpa using h0
   |cons d cur=>simp[h0]
end
section
open Go Go.RowKit
theorem letter_t(c:UInt8)(w:World):Calls Tryz.prog 87 #[.int .u8 (c.toNat:Int)] w fun e w'=>e=.returned (.bool (letterB c))/\w'=w:=by
 have hr:=UInt8.toNat_lt c
 generalize hb:letterB c=b
 have HB:=Lib.hid hb
 clear hb
 go_enter Tryz.func87,Tryz.ntmps87
 go_wp2_with fail
 all_goals
  go_ret
  refine⟨congrArg (fun x=>Ending.returned (Value.bool x)) ?_,rfl⟩
  rw[<-HB.out]
  unfold letterB
  first|(simp[*];done)|(rw[Bool.eq_iff_iff];simp only[Bool.or_eq_true,Bool.and_eq_true,decide_eq_true_eq];omega)
theorem letter_small(c:UInt8):letterB (smallC c)=letterB c:=by
 by_cases h:(65:Int)<=(c.toNat:Int)/\(c.toNat:Int)<=90
 ·have e:=smallC_yes c h.1 h.2
  unfold letterB
  rw[e,Bool.eq_iff_iff]
  simp only[Bool.or_eq_true,Bool.and_eq_true,decide_eq_true_eq]
  omega
 ·rw[smallC_no c h]
def wordY(y:List UInt8):ByteArray:=stemS ⟨(y.take 12).toArray⟩
def splitY(l:List UInt8):List ByteArray:=(runsA letterB [] l).map wordY
def splitS(s:ByteArray):List ByteArray:=splitY (smallS s).data.toList
def OwnS(w:World)(B:Nat)(v:Value)(ws:List ByteArray):Prop:=w.ownsRow B 9 1 v ws.length (ws.map Value.string)
def RetS(w:World)(ws:List ByteArray)(e:Ending)(w':World):Prop:=∃v,e=.returned v/\OwnS w' w.heap.size v ws/\Gr w w'
theorem info_string:(Tryz.prog.info? 9).map (fun i=>(i.zero,i.size,i.bytes))=some (some (.string ⟨#[]⟩),1,16):=by kernel_rfl
theorem take_letters(l:List UInt8)(j m:Nat)(hjm:j<=m)(hm:m<l.length)(h:((l.drop j).take (m-j)).all letterB=true)(hl:letterB l[m]=true):((l.drop j).take (m+1-j)).all letterB=true:=by
 rw[show m+1-j=(m-j)+1 from by omega,List.take_succ_eq_append_getElem (by simp;omega),List.all_append,h]
 simp[show j+(m-j)=m from by omega,hl]
theorem split_at(l:List UInt8)(j m:Nat)(hjm:j<=m)(hm:m<=l.length)(h:((l.drop j).take (m-j)).all letterB=true)(hl:∀h:m<l.length,letterB l[m]=false):
  splitY (l.drop j)=(if j<m then[wordY ((l.drop j).take (m-j))]else[])++splitY (l.drop (m+1)):=by
 unfold splitY
 rcases Nat.lt_or_ge m l.length with hlt|hge
 ·have e:l.drop j=(l.drop j).take (m-j)++l[m]::l.drop (m+1):=by
   rw[<-List.drop_eq_getElem_cons hlt]
   have:=List.take_append_drop (m-j) (l.drop j)
   rw[List.drop_drop,show j+(m-j)=m from by omega]at this
   exact this.symm
  split
  ·rename_i hj
   conv=>lhs;rw[e]
   rw[runs_stop letterB _ _ _ h (by intro h0;have:=congrArg List.length h0;simp at this;omega) (hl hlt)]
   rfl
  ·have hjm':m=j:=by omega
   subst hjm'
   rw[List.drop_eq_getElem_cons hlt,runs_skip letterB _ _ (hl hlt)]
   rfl
 ·have hm':m=l.length:=by omega
  subst hm'
  rw[List.drop_eq_nil_of_le (Nat.le_succ _)]
  have e:(l.drop j).take (l.length-j)=l.drop j:=by rw[List.take_of_length_le (by simp)]
  rw[e]at h⊢
  split
  ·rename_i hj
   rw[runs_last letterB _ h (by intro h0;have:=congrArg List.length h0;simp at this;omega)]
   rfl
  ·rw[List.drop_eq_nil_of_le (by omega)]
   rfl
theorem ext_word(t:ByteArray)(j m:Nat)(hjm:j<=m):t.extract j (min (m:Int) ((j:Int)+12)).toNat=⟨(((t.data.toList.drop j).take (m-j)).take 12).toArray⟩:=by
 refine bytes_ext ?_
 rw[Lib.extract_data,List.take_take]
 simp only
 congr 1
 omega
theorem split_t(s:ByteArray)(hs:s.size<=1000000)(w:World)(he:EndsAt w):Calls Tryz.prog 44 #[.string s] w (RetS w (splitS s)):=by
 obtain⟨i0,hi,hz0,hz1,hz2⟩:=info_parts info_string
 have HE:=Lib.hid he
 clear he
 generalize hws:splitS s=ws
 unfold splitS at hws
 have hsz:(smallS s).size=s.size:=by rw[size_data,size_data];simp[smallS]
 have HW:=Lib.hid hws
 have HZ:=Lib.hid hsz
 clear hws hsz
 go_enter Tryz.func44,Tryz.ntmps44
 go_wp2_with(go_at_call 86;refine(small_t s (by omega) _).mono ?_;rintro e w1 ⟨rfl,hg1⟩)
 have hs2:(smallS s).size<=1000000:=by rw[HZ.out];exact hs
 clear HZ
 generalize smallS s=t at*
 go_loopw [4,3] (fun i v w'=>∃(j:Nat) (us:List ByteArray),j<=t.size+1/\i=.int .i64 j/\us.length<=j/\Gr w w'/\OwnS w' w.heap.size v us/\us++splitY (t.data.toList.drop j)=splitY t.data.toList) (fun i _ _=>t.size+1-(intOf i).toNat)
 case atStart=>exact⟨0,[],by omega,rfl,by simp,hg1,⟨rfl,.inl ⟨rfl,rfl⟩⟩,rfl⟩
 case round=>
  obtain⟨j,us,hj,rfl,hul,hg,hown,hst⟩:=hrel
  have HS:=Lib.hid hst
  have HO:=Lib.hid hown
  clear hst hown
  by_cases hlt:j<t.size
  ·go_wp2_with fail
   go_loop [5] (fun n=>∃m:Nat,j<=m/\m<=t.size/\n=.int .i64 m/\((t.data.toList.drop j).take (m-j)).all letterB=true) (fun n=>t.size-(intOf n).toNat)
   case atStart=>exact⟨j,Nat.le_refl _,by omega,rfl,by simp⟩
   case round=>
    obtain⟨m,hjm,hm,rfl,hall⟩:=hrel
    have HA:=Lib.hid hall
    clear hall
    by_cases hmt:m<t.size/\∃h:m<t.size,letterB t[m]=true
    ·obtain⟨hmt,_,hlb⟩:=hmt
     have hr:=UInt8.toNat_lt t[m]
     have HL:=Lib.hid hlb
     clear hlb
     go_wp2_with(go_at_call 87;refine(letter_t t[m] _).mono ?_;rintro e w1 ⟨rfl,rfl⟩;rw[HL.out])
     refine⟨⟨m+1,by omega,by omega,by go_num,?_⟩,by simp[intOf];omega⟩
     exact take_letters t.data.toList j m hjm (by rw[<-size_data];exact hmt) HA.out (by rw[<-get_data t m hmt];exact HL.out)
    ·have hst:=split_at t.data.toList j m hjm (by rw[<-size_data];exact hm) HA.out (fun h=>by
      have h':m<t.size:=by rw[size_data];exact h
      rw[<-get_data t m h',Bool.eq_false_iff]
      exact fun h2=>hmt ⟨h',h',h2⟩)
     have HL:=Lib.hid hst
     have hlf:∀h:m<t.size,letterB t[m]=false:=fun h=>by rw[Bool.eq_false_iff];exact fun h2=>hmt ⟨h,h,h2⟩
     have HF:=Lib.hid hlf
     clear hst hmt hlf
     by_cases hjm2:j<m
     ·have hx:=ext_word t j m hjm
      generalize hy:(t.data.toList.drop j).take (m-j)=y at*
      have HX:=Lib.hid hx
      clear hx
      have HY:=Lib.hid hy
      clear hy
      have hsy:(⟨(y.take 12).toArray⟩:ByteArray).size<=4611686018427387904:=by rw[size_data];simp;omega
      go_wp2_with(go_at_call 87;refine(letter_t t[m] _).mono ?_;rintro e w1 ⟨rfl,rfl⟩;rw[HF.out])
      all_goals
       rw[HX.out]
       refine(stem_t _ hsy _ (HE.out.gr hg)).mono ?_
       rintro e w2 ⟨rfl,hg2⟩
       have hown2:=ownsRow_gr HO.out hg2
       have hg3:=hg.trans hg2
       clear hg2
       go_wp2_with(at_builtin;refine append_one (a0:=w) rfl _ _ 22 rfl 9 i0 (.string ⟨#[]⟩) 1 16 Tryz.underlying22 hi hz0 hz1 hz2 rfl (by decide) _ us.length (us.map Value.string) rfl hown2 [_] rfl (by simp;rfl) rfl hg3 (by omega) (by omega) ?_;intro v4 w4 hown4 hg4)
      all_goals
       refine⟨⟨m+1,us++[wordY y],by omega,by go_num,by rw[List.length_append];simp;omega,hg4,?_,?_⟩,by simp[intOf];omega⟩
       ·unfold OwnS
        rw[List.length_append,List.map_append]
        exact hown4
       ·rw[<-HS.out,HL.out,if_pos hjm2,List.append_assoc]
     ·obtain rfl:m=j:=by omega
      go_wp2_with(go_at_call 87;refine(letter_t t[m] _).mono ?_;rintro e w1 ⟨rfl,rfl⟩;rw[HF.out])
      exact⟨⟨m+1,us,by omega,by go_num,by omega,hg,HO.out,by rw[<-HS.out,HL.out,if_neg (Nat.lt_irrefl _)];rfl⟩,by simp[intOf];omega⟩
  ·go_wp2_with fail
   go_ret
   refine⟨_,rfl,?_,hg⟩
   have hx:=HS.out
   rw[List.drop_eq_nil_of_le (by rw[<-size_data];omega)]at hx
   have hx':us=ws:=by rw[<-HW.out,<-hx];simp[splitY,runsA]
   rw[<-hx']
   exact HO.out
theorem splitS_eq(s:ByteArray):splitS s=(runsA letterB [] s.data.toList).map (fun x=>wordY (x.map smallC)):=by
 unfold splitS splitY smallS
 have:=runs_map letterB smallC letter_small s.data.toList []
 rw[List.map_nil]at this
 simp only
 rw[this,List.map_map]
 rfl
def StrsAt(w:World)(b off:Nat)(ws:List ByteArray):Prop:=∀i (h:i<ws.length),w.cell? ⟨b,off+i,none⟩=some (.string ws[i])
theorem StrsAt.gr{w w':World}{b off:Nat}{ws:List ByteArray}(h:StrsAt w b off ws)(g:Gr w w'):StrsAt w' b off ws:=fun i hi=>g.keeps (h i hi)
theorem own_open{w:World}{B:Nat}{v:Value}{ws:List ByteArray}(h:OwnS w B v ws):∃(ao:Option Addr) (c b:Nat),v=.slice ao ws.length c/\(0<ws.length->ao=some ⟨b,0,none⟩)/\StrsAt w b 0 ws:=by
 obtain⟨h1,h2⟩:=h
 rcases h2 with⟨rfl,h0⟩|⟨g,cap,cur,rfl,_,hh,hn,_,hcur,ht⟩
 ·exact⟨none,0,0,by rw[h0],fun h=>by omega,fun i hi=>by omega⟩
 ·refine⟨_,_,g,rfl,fun _=>rfl,fun i hi=>?_⟩
  have hc:cur.toList[i]?=some (.string ws[i]):=by
   have e:=congrArg (fun l:List Value=>l[i]?) ht
   simp only[Nat.mul_one]at e
   rw[List.getElem?_take,if_pos hi,List.getElem?_map,List.getElem?_eq_getElem hi]at e
   exact e
  unfold World.cell?
  simp only[hh,Nat.zero_add]
  rw[<-Array.getElem?_toList]
  exact hc
end
section
open Go
theorem smallC_twice(c:UInt8):smallC (smallC c)=smallC c:=by
 have h:∀n:Fin 256,smallC (smallC (UInt8.ofNat n.val))=smallC (UInt8.ofNat n.val):=by decide+kernel
 have:=h ⟨c.toNat,c.toNat_lt⟩
 simpa using this
def fineC(c:UInt8):Bool:=letterB c&&(smallC c==c)
def FineW(l:List UInt8):Prop:=l≠[]/\l.length<=12/\l.all fineC=true
theorem runs_all(p:UInt8->Bool):∀(l cur:List UInt8),cur.all p=true->∀x∈runsA p cur l,x≠[]/\x.all p=true
 |[],cur,h,x,hx=>by
  rw[runsA]at hx
  split at hx
  ·simp at hx
  ·simp only[List.mem_singleton]at hx;subst hx
   exact⟨by rename_i h;simpa using h,h⟩
 |c::l,cur,h,x,hx=>by
  rw[runsA]at hx
  split at hx
  ·rename_i hc
   exact runs_all p l _ (by simp[List.all_append,h,hc]) x hx
  ·split at hx
   ·exact runs_all p l [] rfl x hx
   ·rename_i hn
    rcases List.mem_cons.1 hx with rfl|hx
    ·exact⟨by simpa using hn,h⟩
    ·exact runs_all p l [] rfl x hx
theorem fineW_small(c:UInt8)(h:letterB c=true):fineC (smallC c)=true:=by
 unfold fineC;rw[letter_small,h,smallC_twice];simp
theorem ends_fine:endsT.all (fun e=>e.2.all fineC&&decide (e.2.length<=e.1.length))=true:=by decide+kernel
theorem stemL_fine:∀(E:List (List UInt8×List UInt8)) (l:List UInt8),E.all (fun e=>e.2.all fineC&&decide (e.2.length<=e.1.length))=true->FineW l->FineW (stemL E l)
 |[],l,_,h=>h
 |( e,r)::E,l,hE,h=>by
   simp only[List.all_cons,Bool.and_eq_true,decide_eq_true_eq]at hE
   unfold stemL
   split
   · rename_i hs
     split
     ·exact h
     ·rename_i hl
      refine⟨?_,?_,?_⟩
      ·intro hn
       have:=congrArg List.length hn
       simp only[List.length_append,List.length_take,List.length_nil]at this
       omega
      ·have h1:=(List.isSuffixOf_iff_suffix.1 hs).length_le
       have h2:=h.2.1
       have h3:=hE.1.2
       simp only[List.length_append,List.length_take]
       omega
      ·rw[List.all_append,hE.1.1]
       simp only[Bool.and_true,List.all_eq_true]
       intro c hc
       exact List.all_eq_true.1 h.2.2 c (List.mem_of_mem_take hc)
   · exact stemL_fine E l (by simpa using hE.2) h
theorem splitS_fine(s:ByteArray):∀w∈splitS s,FineW w.data.toList:=by
 intro w hw
 rw[splitS_eq]at hw
 obtain⟨x,hx,rfl⟩:=List.mem_map.1 hw
 obtain⟨h1,h2⟩:=runs_all letterB _ [] rfl x hx
 have e:(wordY (x.map smallC)).data.toList=stemL endsT ((x.map smallC).take 12):=by unfold wordY stemS;simp
 rw[e]
 refine stemL_fine _ _ ends_fine ⟨?_,?_,?_⟩
 ·cases x with
  |nil=>exact absurd rfl h1
  |cons c x=>simp
 ·simp only[List.length_take];omega
 ·rw[List.all_eq_true]
  intro c hc
  obtain⟨d,hd,rfl⟩:=List.mem_map.1 (List.mem_of_mem_take hc)
  exact fineW_small d (List.all_eq_true.1 h2 d hd)
end
section
open Go Go.RowKit
inductive Qy
 |leaf (kind:Int) (ws:List ByteArray) (far:Int)
 |node (kind:Int) (l r:Qy)
def sShut:ByteArray:=⟨#[41]⟩
def sOr:ByteArray:=⟨#[79,82]⟩
def sNone:ByteArray:=⟨#[]⟩
def stopB(s:ByteArray):Prop:=s=sNone\/s=sShut\/s=sOr
instance (s:ByteArray):Decidable (stopB s):=by unfold stopB;infer_instance
