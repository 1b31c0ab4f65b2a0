/-
  Part 24 of the proof.
-/
import Derived.Test.YtldmhjbdahjhdaaGreatDoorZc20
import Derived.Test.YtldmhjbdahjhdaaGreatDoorZc23
import Derived.Test.YtldmhjbdahjhdaaGreatDoorZc14
import Derived.Test.YtldmhjbdahjhdaaGreatDoorZc17
set_option maxRecDepth 100000
set_option maxHeartbeats 100000000
set_option linter.all false
namespace Go.Proofs.YtldmhjbdahjhdaaGreatDoor
section
open Go Go.RowKit
theorem fine_first{xs:List GVal}(h:∀v∈xs,FineV v):firstBad xs=none:=by
 induction xs with
 |nil=>rfl
 |cons v xs ih=>
  unfold firstBad
  rw[(h v List.mem_cons_self).1,if_pos rfl,ih fun u hu=>h u (List.mem_cons_of_mem _ hu)]
  rfl
theorem fine_small{v:GVal}(h:FineV v):(-9223372036854775808<=v.num/\v.num<=9223372036854775807)/\v.text.size<=1000000:=by
 refine⟨h.2,?_⟩
 rcases fine_cases v h with rfl|⟨n,rfl,_⟩|⟨s,rfl,_,h2⟩
 ·show(0:Nat)<=1000000;omega
 ·show(0:Nat)<=1000000;omega
 ·show s.size<=1000000
  rw[size_data]
  omega
theorem key_c(xs:List GVal)(b k:Nat)(W:World)(hc:ValsAt W b 0 xs)(hx:∀v∈xs,FineV v)(hl:xs.length<=10):
  Calls Tryz.prog 63 #[.slice (some ⟨b,0,none⟩) xs.length k] W (Ret W (.tuple #[.string (baL (keyL xs)),.nilIface])):=by
 refine(key_t xs b 0 k (some ⟨b,0,none⟩) (fun _=>rfl) (by omega) (fun i hi=>fine_small (hx _ (List.getElem_mem hi))) W hc).mono ?_
 intro e w' h
 unfold KeyPost at h
 rw[fine_first hx]at h
 exact h
theorem vals_two(W:World)(a b:ByteArray):ValsAt (W.alloc (.cells #[.int .i64 2,.int .i64 0,.string a,.int .i64 2,.int .i64 0,.string b] 132)) W.heap.size 0 [txV a,txV b]:=by
 intro i h
 have h2:i<2:=h
 rcases(show i=0\/i=1 by omega)with rfl|rfl<;>exact⟨by rw[World.cell?_alloc_new];rfl,by rw[World.cell?_alloc_new];rfl,by rw[World.cell?_alloc_new];rfl⟩
theorem vals_three(W:World)(a b:ByteArray)(r:Int):ValsAt (W.alloc (.cells #[.int .i64 2,.int .i64 0,.string a,.int .i64 2,.int .i64 0,.string b,.int .i64 1,.int .i64 r,.string ⟨#[]⟩] 132)) W.heap.size 0 [txV a,txV b,nmV r]:=by
 intro i h
 have h2:i<3:=h
 rcases(show i=0\/i=1\/i=2 by omega)with rfl|rfl|rfl<;>exact⟨by rw[World.cell?_alloc_new];rfl,by rw[World.cell?_alloc_new];rfl,by rw[World.cell?_alloc_new];rfl⟩
theorem vals_one(W:World)(r:Int):ValsAt (W.alloc (.cells #[.int .i64 1,.int .i64 r,.string ⟨#[]⟩] 132)) W.heap.size 0 [nmV r]:=by
 intro i h
 have h2:i<1:=h
 rcases(show i=0 by omega)with rfl
 exact⟨by rw[World.cell?_alloc_new];rfl,by rw[World.cell?_alloc_new];rfl,by rw[World.cell?_alloc_new];rfl⟩
theorem vals_oneT(W:World)(a:ByteArray):ValsAt (W.alloc (.cells #[.int .i64 2,.int .i64 0,.string a] 132)) W.heap.size 0 [txV a]:=by
 intro i h
 have h2:i<1:=h
 rcases(show i=0 by omega)with rfl
 exact⟨by rw[World.cell?_alloc_new];rfl,by rw[World.cell?_alloc_new];rfl,by rw[World.cell?_alloc_new];rfl⟩
theorem fine_in{xs:List GVal}{v:GVal}(h:FineV v)(hs:∀u∈xs,FineV u):∀u∈v::xs,FineV u:=fun u hu=>by
 rcases List.mem_cons.1 hu with e|hu
 ·rw[e];exact h
 ·exact hs u hu
theorem fine_no:∀u∈([]:List GVal),FineV u:=fun u hu=>by cases hu
theorem head_w{n w:ByteArray}(hn:OkW n)(hw:OkW w)(W:World):Calls Tryz.prog 69 #[.string n,.string w] W (Ret W (.string (headW n w))):=by
 have hk:=key_c [txV n,txV w] W.heap.size 2 _ (vals_two W n w) (fine_in hn.fine (fine_in hw.fine fine_no)) (by simp)
 have g:Gr W (W.alloc (.cells #[.int .i64 2,.int .i64 0,.string n,.int .i64 2,.int .i64 0,.string w] 132)):=(Gr.refl W).alloc _
 have HK:=Lib.hid hk
 have HG:=Lib.hid g
 clear hk g hn hw
 go_enter Tryz.func69,Tryz.ntmps69
 go_wp2_with fail
 refine HK.out.mono ?_
 rintro e w1 ⟨rfl,hg1⟩
 have HR:=Lib.hid (HG.out.trans hg1)
 clear hg1
 go_wp2_with fail
 go_ret
 exact Ret.mk rfl HR.out
theorem key_w{n w:ByteArray}(hn:OkW n)(hw:OkW w){r:Int}(hr:1<=r/\r<=1073741824)(W:World):Calls Tryz.prog 90 #[.string n,.string w,.int .i64 r] W (Ret W (.string (keyW n w r))):=by
 have hk:=key_c [txV n,txV w,nmV r] W.heap.size 3 _ (vals_three W n w r) (fine_in hn.fine (fine_in hw.fine (fine_in (fine_num hr) fine_no))) (by simp)
 have g:Gr W (W.alloc (.cells #[.int .i64 2,.int .i64 0,.string n,.int .i64 2,.int .i64 0,.string w,.int .i64 1,.int .i64 r,.string ⟨#[]⟩] 132)):=(Gr.refl W).alloc _
 have HK:=Lib.hid hk
 have HG:=Lib.hid g
 clear hk g hn hw hr
 go_enter Tryz.func90,Tryz.ntmps90
 go_wp2_with fail
 refine HK.out.mono ?_
 rintro e w1 ⟨rfl,hg1⟩
 have HR:=Lib.hid (HG.out.trans hg1)
 clear hg1
 go_wp2_with fail
 go_ret
 exact Ret.mk rfl HR.out
theorem right_w(n:ByteArray)(hn:OkW n)(h1:1<=n.size/\n.size<=16){r:Int}(hr:1<=r/\r<=1073741824)(W:World):Calls Tryz.prog 40 #[.string n,.int .i64 r] W (Ret W .nilIface):=by
 have hne:n.toList.isEmpty=false:=by
  cases h:n.toList.isEmpty with
  |false=>rfl
  |true=>
   rw[List.isEmpty_iff,ByteArray.toList_eq]at h
   have h2:n.size=0:=by rw[size_data,h];rfl
   omega
 have hgt:¬16<(n.size:Int):=by omega
 have hix:¬0<=Lib.indexByte n.data.toList 0:=by
  have h:=indexByte_neg n.data.toList 0
  rw[hn.nz]at h
  have:=of_decide_eq_true h
  omega
 have hr1:¬r<1:=by omega
 have hr2:¬1073741824<r:=by omega
 clear hr h1 hn
 go_enter Tryz.func40,Tryz.ntmps40
 go_wp2_with(go_at_call 72;refine(Tryz.strings_IndexByte _ _ _).mono ?_;rintro e w1 ⟨rfl,rfl⟩)
 go_ret
 exact Ret.mk rfl (Gr.refl _)
def cntB(n:Nat):ByteArray:=baL (keyL [nmV (n:Int)])
theorem cntB_size(n:Nat):(cntB n).size=9:=by
 unfold cntB
 rw[baL_size]
 rfl
theorem fine_cnt{n:Nat}(h:n<=1000000):FineV (nmV (n:Int)):=by
 refine⟨?_,by show(-9223372036854775808:Int)<=(n:Int);omega,by show(n:Int)<=9223372036854775807;omega⟩
 unfold rightB nmV
 simp
section
variable{w:World}{FP TP PB DB M:Nat}{c:Ch}{sv:Head}{t:Int}{d:Dk}
theorem many_w(h:FdW w FP TP PB DB M c sv t d)(hE:ErrTypeAt w)(hM:MaxAt w){X:Tr}(hl:X.lays c d.pg 3){n:Nat}(hn:n<=1000000)(hK:(X.get manyK=none/\n=0)\/X.get manyK=some (cntB n)):
  Calls Tryz.prog 19 #[.pointer (some ⟨FP,0,none⟩)] w (Ret w (.tuple #[.int .i64 (n:Int),.nilIface])):=by
 have hp:=h.p
 have hgt:=get_n h.pg h.t (by omega) manyK hl
 have hEg:=fun(W:World) (g:Gr w W)=>hE.gr g
 have hMg:=fun(W:World) (g:Gr w W)=>hM.gr g
 unfold manyK at hgt hK
 have HEG:=Lib.hid hEg
 have HMG:=Lib.hid hMg
 clear hEg hMg hE hM h hl
 rcases hK with⟨hK,rfl⟩|hK
 ·rw[hK]at hgt
  have HGT:Hid (Calls Tryz.prog 67 #[.pointer (some ⟨TP,0,none⟩),.string ⟨#[1]⟩] w (Ret w (.tuple #[.string noB,.iface 24 (.int .i64 7)]))):=Lib.hid hgt
  clear hgt hK hn
  go_enter Tryz.func19,Tryz.ntmps19
  go_wp2_with fail
  refine HGT.out.mono ?_
  rintro e w1 ⟨rfl,hg1⟩
  have htl:=tell_t (.iface 24 (.int .i64 7)) 7 (-1) w1 (HEG.out _ hg1) (.inr (.inl ⟨rfl,rfl⟩))
  have HG1:=Lib.hid hg1
  clear hg1
  go_wp2_with fail
  refine htl.mono ?_
  rintro e w2 ⟨rfl,hg2⟩
  have HR:=Lib.hid (HG1.out.trans hg2)
  clear hg2 htl
  go_wp2_with fail
  go_ret2
  exact Ret.mk rfl HR.out
 ·rw[hK]at hgt
  have HGT:Hid (Calls Tryz.prog 67 #[.pointer (some ⟨TP,0,none⟩),.string ⟨#[1]⟩] w (Ret w (.tuple #[.string (cntB n),.nilIface]))):=Lib.hid hgt
  clear hgt hK
  go_enter Tryz.func19,Tryz.ntmps19
  go_wp2_with fail
  refine HGT.out.mono ?_
  rintro e w1 ⟨rfl,hg1⟩
  have htl:=tell_t .nilIface 0 (-1) w1 (HEG.out _ hg1) (.inl ⟨rfl,rfl,rfl⟩)
  have HG1:=Lib.hid hg1
  clear hg1
  go_wp2_with fail
  refine htl.mono ?_
  rintro e w2 ⟨rfl,hg2⟩
  have hgr:=HG1.out.trans hg2
  have hrd:=read_t (cntB n) (by rw[cntB_size];omega) w2 (HMG.out _ hgr)
  have HRD:=Lib.hid hrd
  have HG2:=Lib.hid hgr
  clear hg2 htl hrd hgr
  go_wp2_with fail
  refine HRD.out.mono ?_
  intro e w3 hpost
  unfold ReadPost at hpost
  have hrl:readL (cntB n).data.toList=some [nmV (n:Int)]:=read_key [nmV (n:Int)] (fine_in (fine_cnt hn) fine_no)
  rw[hrl]at hpost
  obtain⟨v,rfl,hv,hg3⟩:=hpost
  obtain⟨ao,b,cp,rfl,hao,hvals⟩:=hv.vals
  have hao:=hao (by simp)
  subst hao
  have c1:w3.cell? ⟨b,1,none⟩=some (.int .i64 (n:Int)):=(hvals 0 (by simp)).2.1
  have HR:=Lib.hid (HG2.out.trans hg3)
  clear hv hvals hg3 hrl
  have hl1:([nmV (n:Int)]:List GVal).length=1:=rfl
  rw[hl1]
  clear hl1
  go_wp2_with fail
  go_ret2
  exact Ret.mk rfl HR.out
theorem adds_w(h:FdW w FP TP PB DB M c sv t d)(hE:ErrTypeAt w)(hM:MaxAt w){X:Tr}(hl:X.lays c d.pg 3){n:Nat}(hn:n<=1000000)(hK:(X.get manyK=none/\n=0)\/X.get manyK=some (cntB n)){m:Int}{n2:Nat}(hm:(n:Int)+m=n2)(hn2:n2<=1000000){c':Ch}{X':Tr}(hput:putR c 3 X manyK (cntB n2)=(c',X',0)):
  Calls Tryz.prog 45 #[.pointer (some ⟨FP,0,none⟩),.int .i64 m] w fun e w'=>e=.returned .nilIface/\FdW w' FP TP PB DB M c' sv t d/\PgF PB DB M M w w':=by
 have hmy:=many_w h hE hM hl hn hK
 have HMY:=Lib.hid hmy
 have HH:=Lib.hid (And.intro h (And.intro hl hput))
 have hwr:IntKind.i64.wrap ((n:Int)+m)=(n2:Int):=by
  rw[hm]
  rw[IntKind.wrap_i64]
  omega
 have hp:=h.p
 clear hmy h hE hM hl hK hput
 go_enter Tryz.func45,Tryz.ntmps45
 go_wp2_with fail
 refine HMY.out.mono ?_
 rintro e w1 ⟨rfl,hg1⟩
 have hk:=key_c [nmV (n2:Int)] w1.heap.size 1 _ (vals_one w1 (n2:Int)) (fine_in (fine_cnt hn2) fine_no) (by simp)
 have gA:Gr w1 (w1.alloc (.cells #[.int .i64 1,.int .i64 (n2:Int),.string ⟨#[]⟩] 132)):=(Gr.refl w1).alloc _
 have HK:=Lib.hid hk
 have HG1:=Lib.hid (hg1.trans gA)
 clear hk gA hg1
 go_wp2_with fail
 refine HK.out.mono ?_
 rintro e w2 ⟨rfl,hg2⟩
 have hg3:=HG1.out.trans hg2
 have hp2:=hg3.keeps hp
 have hpn:=put_n (HH.out.1.pg.gr hg3) (HH.out.1.t.gr hg3) HH.out.1.tn (by omega) manyK (cntB n2) HH.out.2.1
 rw[HH.out.2.2]at hpn
 have HPN:Hid (Calls Tryz.prog 89 #[.pointer (some ⟨TP,0,none⟩),.string ⟨#[1]⟩,.string (baL (keyL [nmV (n2:Int)]))] w2 fun e w'=>e=.returned .nilIface/\PgT w' PB DB M c' sv t d/\PgF PB DB M M w2 w'):=Lib.hid hpn
 have HG3:=Lib.hid hg3
 clear hpn hg2 hg3
 go_wp2_with fail
 refine HPN.out.mono ?_
 rintro e w3 ⟨rfl,hp3,hf3⟩
 have HR:Hid (FdW w3 FP TP PB DB M c' sv t d/\PgF PB DB M M w w3):=Lib.hid ⟨(HH.out.1.gr HG3.out).act hp3 hf3,(PgF.of_gr PB DB M HG3.out).trans hf3⟩
 clear hp3 hf3
 go_wp2_with fail
 go_ret
 exact⟨rfl,HR.out⟩
end
theorem OwnP.gr{a0 w w':World}{v:Value}{xs:List GPlace}(h:OwnP a0 w v xs)(g:Gr w w'):OwnP a0 w' v xs:=ownsRow_gr h g
theorem OwnP.back{a0 a1 w:World}{v:Value}{xs:List GPlace}(h:OwnP a1 w v xs)(g:Gr a0 a1):OwnP a0 w v xs:=by
 refine⟨h.row.1,?_⟩
 rcases h.row.2 with h1|⟨g',cap,cur,h1,hb,hh⟩
 ·exact .inl h1
 ·exact .inr ⟨g',cap,cur,h1,Nat.le_trans g.size hb,hh⟩
structure HasW(X:Tr)(n wd:ByteArray)(PS:List (List GPlace)):Prop where
 is:(walkR X (headW n wd)).takeWhile (fun x=>preB (headW n wd) x.1)=PS.map (pcE n wd)
 ok:WsOk PS
 len:(walkR X (headW n wd)).length<=1000000
 few:PS.flatten.length<=100000
theorem placesB_rising{l:List GPlace}(h:∀p∈l,inP p=true)(hr:Rising beforeB l):placesB l=true:=by
 refine placesB_true fun k hk=>?_
 unfold okAt
 have hg:l.getD k (0,0)=l[k]:=by
  rw[List.getD_eq_getElem?_getD,List.getElem?_eq_getElem hk]
  rfl
 rw[hg,h _ (List.getElem_mem hk),Bool.true_and,Bool.or_eq_true]
 cases k with
 |zero=>exact .inl rfl
 |succ k=>
  refine .inr ?_
  have h1:=(List.pairwise_iff_getElem.1 hr) k (k+1) (by omega) hk (by omega)
  show beforeB (l.getD k (0,0)) l[k+1]=true
  rw[List.getD_eq_getElem?_getD,List.getElem?_eq_getElem (by omega)]
  exact h1
theorem flat_len:∀{PS:List (List GPlace)},(∀l∈PS,l≠[])->PS.length<=PS.flatten.length
 |[],_=>Nat.le_refl _
 |l::PS,h=>by
  have ih:=flat_len (PS:=PS) fun m hm=>h m (List.mem_cons_of_mem _ hm)
  have h1:0<l.length:=List.length_pos_iff.2 (h l List.mem_cons_self)
  rw[List.flatten_cons,List.length_append,List.length_cons]
  omega
theorem read_pc{PS:List (List GPlace)}(ok:WsOk PS){l:List GPlace}(hl:l∈PS)(W:World):
  Calls Tryz.prog 70 #[.string (baL (writeP l))] W fun e w'=>∃v,e=.returned (.tuple #[v,.nilIface])/\OwnP W w' v l/\Gr W w':=by
 have hne:=ok.pc.ne l hl
 refine(read_p (baL (writeP l)) (by rw[baL_size];omega) W).mono ?_
 intro e w' h
 unfold PReadPost at h
 rw[baL_data,read_write (placesB_rising (ok.fine l hl) (ok.up l hl))]at h
 exact h
theorem piece_at{w:World}{v:Value}{n wd:ByteArray}{PS:List (List GPlace)}(h:IsQ w v (PS.map (pcE n wd))){i:Nat}(hi:i<PS.length):∃b cp,v=.slice (some ⟨b,0,none⟩) PS.length cp/\b<w.heap.size/\w.cell? ⟨b,i*2,none⟩=some (.string (keyW n wd (rowOf PS[i])))/\w.cell? ⟨b,i*2+1,none⟩=some (.string (baL (writeP PS[i]))):=by
 rcases h with⟨_,h2⟩|⟨B,cap,h1,h2,h3,h4⟩
 ·have:=List.map_eq_nil_iff.1 h2
  rw[this]at hi
  exact absurd hi (by simp)
 ·rw[List.length_map]at h1
  have h5:=h4 i (by rw[List.length_map];exact hi)
  simp only[List.getElem_map]at h5
  exact⟨B,cap,h1,h3,h5.1,h5.2⟩
section
variable{w:World}{FP TP PB DB M:Nat}{c:Ch}{sv:Head}{t:Int}{d:Dk}
theorem pieces_w(h:FdW w FP TP PB DB M c sv t d){X:Tr}(hl:X.lays c d.pg 3){n wd:ByteArray}{PS:List (List GPlace)}(hw:HasW X n wd PS){W:World}(g:Gr w W):
  Calls Tryz.prog 64 #[.pointer (some ⟨TP,0,none⟩),.string (headW n wd)] W fun e w'=>∃v,e=.returned (.tuple #[v,.nilIface])/\IsQ w' v (PS.map (pcE n wd))/\Gr W w':=by
 have:=prefix_n (h.pg.gr g) (h.t.gr g) (by omega) (headW n wd) hl hw.len
 rw[hw.is]at this
 exact this
theorem places_w(h:FdW w FP TP PB DB M c sv t d){X:Tr}(hl:X.lays c d.pg 3){n wd:ByteArray}(hn:OkW n)(hwd:OkW wd){PS:List (List GPlace)}(hw:HasW X n wd PS):
  Calls Tryz.prog 21 #[.pointer (some ⟨FP,0,none⟩),.string n,.string wd] w fun e w'=>∃v,e=.returned (.tuple #[v,.nilIface])/\OwnP w w' v PS.flatten/\Gr w w':=by
 have hp:=h.p
 have hpx:=fun(W:World) (g:Gr w W)=>pieces_w h hl hw g
 have hhd:=fun(W:World)=>head_w hn hwd W
 have HPX:=Lib.hid hpx
 have HHD:=Lib.hid hhd
 have HW:=Lib.hid hw
 clear hpx hhd hw h hl hn hwd
 go_enter Tryz.func21,Tryz.ntmps21
 go_wp2_with fail
 go_region_held3(fun w'=>w'.cell? ⟨FP,0,none⟩=some (.pointer (some ⟨TP,0,none⟩))/\Gr w w') (first|exact⟨hp,Gr.refl _⟩|exact⟨hp,(Gr.refl _).drew⟩|exact⟨hgB.keeps hp,hgB⟩|exact⟨hgA.keeps hp,hgA⟩) (first|(go_at_call 69;refine(HHD.out _).mono ?_;rintro e w1 ⟨rfl,hg1⟩;have hgA:=((Gr.refl w).drew).trans hg1)|(go_at_call 64;refine(HPX.out _ (by assumption)).mono ?_;rintro e w2 ⟨v,rfl,hq,hg2⟩;have hgB:=hgA.trans hg2))
 have HQ:=Lib.hid hq
 have HG:=Lib.hid hgB
 clear hgA hg1 hg2 hgB hq
 obtain⟨av,cv,hfv⟩:=HQ.out.form
 rw[List.length_map]at hfv
 subst hfv
 go_wp2_with fail
 go_loopw [10,31] (fun ov iv w'=>∃i:Nat,i<=PS.length/\iv=.int .i64 i/\OwnP w2 w' ov (PS.take i).flatten/\Gr w2 w') (fun _ iv _=>PS.length-(intOf iv).toNat)
 case atStart=>exact⟨0,Nat.zero_le _,rfl,World.ownsRow_nil _ _ _ _,Gr.refl _⟩
 case round=>
  obtain⟨i,hi,rfl,ho,hg⟩:=hrel
  have HO:=Lib.hid ho
  have HGr:=Lib.hid hg
  by_cases hlt:i<PS.length
  ·obtain⟨b,cp,e1,hb,k0,k1⟩:=piece_at HQ.out hlt
   cases e1
   replace k0:=hg.keeps k0
   replace k1:=hg.keeps k1
   have hil:(i:Int)<(PS.length:Int):=by omega
   clear ho hg
   go_wp2_with fail
   have gA:Gr wr (wr.alloc (.cells #[.string (keyW n wd (rowOf PS[i])),.string (baL (writeP PS[i]))] 140)):=(Gr.refl wr).alloc _
   refine(read_pc HW.out.ok (List.getElem_mem hlt) _).mono ?_
   rintro e w4 ⟨v4,rfl,ho4,hg4⟩
   have hg5:=gA.trans hg4
   have hI4:=ho4.own.isP
   have HO4:Hid (OwnP w2 w4 u10 (PS.take i).flatten/\IsP w4 v4 PS[i]/\Gr w2 w4/\(PS.take i).flatten.length+PS[i].length<=1000000):=Lib.hid ⟨HO.out.gr hg5,hI4,HGr.out.trans hg5,by
    have h1:=HW.out.few
    have h2:(PS.take (i+1)).flatten.length=(PS.take i).flatten.length+PS[i].length:=by
     rw[List.take_succ_eq_append_getElem hlt,List.flatten_append,List.length_append]
     simp
    have h3:(PS.take (i+1)).flatten.length<=PS.flatten.length:=by
     have:PS.flatten=(PS.take (i+1)).flatten++(PS.drop (i+1)).flatten:=by rw[<-List.flatten_append,List.take_append_drop]
     rw[this,List.length_append]
     omega
    omega⟩
   obtain⟨a4,c4,hf4⟩:=hI4.form
   clear gA ho4 hg4 hg5 hI4 k0 k1
   subst hf4
   go_wp2_with(at_builtin;refine append_places (a0:=w2) rfl _ _ rfl _ (PS.take i).flatten rfl HO4.out.1 _ PS[i] rfl HO4.out.2.1 HO4.out.2.2.2 HO4.out.2.2.1 ?_;intro v6 w6 ho6 hg6)
   have e:wrap64 ((i:Int)+1)=((i+1:Nat):Int):=by
    have:=HW.out.few
    have h5:PS.length<=PS.flatten.length:=flat_len fun l hl=>(HW.out.ok.pc.ne l hl).1
    unfold wrap64
    omega
   rw[e]
   refine⟨⟨i+1,hlt,rfl,?_,hg6⟩,?_⟩
   ·rw[List.take_succ_eq_append_getElem hlt,List.flatten_append]
    simpa using ho6
   ·show PS.length-(((i+1:Nat):Int)).toNat<PS.length-((i:Int)).toNat
    omega
  ·have hil:¬(i:Int)<(PS.length:Int):=by omega
   have hie:PS.take i=PS:=List.take_of_length_le (by omega)
   have HR:Hid (OwnP w wr u10 PS.flatten/\Gr w wr):=Lib.hid ⟨by rw[hie]at ho;exact ho.back HG.out,HG.out.trans hg⟩
   clear ho hg hie
   go_wp2_with fail
   go_ret2
   exact⟨_,rfl,HR.out⟩
end
theorem tw_mem{α:Type}{p:α->Bool}:∀{l:List α} {x:α},x∈l.takeWhile p->p x=true
 |[],_,h=>by cases h
 |a::l,x,h=>by
  rw[List.takeWhile_cons]at h
  cases hp:p a with
  |true=>
   rw[hp]at h
   simp only[if_true]at h
   rcases List.mem_cons.1 h with e|h
   ·rw[e];exact hp
   ·exact tw_mem h
  |false=>
   rw[hp]at h
   simp at h
def cntR(PS:List (List GPlace))(row:Int):Nat:=(PS.takeWhile fun l=>decide (rowOf l<=row)).length
theorem cntR_le(PS:List (List GPlace))(row:Int):cntR PS row<=PS.length:=(List.takeWhile_sublist _).length_le
theorem cntR_low{PS:List (List GPlace)}{row:Int}:∀l∈PS.take (cntR PS row),rowOf l<=row:=by
 intro l hl
 have h:PS.take (cntR PS row)=PS.takeWhile fun l=>decide (rowOf l<=row):=(List.prefix_iff_eq_take.1 (List.takeWhile_prefix _)).symm
 rw[h]at hl
 have:=tw_mem hl
 simpa using this
theorem cntR_high{PS:List (List GPlace)}(ok:WsOk PS){row:Int}:∀l∈PS.drop (cntR PS row),row<rowOf l:=by
 have hp:PS.Pairwise fun a b=>rowOf a<rowOf b:=ok.pc.apart.imp_of_mem fun{a b} ha hb h=>rows_lt (ok.pc.ne a ha).1 (ok.pc.ne b hb).1 h
 clear ok
 unfold cntR
 induction PS with
 |nil=>intro l hl;simp at hl
 |cons a PS ih=>
  obtain⟨h1,h2⟩:=List.pairwise_cons.1 hp
  intro l hl
  rw[List.takeWhile_cons]at hl
  cases hx:decide (rowOf a<=row)with
  |true=>
   rw[hx]at hl
   simp only[if_true,List.length_cons,List.drop_succ_cons]at hl
   exact ih h2 l hl
  |false=>
   rw[hx]at hl
   simp only[Bool.false_eq_true,if_false,List.length_nil,List.drop_zero]at hl
   have h3:¬rowOf a<=row:=of_decide_eq_false hx
   rcases List.mem_cons.1 hl with e|hl
   ·rw[e];omega
   ·have:=h1 l hl
    omega
theorem atRow_none{PS:List (List GPlace)}(ok:WsOk PS){row:Int}(h:cntR PS row=0):AtRow PS [] [] PS row:=
 ⟨rfl,by simp,fun _=>rfl,(fun l hl=>by cases hl),fun l hl=>cntR_high ok l (by rw[h];exact hl)⟩
theorem atRow_some{PS:List (List GPlace)}(ok:WsOk PS){row:Int}{k:Nat}(h:cntR PS row=k+1)(hk:k<PS.length):AtRow PS (PS.take k) [PS[k]] (PS.drop (k+1)) row:=by
 refine⟨?_,by simp,(fun h=>by cases h),fun l hl=>?_,fun l hl=>cntR_high ok l (by rw[h];exact hl)⟩
 ·have h1:=List.take_append_drop k PS
  rw[List.drop_eq_getElem_cons hk]at h1
  exact h1.symm
 ·rw[List.mem_singleton.1 hl]
  refine cntR_low (PS:=PS) _ ?_
  rw[h,List.take_succ_eq_append_getElem hk]
  exact List.mem_append_right _ (List.mem_singleton.2 rfl)
theorem gtr_is(x s:ByteArray):(!Op.bytesLess x.toList s.toList&&!(x.toList==s.toList))=decide (ltB s x):=by
 rw[ByteArray.toList_eq,ByteArray.toList_eq]
 have h1:=cmpB_less x.data.toList s.data.toList
 have h2:=cmpB_zero x.data.toList s.data.toList
 have h3:ltB s x↔Lib.compareBytes x.data.toList s.data.toList=1:=by
  rw[ltB_iff,cmpB_swap x s]
  unfold cmpB
  omega
 rcases cmpB_range x.data.toList s.data.toList with h|h|h
 ·rw[h1.2 h,decide_eq_false (fun h4=>by rw[h3,h]at h4;cases h4)]
  rfl
 ·rw[h2.1 h]
  rw[decide_eq_false (fun h4=>by rw[h3,h]at h4;cases h4)]
  simp
 ·have h4:Op.bytesLess x.data.toList s.data.toList=false:=by
   cases hb:Op.bytesLess x.data.toList s.data.toList with
   |false=>rfl
   |true=>rw[h1.1 hb]at h;cases h
  have h5:(x.data.toList==s.data.toList)=false:=by
   cases hb:(x.data.toList==s.data.toList)with
   |false=>rfl
   |true=>
    rw[h2.2 (by simpa using hb)]at h
    cases h
  rw[h4,h5,decide_eq_true (h3.2 h)]
  rfl
theorem piece1_n(W:World)(B:Nat)(s:ByteArray)(x:GPair)(h:W.cell? ⟨B,0,none⟩=some (.string s)):
  Calls Tryz.prog 92 #[.agg #[.string x.1,.string x.2],.pointer (some ⟨B,0,none⟩)] W (Ret W (.bool (decide (ltB s x.1)))):=by
 obtain⟨x1,x2⟩:=x
 have g1:Gr W (W.alloc (.cells #[.string x1,.string x2] 140)):=(Gr.refl W).alloc _
 have c0:(W.alloc (.cells #[.string x1,.string x2] 140)).cell? ⟨W.heap.size,0,none⟩=some (.string x1):=by rw[World.cell?_alloc_new];rfl
 have c1:=g1.keeps h
 go_enter Tryz.func92,Tryz.ntmps92
 go_wp2_with fail
 go_ret
 exact Ret.mk (congrArg Value.bool (gtr_is x1 s)) g1
section
variable{w:World}{FP TP PB DB M:Nat}{c:Ch}{sv:Head}{t:Int}{d:Dk}
def pieceK(n wd:ByteArray)(PS:List (List GPlace))(row:Int):ByteArray×List GPlace:=match cntR PS row with
 |0=>(⟨#[]⟩,[])
 |k+1=>match PS[k]? with
  |some l=>((pcE n wd l).1,l)
  |none=>(⟨#[]⟩,[])
theorem tw_map{α β:Type}(f:α->β)(p:β->Bool):∀l:List α,(l.map f).takeWhile p=(l.takeWhile fun x=>p (f x)).map f
 |[]=>rfl
 |a::l=>by
  rw[List.map_cons,List.takeWhile_cons,List.takeWhile_cons,tw_map f p l]
  cases p (f a)<;>rfl
theorem tw_congr{α:Type}{p q:α->Bool}:∀{l:List α},(∀x∈l,p x=q x)->l.takeWhile p=l.takeWhile q
 |[],_=>rfl
 |a::l,h=>by
  rw[List.takeWhile_cons,List.takeWhile_cons,h a List.mem_cons_self,tw_congr fun x hx=>h x (List.mem_cons_of_mem _ hx)]
theorem piece_w(h:FdW w FP TP PB DB M c sv t d){X:Tr}(hl:X.lays c d.pg 3){n wd:ByteArray}(hn:OkW n)(hwd:OkW wd){PS:List (List GPlace)}(hw:HasW X n wd PS){row:Int}(hr:1<=row/\row<=1073741824):
  Calls Tryz.prog 46 #[.pointer (some ⟨FP,0,none⟩),.string n,.string wd,.int .i64 row] w fun e w'=>∃v,e=.returned (.tuple #[.string (pieceK n wd PS row).1,v,.nilIface])/\OwnP w w' v (pieceK n wd PS row).2/\Gr w w':=by
 have hp:=h.p
 have hpx:=fun(W:World) (g:Gr w W)=>pieces_w h hl hw g
 have hhd:=fun(W:World)=>head_w hn hwd W
 have hky:=fun(W:World)=>key_w hn hwd hr W
 have hcs:=idxq_cases (fun x=>decide (ltB (keyW n wd row) x.1)) (PS.map (pcE n wd)) 0
 have htw:((PS.map (pcE n wd)).takeWhile fun x=>!decide (ltB (keyW n wd row) x.1))=(PS.take (cntR PS row)).map (pcE n wd):=by
  rw[tw_map]
  have e:PS.take (cntR PS row)=PS.takeWhile fun l=>decide (rowOf l<=row):=(List.prefix_iff_eq_take.1 (List.takeWhile_prefix _)).symm
  rw[e]
  congr 1
  refine tw_congr fun l hl2=>?_
  have h1:=keyW_lt (n:=n) hn hwd hr (hw.ok.row hl2)
  show(!decide (ltB (keyW n wd row) (keyW n wd (rowOf l))))=_
  by_cases h2:row<rowOf l
  ·rw[decide_eq_true (h1.2 h2),decide_eq_false (by omega)]
   rfl
  ·rw[decide_eq_false (fun h3=>h2 (h1.1 h3)),decide_eq_true (by omega)]
   rfl
 rw[htw]at hcs
 have hcs:(Lib.idxBy (fun _ y=>decide (ltB (keyW n wd row) y.1)) (PS.map (pcE n wd)) default=-1/\cntR PS row=PS.length)\/Lib.idxBy (fun _ y=>decide (ltB (keyW n wd row) y.1)) (PS.map (pcE n wd)) default=(cntR PS row:Int):=by
  rcases hcs with⟨h1,h2⟩|⟨k,h0,h1,h2⟩
  ·refine .inl ⟨h1,?_⟩
   have:=congrArg List.length h2
   rw[List.length_map,List.length_map,List.length_take]at this
   have:=cntR_le PS row
   omega
  ·refine .inr ?_
   have h3:=congrArg List.length h2
   rw[List.length_map,List.length_take,List.length_take,List.length_map]at h3
   rw[List.length_map]at h0
   have h4:=cntR_le PS row
   have h5:Lib.idxBy (fun _ y=>decide (ltB (keyW n wd row) y.1)) (PS.map (pcE n wd)) default=((0+k:Nat):Int):=h1
   rw[h5]
   congr 1
   omega
 obtain⟨ix,hix⟩:∃ix,Lib.idxBy (fun _ (y:GPair)=>decide (ltB (keyW n wd row) y.1)) (PS.map (pcE n wd)) default=ix:=⟨_,rfl⟩
 rw[hix]at hcs
 have hlenS:PS.length<=1000000:=by
  have h1:=hw.len
  have h2:=congrArg List.length hw.is
  rw[List.length_map]at h2
  have h3:=(List.takeWhile_sublist (fun x=>preB (headW n wd) x.1) (l:=walkR X (headW n wd))).length_le
  omega
 have HPX:=Lib.hid hpx
 have HHD:=Lib.hid hhd
 have HKY:=Lib.hid hky
 have HCS:=Lib.hid hcs
 have HW:=Lib.hid hw
 have HIX0:=Lib.hid hix
 have HLS:=Lib.hid hlenS
 clear hpx hhd hky hw h hl hn hwd hcs htw hix hlenS hr
 go_enter Tryz.func46,Tryz.ntmps46
 go_wp2_with fail
 go_region_held3(fun w'=>w'.cell? ⟨FP,0,none⟩=some (.pointer (some ⟨TP,0,none⟩))/\Gr w w') (first|exact⟨hp,Gr.refl _⟩|exact⟨hp,(Gr.refl _).drew⟩|exact⟨hgB.keeps hp,hgB⟩|exact⟨hgA.keeps hp,hgA⟩) (first|(go_at_call 69;refine(HHD.out _).mono ?_;rintro e w1 ⟨rfl,hg1⟩;have hgA:=((Gr.refl w).drew).trans hg1)|(go_at_call 64;refine(HPX.out _ (by assumption)).mono ?_;rintro e w2 ⟨v,rfl,hq,hg2⟩;have hgB:=hgA.trans hg2))
 have HQ:=Lib.hid hq
 have HG:=Lib.hid hgB
 clear hgA hg1 hg2 hgB hq hp
 obtain⟨av,cv,hfv⟩:=HQ.out.form
 rw[List.length_map]at hfv
 subst hfv
 go_wp2_with fail
 refine(HKY.out _).mono ?_
 rintro e w3 ⟨rfl,hg3⟩
 have HG3:=Lib.hid hg3
 clear hg3
 go_wp2_with fail
 have gB:Gr w3 (w3.alloc (.cells #[.string (keyW n wd row)] 9)):=(Gr.refl w3).alloc _
 have b0:=box_newT w3 (.string (keyW n wd row)) 9
 obtain⟨W4,hW4⟩:∃W4,w3.alloc (.cells #[.string (keyW n wd row)] 9)=W4:=⟨_,rfl⟩
 rw[hW4]at gB b0⊢
 clear hW4
 have hix:=index_q (PS.map (pcE n wd)) (.slice av PS.length cv) 92 #[.pointer (some ⟨w3.heap.size,0,none⟩)] (fun x=>decide (ltB (keyW n wd row) x.1)) W4 (HQ.out.gr (HG3.out.trans gB)) (by rw[List.length_map];exact HLS.out) (enters_of Tryz.func92 (by kernel_rfl) rfl) (fun W x g=>piece1_n W _ _ x (g.keeps b0))
 rw[HIX0.out]at hix
 have HG4:=Lib.hid (HG3.out.trans gB)
 clear gB b0
 refine hix.mono ?_
 rintro e w5 ⟨rfl,hg5⟩
 have HG35:=Lib.hid (HG4.out.trans hg5)
 have HG5:=Lib.hid (HG.out.trans (HG4.out.trans hg5))
 clear hg5 hix hcs
 rcases HCS.out with⟨h1,h2⟩|h1
 ·subst h1
  cases h0:cntR PS row with
  |zero=>
   rw[h0]at h2
   have h2i:((PS.length:Nat):Int)=0:=by omega
   have hR:pieceK n wd PS row=(⟨#[]⟩,[]):=by
    unfold pieceK
    rw[h0]
   have HR:Hid (⟨#[]⟩=(pieceK n wd PS row).1/\OwnP w w5 (.slice none 0 0) (pieceK n wd PS row).2/\Gr w w5):=Lib.hid ⟨by rw[hR],by rw[hR];exact World.ownsRow_nil _ _ _ _,HG5.out⟩
   clear hR
   go_wp2_with fail
   go_ret3
   refine⟨.slice none 0 0,?_,HR.out.2⟩
   rw[<-HR.out.1]
   rfl
  |succ k=>
   rw[h0]at h2
   have h2i:((PS.length:Nat):Int)=((k+1:Nat):Int):=by omega
   have hk:k<PS.length:=by have:=cntR_le PS row;omega
   have hR:pieceK n wd PS row=((pcE n wd PS[k]).1,PS[k]):=by
    unfold pieceK
    rw[h0]
    simp only[List.getElem?_eq_getElem hk]
   obtain⟨b,cp,e1,hb,k0,k1⟩:=piece_at (HQ.out.gr HG35.out) hk
   cases e1
   have hrd:=read_pc HW.out.ok (List.getElem_mem hk) w5
   have HRD:=Lib.hid hrd
   have HRP:=Lib.hid hR
   have hw1:IntKind.i64.wrap (((k+1:Nat):Int)-1)=(k:Int):=by rw[IntKind.wrap_i64];have:=HLS.out;omega
   have hw2:wrap64 (k:Int)=(k:Int):=by unfold wrap64;have:=HLS.out;omega
   have hil:(k:Int)<(PS.length:Int):=by omega
   have hne:¬((k+1:Nat):Int)=0:=by omega
   have hk0:¬((k+1:Nat):Int)<0:=by omega
   have K0:=Lib.hid k0
   clear hrd hR k0
   go_wp2_with fail
   refine HRD.out.mono ?_
   rintro e w6 ⟨v6,rfl,ho6,hg6⟩
   have k0:=hg6.keeps K0.out
   have HR:Hid ((pcE n wd PS[k]).1=(pieceK n wd PS row).1/\OwnP w w6 v6 (pieceK n wd PS row).2/\Gr w w6):=Lib.hid ⟨by rw[HRP.out],by rw[HRP.out];exact ho6.back HG5.out,HG5.out.trans hg6⟩
   obtain⟨a6,c6,hf6⟩:=ho6.own.form
   clear ho6 hg6
   subst hf6
   go_wp2_with fail
   go_ret3
   refine⟨_,?_,HR.out.2⟩
   rw[<-HR.out.1]
   rfl
 ·cases h0:cntR PS row with
  |zero=>
   rw[h0]at h1
   subst h1
   have hR:pieceK n wd PS row=(⟨#[]⟩,[]):=by
    unfold pieceK
    rw[h0]
   have HR:Hid (⟨#[]⟩=(pieceK n wd PS row).1/\OwnP w w5 (.slice none 0 0) (pieceK n wd PS row).2/\Gr w w5):=Lib.hid ⟨by rw[hR],by rw[hR];exact World.ownsRow_nil _ _ _ _,HG5.out⟩
   clear hR
   go_wp2_with fail
   go_ret3
   refine⟨.slice none 0 0,?_,HR.out.2⟩
   rw[<-HR.out.1]
   rfl
  |succ k=>
   rw[h0]at h1
   subst h1
   have hk:k<PS.length:=by have:=cntR_le PS row;omega
   have hR:pieceK n wd PS row=((pcE n wd PS[k]).1,PS[k]):=by
    unfold pieceK
    rw[h0]
    simp only[List.getElem?_eq_getElem hk]
   obtain⟨b,cp,e1,hb,k0,k1⟩:=piece_at (HQ.out.gr HG35.out) hk
   cases e1
   have hrd:=read_pc HW.out.ok (List.getElem_mem hk) w5
   have HRD:=Lib.hid hrd
   have HRP:=Lib.hid hR
   have hw1:IntKind.i64.wrap (((k+1:Nat):Int)-1)=(k:Int):=by rw[IntKind.wrap_i64];have:=HLS.out;omega
   have hw2:wrap64 (k:Int)=(k:Int):=by unfold wrap64;have:=HLS.out;omega
   have hil:(k:Int)<(PS.length:Int):=by omega
   have hne:¬((k+1:Nat):Int)=0:=by omega
   have hk0:¬((k+1:Nat):Int)<0:=by omega
   have K0:=Lib.hid k0
   clear hrd hR k0
   go_wp2_with fail
   refine HRD.out.mono ?_
   rintro e w6 ⟨v6,rfl,ho6,hg6⟩
   have k0:=hg6.keeps K0.out
   have HR:Hid ((pcE n wd PS[k]).1=(pieceK n wd PS row).1/\OwnP w w6 v6 (pieceK n wd PS row).2/\Gr w w6):=Lib.hid ⟨by rw[HRP.out],by rw[HRP.out];exact ho6.back HG5.out,HG5.out.trans hg6⟩
   obtain⟨a6,c6,hf6⟩:=ho6.own.form
   clear ho6 hg6
   subst hf6
   go_wp2_with fail
   go_ret3
   refine⟨_,?_,HR.out.2⟩
   rw[<-HR.out.1]
   rfl
end
end
section
open Go Go.RowKit Go.Shelf Go.Lib Go.Sort
def slLen:Value->Nat| .slice _ n _=>n|_=>0
def RemP(PB DB M:Nat)(w:World)(v:Value)(xs:List GPlace):Prop:=(v=.slice none 0 0/\xs=[])\/∃b off c,v=.slice (some ⟨b,off,none⟩) xs.length c/\xs.length<=c/\b<w.heap.size/\(b≠PB/\b≠DB/\b≠M)/\PlacesAt w b off xs
theorem RemP.gr{PB DB M:Nat}{w w':World}{v:Value}{xs:List GPlace}(h:RemP PB DB M w v xs)(g:Gr w w'):RemP PB DB M w' v xs:=by
 rcases h with h|⟨b,off,c,h1,h2,h3,h4,h5⟩
 ·exact .inl h
 ·exact .inr ⟨b,off,c,h1,h2,Nat.lt_of_lt_of_le h3 g.size,h4,h5.gr g⟩
theorem RemP.pg{PB DB M:Nat}{w w':World}{v:Value}{xs:List GPlace}(h:RemP PB DB M w v xs)(g:PgF PB DB M M w w'):RemP PB DB M w' v xs:=by
 rcases h with h|⟨b,off,c,h1,h2,h3,h4,h5⟩
 ·exact .inl h
 ·exact .inr ⟨b,off,c,h1,h2,Nat.lt_of_lt_of_le h3 g.size,h4,fun i hi=>⟨g.keeps h4.1 h4.2.1 h4.2.2 (h5 i hi).1,g.keeps h4.1 h4.2.1 h4.2.2 (h5 i hi).2⟩⟩
theorem RemP.isP{PB DB M:Nat}{w:World}{v:Value}{xs:List GPlace}(h:RemP PB DB M w v xs):IsP w v xs:=by
 rcases h with h|⟨b,off,c,h1,h2,h3,h4,h5⟩
 ·exact .inl h
 ·exact .inr ⟨b,off,c,h1,h3,h5⟩
theorem places_take{w:World}{b off:Nat}{xs:List GPlace}(h:PlacesAt w b off xs)(n:Nat):PlacesAt w b off (xs.take n):=fun i hi=>by
 rw[List.length_take]at hi
 rw[List.getElem_take]
 exact h i (by omega)
theorem places_drop{w:World}{b off:Nat}{xs:List GPlace}(h:PlacesAt w b off xs)(n:Nat):PlacesAt w b (off+n*2) (xs.drop n):=fun i hi=>by
 rw[List.length_drop]at hi
 rw[List.getElem_drop]
 have h1:=h (n+i) (by omega)
 rw[show off+n*2+i*2=off+(n+i)*2 by omega]
 exact h1
theorem idx_first(c:Int):∀(xs:List GPlace) (i:Nat),(∃p∈xs,p.1=c)->Lib.idxByFrom (fun _ (y:GPlace)=>y.1==c) default xs i=((i+firstAt xs c:Nat):Int)
 |[],_,h=>by
  obtain⟨p,hp,_⟩:=h
  cases hp
 |x::xs,i,h=>by
  unfold firstAt
  rw[List.findIdx_cons]
  cases hx:(x.1==c)with
  |true=>simp[Lib.idxByFrom,hx]
  |false=>
   simp only[Lib.idxByFrom,hx,cond_false]
   have h2:∃p∈xs,p.1=c:=by
    obtain⟨p,hp,e⟩:=h
    rcases List.mem_cons.1 hp with e2|hp
    ·rw[e2]at e
     simp[e]at hx
    ·exact⟨p,hp,e⟩
   have ih:=idx_first c xs (i+1) h2
   unfold firstAt at ih
   simp only[Bool.false_eq_true,if_false]
   rw[ih]
   congr 1
   omega
theorem save1_n(W:World)(B:Nat)(k:Int)(x:GPlace)(h:W.cell? ⟨B,0,none⟩=some (.int .i64 k)):
  Calls Tryz.prog 95 #[x.val,.pointer (some ⟨B,0,none⟩)] W (Ret W (.bool (x.1==k))):=by
 obtain⟨x1,x2⟩:=x
 unfold GPlace.val
 have g1:Gr W (W.alloc (.cells #[.int .i64 x1,.int .i64 x2] 104)):=(Gr.refl W).alloc _
 have c0:(W.alloc (.cells #[.int .i64 x1,.int .i64 x2] 104)).cell? ⟨W.heap.size,0,none⟩=some (.int .i64 x1):=by rw[World.cell?_alloc_new];rfl
 have c1:=g1.keeps h
 go_enter Tryz.func95,Tryz.ntmps95
 go_wp2_with fail
 go_ret
 exact Ret.mk rfl g1
def CutAt(l:List GPlace)(n:Nat):Prop:=0<n/\n<=l.length/\Whole l n/\∃f,n<=f/\cutNP l f n=cutP l
theorem cutAt_start{l:List GPlace}(h0:l≠[]):CutAt l l.length:=⟨List.length_pos_iff.2 h0,Nat.le_refl _,fun p _ q hq=>by simp at hq,l.length,Nat.le_refl _,rfl⟩
theorem cutAt_end{l:List GPlace}{n:Nat}(h:CutAt l n)(hs:(writeP (l.take n)).length<=100):n=cutP l:=by
 obtain⟨h1,_,_,f,h2,h3⟩:=h
 cases f with
 |zero=>omega
 |succ f=>
  rw[<-h3]
  unfold cutNP
  rw[if_pos hs]
theorem cutAt_next{l:List GPlace}(hc:CutOk l){n:Nat}(h:CutAt l n)(hs:¬(writeP (l.take n)).length<=100):CutAt l (firstAt l (midRow (l.take n)))/\firstAt l (midRow (l.take n))<n:=by
 obtain⟨h1,h2,h3,f,h4,h5⟩:=h
 obtain⟨m1,m2⟩:=mid_row hc h2 hs
 cases f with
 |zero=>omega
 |succ f=>
  refine⟨⟨m1,by omega,firstAt_whole hc.rows _,f,by omega,?_⟩,m2⟩
  rw[<-h5]
  conv=>rhs;unfold cutNP
  rw[if_neg hs]
theorem mid_in{l:List GPlace}{n:Nat}(hn:0<n)(hl:n<=l.length):(setOf lessI ((l.take n).map (·.1)))[(setOf lessI ((l.take n).map (·.1))).length/2]?=some (midRow (l.take n))/\(setOf lessI ((l.take n).map (·.1))).length/2<(setOf lessI ((l.take n).map (·.1))).length/\∃p∈l,p.1=midRow (l.take n):=by
 have h0:setOf lessI ((l.take n).map (·.1))≠[]:=by
  intro e
  cases ht:l.take n with
  |nil=>
   have h:=congrArg List.length ht
   rw[List.length_take,List.length_nil]at h
   omega
  |cons p r=>
   have:=(setOf_mem lessI ((l.take n).map (·.1)) p.1).2 (by rw[ht];simp)
   rw[e]at this
   cases this
 have hpos:=List.length_pos_iff.2 h0
 have hk:(setOf lessI ((l.take n).map (·.1))).length/2<(setOf lessI ((l.take n).map (·.1))).length:=by omega
 have e:(setOf lessI ((l.take n).map (·.1)))[(setOf lessI ((l.take n).map (·.1))).length/2]=midRow (l.take n):=by
  unfold midRow
  rw[List.getD_eq_getElem?_getD,List.getElem?_eq_getElem hk]
  rfl
 refine⟨by rw[List.getElem?_eq_getElem hk,e],hk,?_⟩
 have hm:midRow (l.take n)∈setOf lessI ((l.take n).map (·.1)):=by rw[<-e];exact List.getElem_mem _
 obtain⟨p,hp,hpe⟩:=List.mem_map.1 ((setOf_mem lessI _ _).1 hm)
 exact⟨p,List.mem_of_mem_take hp,hpe⟩
end
section
open Go Go.RowKit
def PutsOk(pg:Nat->ByteArray)(n wd:ByteArray)(Q:Ch->Tr->Prop):List (List GPlace)->Ch->Tr->Prop
 |[],c,X=>Q c X
 |l::todo,c,X=>X.lays c pg 3/\∃c' X',putR c 3 X (pcE n wd l).1 (pcE n wd l).2=(c',X',0)/\PutsOk pg n wd Q todo c' X'
theorem PutsOk.mono{pg:Nat->ByteArray}{n wd:ByteArray}{Q Q':Ch->Tr->Prop}(hQ:∀c X,Q c X->Q' c X):∀{todo:List (List GPlace)} {c:Ch} {X:Tr},PutsOk pg n wd Q todo c X->PutsOk pg n wd Q' todo c X
 |[],_,_,h=>hQ _ _ h
 |_::_,_,_,⟨h1,c',X',h2,h3⟩=>⟨h1,c',X',h2,h3.mono hQ⟩
structure SaveOk(pg:Nat->ByteArray)(n wd old:ByteArray)(l:List GPlace)(Q:Ch->Tr->Prop)(c:Ch)(X:Tr):Prop where
 cut:CutOk l
 inr:∀p∈l,inP p=true
 len:l.length<=100000
 op:(old=⟨#[]⟩/\PutsOk pg n wd Q (pcs l) c X)\/(old≠⟨#[]⟩/\∃c1 X1,dropR c 3 X old=(c1,X1,0)/\PutsOk pg n wd Q (pcs l) c1 X1)
theorem SaveOk.mono{pg:Nat->ByteArray}{n wd old:ByteArray}{l:List GPlace}{Q Q':Ch->Tr->Prop}(hQ:∀c X,Q c X->Q' c X){c:Ch}{X:Tr}(h:SaveOk pg n wd old l Q c X):SaveOk pg n wd old l Q' c X:=by
 refine⟨h.cut,h.inr,h.len,?_⟩
 rcases h.op with⟨h1,h2⟩|⟨h1,c1,X1,h2,h3⟩
 ·exact .inl ⟨h1,h2.mono hQ⟩
 ·exact .inr ⟨h1,c1,X1,h2,h3.mono hQ⟩
abbrev Ct:Type:=ByteArray->List GPlace
def updL(L:Ct)(wd:ByteArray)(x:List GPlace):Ct:=fun w2=>if w2=wd then x else L w2
theorem setOf_len{α:Type}[DecidableEq α](lt:α->α->Bool)(l:List α):(setOf lt l).length<=l.length:=by
 unfold setOf
 have:=squeeze_len (l.mergeSort fun x y=>!lt y x)
 rw[List.length_mergeSort]at this
 exact this
theorem rising_nodup{l:List GPlace}(h:Rising beforeB l):l.Nodup:=h.imp fun{a b} hab e=>by
 subst e
 rw[before_iff]at hab
 omega
theorem nodup_len:∀{l m:List GPlace},l.Nodup->(∀p∈l,p∈m)->l.length<=m.length
 |[],_,_,_=>Nat.zero_le _
 |a::l,m,h,hm=>by
  obtain⟨h1,h2⟩:=List.nodup_cons.1 h
  obtain⟨s,t,rfl⟩:=List.append_of_mem (hm a List.mem_cons_self)
  have ih:=nodup_len (m:=s++t) h2 fun p hp=>by
   rcases List.mem_append.1 (hm p (List.mem_cons_of_mem _ hp))with h3|h3
   ·exact List.mem_append_left _ h3
   ·rcases List.mem_cons.1 h3 with e|h3
    ·rw[e]at hp
     exact absurd hp h1
    ·exact List.mem_append_right _ h3
  rw[List.length_append]at ih⊢
  rw[List.length_cons,List.length_cons]
  omega
theorem setOf_ge{l m:List GPlace}(h:Rising beforeB l)(hm:∀p∈l,p∈m):l.length<=(setOf beforeB m).length:=
 nodup_len (rising_nodup h) fun p hp=>(setOf_mem _ _ _).2 (hm p hp)
theorem len_wsum:∀K:LP,2*K.length<=wsum wtF K
 |[]=>Nat.zero_le _
 |x::K=>by
  have ih:=len_wsum K
  have h1:=wtF_le x.1 x.2
  have h2:pz x.1 x.2=2+x.1.size+x.2.size:=rfl
  rw[wsum_cons,List.length_cons]
  omega
theorem wsum_filter(p:ByteArray×ByteArray->Bool):∀K:LP,wsum wtF (K.filter p)<=wsum wtF K
 |[]=>Nat.le_refl _
 |x::K=>by
  have ih:=wsum_filter p K
  rw[List.filter_cons]
  split
  ·rw[wsum_cons,wsum_cons]
   omega
  ·rw[wsum_cons]
   omega
theorem putA_keys{K:LP}(k v:ByteArray):∀y∈K.map Prod.fst,y∈(putA K k v).map Prod.fst:=fun y hy=>by
 obtain⟨e,he,rfl⟩:=List.mem_map.1 hy
 unfold putA
 rw[List.map_append,List.map_cons]
 rcases ltB_total e.1 k with h|h|h
 ·exact List.mem_append_left _ (List.mem_map_of_mem (List.mem_filter.2 ⟨he,decide_eq_true h⟩))
 ·rw[h]
  exact List.mem_append_right _ List.mem_cons_self
 ·exact List.mem_append_right _ (List.mem_cons_of_mem _ (List.mem_map_of_mem (List.mem_filter.2 ⟨he,decide_eq_true h⟩)))
theorem getA_mem{K:LP}{k v:ByteArray}(h:getA K k=some v):k∈K.map Prod.fst:=by
 unfold getA at h
 cases hf:K.find? (fun x=>decide (x.1=k))with
 |none=>rw[hf]at h;cases h
 |some x=>
  have h1:=List.find?_some hf
  have h2:=List.mem_of_find?_eq_some hf
  have h3:x.1=k:=by simpa using h1
  rw[<-h3]
  exact List.mem_map_of_mem h2
section
variable{pg:Nat->ByteArray}{n:ByteArray}{V N:Nat}{L:Ct}{K:LP}{c:Ch}{X:Tr}
theorem wt_many(m:Nat):wtF manyK (cntB m)=12:=by
 have h1:pz manyK (cntB m)=12:=by
  unfold pz
  rw[cntB_size]
  rfl
 unfold wtF
 rw[h1]
 have h2:readL manyK.data.toList=some [⟨0,0,⟨#[]⟩⟩]:=by rfl
 rw[h2]
 rfl
theorem rowOf_append{a b:List GPlace}(h:a≠[]):rowOf (a++b)=rowOf a:=by
 cases a with
 |nil=>exact absurd rfl h
 |cons p r=>rfl
theorem first_row{P l:List GPlace}{row:Int}(hP:P≠[])(hr:Rising beforeB P)(hl:∀p∈l,p.1=row)(hlow:rowOf P<=row)(hc:CutOk (setOf beforeB (P++l))):∃m∈pcs (setOf beforeB (P++l)),rowOf m=rowOf P:=by
 obtain⟨p1,p2⟩:=pcs_ok hc
 obtain⟨p0,hp0,e0⟩:=rowOf_mem hP
 have hne:setOf beforeB (P++l)≠[]:=fun e=>by
  have:=(setOf_mem beforeB (P++l) p0).2 (List.mem_append_left _ hp0)
  rw[e]at this
  cases this
 cases hm:pcs (setOf beforeB (P++l))with
 |nil=>rw[hm]at p1;exact absurd p1.symm hne
 |cons m r=>
  refine⟨m,List.mem_cons_self,?_⟩
  have hm0:m≠[]:=(p2.ne m (by rw[hm];exact List.mem_cons_self)).1
  have e1:rowOf m=rowOf (setOf beforeB (P++l)):=by
   rw[<-p1,hm,List.flatten_cons,rowOf_append hm0]
  rw[e1]
  obtain⟨q,hq,eq⟩:=rowOf_mem hne
  have h1:=rising_rows (setOf_rising parts_place (P++l)) p0 ((setOf_mem _ _ _).2 (List.mem_append_left _ hp0))
  rcases List.mem_append.1 ((setOf_mem _ _ _).1 hq)with h2|h2
  ·have:=rising_rows hr q h2
   omega
  ·have:=hl q h2
   omega
theorem mem_pre{K:LP}{s:ByteArray}{e:ByteArray×ByteArray}(h:e∈preA K s):e∈K:=(List.mem_filter.1 h).1
theorem updL_same(L:Ct)(wd:ByteArray)(x:List GPlace):updL L wd x wd=x:=if_pos rfl
theorem updL_other(L:Ct){wd w2:ByteArray}(x:List GPlace)(h:w2≠wd):updL L wd x w2=L w2:=if_neg h
end
def AddsOk(pg:Nat->ByteArray)(n:ByteArray)(row:Int)(ws:List ByteArray)(Q:Ch->Tr->Prop):List ByteArray->List ByteArray->Ch->Tr->Prop
 |_,[],c,X=>Q c X
 |dn,wd::rest,c,X=>(wd∈dn->AddsOk pg n row ws Q (wd::dn) rest c X)/\(wd∉dn->X.lays c pg 3/\∃PS,HasW X n wd PS/\SaveOk pg n wd (pieceK n wd PS row).1 (setOf beforeB ((pieceK n wd PS row).2++occ row wd ws 0)) (AddsOk pg n row ws Q (wd::dn) rest) c X)
def addL(L:Ct)(row:Int)(ws dn:List ByteArray):Ct:=fun wd=>if wd∈dn then setOf beforeB (L wd++occ row wd ws 0)else L wd
theorem addL_step(L:Ct)(row:Int)(ws:List ByteArray){dn:List ByteArray}{wd:ByteArray}(h:wd∉dn):updL (addL L row ws dn) wd (setOf beforeB (addL L row ws dn wd++occ row wd ws 0))=addL L row ws (wd::dn):=by
 funext w2
 unfold updL addL
 by_cases e:w2=wd
 ·subst e
  rw[if_pos rfl,if_neg h,if_pos List.mem_cons_self]
 ·rw[if_neg e]
  by_cases e2:w2∈dn
  ·rw[if_pos e2,if_pos (List.mem_cons_of_mem _ e2)]
  ·rw[if_neg e2,if_neg (by simp[e,e2])]
theorem addL_old(L:Ct)(row:Int)(ws:List ByteArray){dn:List ByteArray}{wd:ByteArray}(h:wd∈dn):addL L row ws dn=addL L row ws (wd::dn):=by
 funext w2
 unfold addL
 by_cases e:w2=wd
 ·subst e
  rw[if_pos h,if_pos List.mem_cons_self]
 ·by_cases e2:w2∈dn
  ·rw[if_pos e2,if_pos (List.mem_cons_of_mem _ e2)]
  ·rw[if_neg e2,if_neg (by simp[e,e2])]
section
variable{pg:Nat->ByteArray}{n:ByteArray}{N:Nat}{L:Ct}
end
end
section
open Go Go.RowKit Go.Shelf Go.Lib Go.Sort
section
variable{w:World}{FP TP PB DB M:Nat}{c:Ch}{sv:Head}{t:Int}{d:Dk}
structure SaveAt(Q:Ch->Tr->Prop)(w0 w:World)(FP TP PB DB M:Nat)(sv:Head)(t:Int)(d:Dk)(n wd:ByteArray)(v:Value)(rem:List GPlace):Prop where
 ex:∃c X,FdW w FP TP PB DB M c sv t d/\PutsOk d.pg n wd Q (pcs rem) c X
 fr:PgF PB DB M M w0 w
 ok:CutOk rem
 inr:∀p∈rem,inP p=true
 len:rem.length<=100000
 rem:RemP PB DB M w v rem
theorem row_in{l:List GPlace}(h:∀p∈l,inP p=true)(h0:l≠[]):1<=rowOf l/\rowOf l<=1073741824:=by
 obtain⟨p,hp,e⟩:=rowOf_mem h0
 have:=inP_iff.1 (h p hp)
 omega
theorem rowOf_take{l:List GPlace}{k:Nat}(hk:0<k):rowOf (l.take k)=rowOf l:=by
 cases l with
 |nil=>simp
 |cons p r=>
  cases k with
  |zero=>omega
  |succ k=>rfl
theorem rowOf_get{l:List GPlace}(h:0<l.length):rowOf l=l[0].1:=by
 cases l with
 |nil=>simp at h
 |cons p r=>rfl
theorem half_wrap(n:Nat)(h:n<=100000):wrap64 ((n:Int)/2)=((n/2:Nat):Int):=by
 unfold wrap64
 omega
theorem save_w{Q:Ch->Tr->Prop}{n wd:ByteArray}(hn:OkW n)(hwd:OkW wd)(hF:FdW w FP TP PB DB M c sv t d){X:Tr}(hl:X.lays c d.pg 3){old:ByteArray}{l:List GPlace}
   (hop:SaveOk d.pg n wd old l Q c X) {v:Value} (hv:RemP PB DB M w v l):
   Calls Tryz.prog 47 #[.pointer (some ⟨FP,0,none⟩),.string n,.string wd,.string old,v] w fun e w'=>e=.returned .nilIface/\∃c' X',FdW w' FP TP PB DB M c' sv t d/\Q c' X'/\PgF PB DB M M w w':=by
 have HO:=Lib.hid (And.intro hn hwd)
 have hp:=hF.p
 have hdr:old≠⟨#[]⟩->∃c1 X1,PutsOk d.pg n wd Q (pcs l) c1 X1/\Calls Tryz.prog 93 #[.pointer (some ⟨TP,0,none⟩),.string old] w fun e w'=>e=.returned .nilIface/\PgT w' PB DB M c1 sv t d/\PgF PB DB M M w w':=fun h0=>by
   rcases hop.op with⟨e,_⟩|⟨_,c1,X1,e,hq⟩
   · exact absurd e h0
   · refine⟨c1,X1,hq,?_⟩
     have:=drop_n hF.pg hF.t hF.tn (by omega) old hl
     rw[e]at this
     exact this
 have hno:old=⟨#[]⟩->PutsOk d.pg n wd Q (pcs l) c X:=fun h0=>by
   rcases hop.op with⟨_,h⟩|⟨e,_⟩
   · exact h
   · exact absurd h0 e
 have HDR:=Lib.hid hdr
 have HNO:=Lib.hid hno
 have HX:=Lib.hid (And.intro hF (And.intro hop.cut (And.intro hop.inr (And.intro hop.len hv))))
 clear hn hwd hF hl hop hv hdr hno
 go_enter Tryz.func47,Tryz.ntmps47
 go_upto_if 19 with(fail)
 obtain⟨cb,hcb⟩:∃cb,(!old.toList.isEmpty)=cb:=⟨_,rfl⟩
 rw[hcb]
 have HCB:=Lib.hid hcb
 clear hcb
 go_cut [11] (fun _ wx=>∃c1 X1,FdW wx FP TP PB DB M c1 sv t d/\PutsOk d.pg n wd Q (pcs l) c1 X1/\PgF PB DB M M w wx)
 case first=>
  as_aux_lemma=>
   by_cases h0:old=⟨#[]⟩
   · have HE:=Lib.hid (HNO.out h0)
     have hcb:=HCB.out
     rw[h0]at hcb
     have hem:(⟨#[]⟩:ByteArray).toList.isEmpty=true:=by rw[ByteArray.toList_eq];rfl
     rw[hem]at hcb
     have hcb2:cb=false:=hcb.symm
     subst hcb2
     clear hcb h0
     go_wp2_with fail
     go_meet
     exact⟨c,_,HX.out.1,HE.out,PgF.refl _ _ _ _⟩
   · obtain⟨c1,X1,hq,hd⟩:=HDR.out h0
     have HQ:=Lib.hid hq
     have HD:=Lib.hid hd
     have hne:old.toList.isEmpty=false:=by
      cases h:old.toList.isEmpty with
      |false=>rfl
      |true=>
        rw[List.isEmpty_iff,ByteArray.toList_eq]at h
        exact absurd (bytes_ext (b:=⟨#[]⟩) h) h0
     have hcb:=HCB.out
     rw[hne]at hcb
     have hcb2:cb=true:=hcb.symm
     subst hcb2
     clear hq hd h0 hne hcb
     go_wp2_with fail
     refine HD.out.mono ?_
     rintro e w1 ⟨rfl,hp1,hf1⟩
     have HR:=Lib.hid (And.intro (HX.out.1.act hp1 hf1) hf1)
     clear hp1 hf1
     go_wp2_with fail
     go_meet
     exact⟨c1,X1,HR.out.1,HQ.out,HR.out.2⟩
 case rest=>
  as_aux_lemma=>
   obtain⟨c1,X1,hF1,hQ1,hf1⟩:=hcut
   have hstart:SaveAt Q w wc FP TP PB DB M sv t d n wd v l:=⟨⟨c1,X1,hF1,hQ1⟩,hf1,HX.out.2.1,HX.out.2.2.1,HX.out.2.2.2.1,HX.out.2.2.2.2.pg hf1⟩
   have HS0:=Lib.hid hstart
   clear hF1 hQ1 hf1 hstart
   go_wp2_with fail
   go_loopw [4,12,13,14,15,16,17] (fun lv _ _ _ _ _ _ w'=>∃rem,SaveAt Q w w' FP TP PB DB M sv t d n wd lv rem) (fun lv _ _ _ _ _ _ _=>slLen lv)
   case atStart=>exact⟨l,HS0.out⟩
   case round=>
    as_aux_lemma=>
     obtain⟨rem,hs⟩:=hrel
     have HS:=Lib.hid hs
     obtain⟨ao,co,hfv⟩:=hs.rem.isP.form
     clear hs
     subst hfv
     by_cases h0:rem=[]
     ·subst h0
      have HE:Hid (∃c' X',FdW wr FP TP PB DB M c' sv t d/\Q c' X'/\PgF PB DB M M w wr):=Lib.hid (by
        obtain⟨c2,X2,hF2,hQ2⟩:=HS.out.ex
        exact⟨c2,X2,hF2,hQ2,HS.out.fr⟩)
      go_wp2_with fail
      go_ret
      exact⟨rfl,HE.out⟩
     ·have hpos:0<rem.length:=List.length_pos_iff.2 h0
      have hpi:(0:Int)<(rem.length:Int):=by omega
      obtain⟨b,off,e1,hcap,hb,hbn,hpl⟩:∃b off,ao=some ⟨b,off,none⟩/\rem.length<=co/\b<wr.heap.size/\(b≠PB/\b≠DB/\b≠M)/\PlacesAt wr b off rem:=by
        rcases HS.out.rem with⟨_,e⟩|⟨b,off,c2,h1,h2,h3,h4,h5⟩
        ·exact absurd e h0
        ·cases h1
         exact⟨b,off,rfl,h2,h3,h4,h5⟩
      subst e1
      have hwr:=write_p rem b off co (some ⟨b,off,none⟩) (fun _=>rfl) (by have:=HS.out.len;omega) wr hpl
      have hwS:∀k,wS (rem.take k)=writeP (rem.take k)/\wErr (rem.take k)=.nilIface:=fun k=>by
        have h5:placesB (rem.take k)=true:=placesB_rising (fun p hp=>HS.out.inr p (List.mem_of_mem_take hp)) (HS.out.ok.up.sublist (List.take_sublist k rem))
        unfold wS wErr
        rw[h5]
        exact⟨rfl,rfl⟩
      have hw0:=hwS rem.length
      rw[List.take_length]at hw0
      rw[hw0.1,hw0.2]at hwr
      have HB:=Lib.hid (And.intro hcap (And.intro hb (And.intro hbn hpl)))
      have HWS:=Lib.hid hwS
      clear hcap hb hbn hpl hwS hw0
      go_wp2_with fail
      refine hwr.mono ?_
      rintro e w1 ⟨rfl,hg1⟩
      have HG1:=Lib.hid hg1
      clear hg1 hwr
      go_wp2_with fail
      obtain⟨wo,hwo⟩:∃wo,wo=wr:=⟨_,rfl⟩
      subst hwo
      go_loopw [12,13,14,15,16] (fun nv sv2 ev _ _ w'=>∃k:Nat,nv=.int .i64 k/\sv2=.string (baL (writeP (rem.take k)))/\ev=.nilIface/\CutAt rem k/\Gr wo w') (fun nv _ _ _ _ _=>(intOf nv).toNat)
      case atStart=>exact⟨rem.length,rfl,by rw[List.take_length];rfl,rfl,cutAt_start h0,HG1.out⟩
      case round=>
       as_aux_lemma=>
        obtain⟨k,rfl,rfl,rfl,hk,hg2⟩:=hrel
        have HK:=Lib.hid hk
        have HG2:=Lib.hid hg2
        obtain⟨sz,hsz⟩:∃sz,baL (writeP (rem.take k))=sz:=⟨_,rfl⟩
        have hszl:sz.size=(writeP (rem.take k)).length:=by rw[<-hsz,baL_size]
        rw[hsz]
        have HSZ:=Lib.hid hsz
        by_cases hs:(writeP (rem.take k)).length<=100
        ·as_aux_lemma=>
         have hsi:¬(100:Int)<(sz.size:Int):=by omega
         have hkc:=cutAt_end hk hs
         have hk0:=hk.1
         have hkl:=hk.2.1
         have hkcap:k<=co:=Nat.le_trans hk.2.1 HB.out.1
         obtain⟨c2,X2,hF2,hQ2⟩:=HS.out.ex
         rw[pcs_cons HS.out.ok h0]at hQ2
         obtain⟨hl2,c3,X3,hput,hQ3⟩:=hQ2
         have hrow:=row_in HS.out.inr h0
         have hF3:=hF2.gr hg2
         have hpl:=HB.out.2.2.2.gr hg2
         have hkey:=fun W=>key_w HO.out.1 HO.out.2 hrow W
         have hpn:=fun(W:World) (g:Gr wr W)=>put_n (hF3.pg.gr g) (hF3.t.gr g) hF3.tn (by omega) (pcE n wd (rem.take (cutP rem))).1 (pcE n wd (rem.take (cutP rem))).2 hl2
         rw[hput]at hpn
         have hPN:∀(W:World),Gr wr W->Calls Tryz.prog 89 #[.pointer (some ⟨TP,0,none⟩),.string (keyW n wd (rowOf rem)),.string sz] W fun e w'=>e=.returned .nilIface/\PgT w' PB DB M c3 sv t d/\PgF PB DB M M W w':=fun W g=>by
          have h3:=hpn W g
          unfold pcE at h3
          rw[<-hkc,rowOf_take hk0,hsz]at h3
          exact h3
         have pF:=hF3.p
         have p0:=(hpl 0 hpos).1
         rw[<-rowOf_get hpos]at p0
         rw[Nat.zero_mul,Nat.add_zero]at p0
         have HPN:=Lib.hid hPN
         have HKEY:=Lib.hid hkey
         have HF3:=Lib.hid hF3
         have HQ3:=Lib.hid hQ3
         obtain⟨R0,hR0⟩:∃R0,rowOf rem=R0:=⟨_,rfl⟩
         simp only[hR0]at p0 HPN HKEY
         have HKC:=Lib.hid hkc
         have hkf:∀(w1 w2:World),PgF PB DB M M w1 w2->w1.cell? ⟨FP,0,none⟩=some (.pointer (some ⟨TP,0,none⟩))->w1.cell? ⟨b,off,none⟩=some (.int .i64 R0)->w2.cell? ⟨FP,0,none⟩=some (.pointer (some ⟨TP,0,none⟩))/\w2.cell? ⟨b,off,none⟩=some (.int .i64 R0):=fun w1 w2 hf h1 h2=>⟨hf.keeps hF3.fn.1 hF3.fn.2.1 hF3.fn.2.2 h1,hf.keeps HB.out.2.2.1.1 HB.out.2.2.1.2.1 HB.out.2.2.1.2.2 h2⟩
         have KF:=Lib.hid hkf
         have KS:=Lib.hid (And.intro hk0 (And.intro hkl hkcap))
         clear hkf hk hg2 hszl hsz hs hkc hF2 hput hl2 hrow hpl hkey hpn hPN hF3 hQ3 hR0 hk0 hkl hkcap
         go_wp2_with fail
         have Y1:wr.drew.cell? ⟨FP,0,none⟩=some (.pointer (some ⟨TP,0,none⟩)):=pF
         have Y2:wr.drew.cell? ⟨b,off,none⟩=some (.int .i64 R0):=p0
         have Gc:Gr wr wr.drew:=(Gr.refl wr).drew
         go_region_held3(fun w'=>w'.cell? ⟨FP,0,none⟩=some (.pointer (some ⟨TP,0,none⟩))/\w'.cell? ⟨b,off,none⟩=some (.int .i64 R0)) (first|exact⟨Y1,Y2⟩|exact⟨pF,p0⟩|(refine⟨?_,?_⟩<;>assumption)) (first
          |( go_at_call 90;refine(HKEY.out _).mono ?_;rintro e w4 ⟨rfl,hg4⟩;have Gc:=Gc.trans hg4;have Y1:=hg4.keeps Y1;have Y2:=hg4.keeps Y2)
          |( go_at_call 89;refine(HPN.out _ Gc).mono ?_;rintro e w5 ⟨rfl,hp5,hf5⟩;obtain⟨Y1,Y2⟩:=KF.out _ _ hf5 Y1 Y2))
         all_goals
          have hs2:SaveAt Q w w5 FP TP PB DB M sv t d n wd (.slice (if co=k then some ⟨b,off,none⟩else some ⟨b,off+k*2,none⟩) (rem.length-k) (co-k)) (rem.drop k):=by
            obtain⟨k0,kl,kc⟩:=KS.out
            have F5:=(HF3.out.gr Gc).act hp5 hf5
            have gw5:=(PgF.of_gr PB DB M (HG2.out.trans Gc)).trans hf5
            refine⟨⟨c3,X3,F5,by rw[HKC.out];exact HQ3.out⟩,HS.out.fr.trans gw5,HS.out.ok.drop k,fun p hp=>HS.out.inr p (List.mem_of_mem_drop hp),by rw[List.length_drop];have:=HS.out.len;omega,?_⟩
            by_cases ec:co=k
            · rw[if_pos ec]
              exact .inr ⟨b,off,co-k,by rw[List.length_drop],by rw[List.length_drop];have:=HB.out.1;omega,Nat.lt_of_lt_of_le HB.out.2.1 gw5.size,HB.out.2.2.1,fun i hi=>by rw[List.length_drop]at hi;have:=HB.out.1;omega⟩
            rw[if_neg ec]
            refine .inr ⟨b,off+k*2,co-k,by rw[List.length_drop],by rw[List.length_drop];have:=HB.out.1;omega,Nat.lt_of_lt_of_le HB.out.2.1 gw5.size,HB.out.2.2.1,?_⟩
            refine places_drop (fun i hi=>?_) k
            have h7:=HB.out.2.2.2 i hi
            exact⟨gw5.keeps HB.out.2.2.1.1 HB.out.2.2.1.2.1 HB.out.2.2.1.2.2 h7.1,gw5.keeps HB.out.2.2.1.1 HB.out.2.2.1.2.1 HB.out.2.2.1.2.2 h7.2⟩
          have HS2:=Lib.hid hs2
          clear hs2 hp5 hf5 Gc Y1 Y2
          have hk0:(0:Int)<=(k:Int):=by omega
          have hkl:(k:Int)<=(rem.length:Int):=by have:=KS.out.2.1;omega
          have hkl2:k<=rem.length:=KS.out.2.1
          go_wp2_with fail
          exact⟨⟨_,HS2.out⟩,by simp only[slLen];have:=KS.out.1;omega⟩
        ·as_aux_lemma=>
         have hsi:(100:Int)<(sz.size:Int):=by omega
         have hkc:k<=co:=Nat.le_trans hk.2.1 HB.out.1
         have hlen:=HS.out.len
         obtain⟨hnx,hnl⟩:=cutAt_next HS.out.ok hk hs
         obtain⟨hme,hmk,hmi⟩:=mid_in hk.1 hk.2.1
         have hkl:=hk.2.1
         have hpl:=HB.out.2.2.2.gr hg2
         have hbw:b<wr.heap.size:=Nat.lt_of_lt_of_le HB.out.2.1 hg2.size
         have lenk:(rem.take k).length=k:=by rw[List.length_take];exact Nat.min_eq_left hk.2.1
         have hrw:=rows_p (rem.take k) (.slice (some ⟨b,off,none⟩) k co) wr (.inr ⟨b,off,co,by rw[lenk],hbw,places_take hpl k⟩) (by rw[lenk];omega)
         obtain⟨R,hR⟩:∃R,setOf lessI ((rem.take k).map (·.1))=R:=⟨_,rfl⟩
         obtain⟨md,hmd⟩:∃md,midRow (rem.take k)=md:=⟨_,rfl⟩
         obtain⟨k2,hk2⟩:∃k2,firstAt rem md=k2:=⟨_,rfl⟩
         simp only[hR,hmd]at hmk hme hmi hrw hnx hnl
         rw[hk2]at hnx hnl
         have hix0:Lib.idxBy (fun _ (y:GPlace)=>y.1==md) rem default=(k2:Int):=by
          have:=idx_first md rem 0 hmi
          rw[hk2,Nat.zero_add]at this
          exact this
         have HI:=Lib.hid (And.intro hpl (And.intro hbw (And.intro hnx (And.intro hnl (And.intro hix0 hlen)))))
         have HM:=Lib.hid (And.intro hmk hme)
         clear hk hg2 hszl hsz hpl hbw hnx hnl hix0 hmi hmk hme lenk hmd hk2 hkl
         go_wp2_with fail
         refine hrw.mono ?_
         rintro e w3 ⟨v3,rfl,ho3,hg3⟩
         rcases ho3 with⟨_,e3⟩|⟨B3,cap3,rfl,hle3,hge3,hlt3,hh3⟩
         ·exact absurd HM.out.1 (by rw[e3];simp)
         have hmk:=HM.out.1
         have cm:w3.cell? ⟨B3,R.length/2,none⟩=some (.int .i64 md):=by
          have h7:=(hh3 (R.length/2) (by simpa using hmk)).1
          have h8:=HM.out.2
          simpa[h8]using h7
         have hq:wrap64 ((R.length:Int)/2)=((R.length/2:Nat):Int):=by
          have h9:R.length<=100000:=by
            have h5:=setOf_len lessI ((rem.take k).map (·.1))
            rw[hR,List.length_map,List.length_take]at h5
            omega
          exact half_wrap _ h9
         have hmi2:((R.length/2:Nat):Int)<(R.length:Int):=Int.ofNat_lt.2 hmk
         have HG3:=Lib.hid hg3
         clear hR hlen hrw hg3 hh3 hle3 hge3 hlt3
         go_wp2_with fail
         have gB:Gr w3 (w3.alloc (.cells #[.int .i64 md] 3)):=(Gr.refl w3).alloc _
         have b0:=box_newT w3 (.int .i64 md) 3
         obtain⟨W4,hW4⟩:∃W4,w3.alloc (.cells #[.int .i64 md] 3)=W4:=⟨_,rfl⟩
         rw[hW4]at gB b0⊢
         have hg4:=HG3.out.trans gB
         have hix:=index_p rem (.slice (some ⟨b,off,none⟩) rem.length co) 95 #[.pointer (some ⟨w3.heap.size,0,none⟩)] (fun y=>y.1==md) W4 (.inr ⟨b,off,co,rfl,Nat.lt_of_lt_of_le HI.out.2.1 hg4.size,HI.out.1.gr hg4⟩) (by have:=HI.out.2.2.2.2.2;omega) (enters_of Tryz.func95 (by kernel_rfl) rfl) (fun W x g=>save1_n W _ md x (g.keeps b0))
         rw[HI.out.2.2.2.2.1]at hix
         have HG4:=Lib.hid hg4
         have HIX:=Lib.hid hix
         clear gB b0 hW4 hg4 hix cm
         refine HIX.out.mono ?_
         rintro e w5 ⟨rfl,hg5⟩
         have hg35:=HG4.out.trans hg5
         have hk2c:k2<=co:=Nat.le_trans HI.out.2.2.1.2.1 HB.out.1
         have hk2i:(0:Int)<=(k2:Int):=by omega
         have hk2j:(k2:Int)<=(co:Int):=by omega
         have lenk2:(rem.take k2).length=k2:=by rw[List.length_take];exact Nat.min_eq_left HI.out.2.2.1.2.1
         have hwr2:=write_p (rem.take k2) b off co (some ⟨b,off,none⟩) (fun _=>rfl) (by rw[lenk2];have:=HI.out.2.2.2.2.2;have:=HI.out.2.2.1.2.1;omega) w5 (places_take (HI.out.1.gr hg35) k2)
         rw[lenk2,(HWS.out k2).1,(HWS.out k2).2]at hwr2
         have HW2:=Lib.hid hwr2
         have HG5:=Lib.hid (HG2.out.trans hg35)
         clear hg5 hg35 hwr2 lenk2
         go_wp2_with fail
         refine HW2.out.mono ?_
         rintro e w6 ⟨rfl,hg6⟩
         have HG6:=Lib.hid (HG5.out.trans hg6)
         clear hg6
         go_wp2_with fail
         exact⟨⟨k2,rfl,rfl,rfl,HI.out.2.2.1,HG6.out⟩,by have:=HI.out.2.2.2.1;simp only[intOf];omega⟩
end
