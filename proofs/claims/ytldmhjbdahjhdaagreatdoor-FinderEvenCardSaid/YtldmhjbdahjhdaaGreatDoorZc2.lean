/-
  Part 2 of the proof.
-/
import Derived.Test.YtldmhjbdahjhdaaGreatDoorZc1
import Derived.Lib.AppendZeros
import Derived.Deep.MidRow
set_option maxRecDepth 100000
set_option maxHeartbeats 100000000
set_option linter.all false
namespace Go.Proofs.YtldmhjbdahjhdaaGreatDoor
section
open Go Go.RowKit
def GrX(S:Nat->Prop)(w w':World):Prop:=w'.os=w.os/\w'.tape=w.tape/\w'.output=w.output/\w.heap.size<=w'.heap.size/\∀k,k<w.heap.size->¬S k->w'.heap[k]?=w.heap[k]?
theorem GrX.refl(S:Nat->Prop)(w:World):GrX S w w:=⟨rfl,rfl,rfl,Nat.le_refl _,fun _ _ _=>rfl⟩
theorem GrX.trans{S:Nat->Prop}{a b c:World}(h:GrX S a b)(k:GrX S b c):GrX S a c:=
 ⟨k.1.trans h.1,k.2.1.trans h.2.1,k.2.2.1.trans h.2.2.1,Nat.le_trans h.2.2.2.1 k.2.2.2.1,fun i hi hs=>(k.2.2.2.2 i (Nat.lt_of_lt_of_le hi h.2.2.2.1) hs).trans (h.2.2.2.2 i hi hs)⟩
theorem GrX.of_gr{S:Nat->Prop}{w w':World}(g:Gr w w'):GrX S w w':=⟨g.os,g.tape,g.output,g.size,fun k hk _=>g.block k hk⟩
theorem GrX.of_grown{S:Nat->Prop}{w w':World}{B:Nat}(g:w.grownBy w' (some B))(hB:S B):GrX S w w':=⟨g.os,g.tape,g.output,g.size,fun k hk hs=>g.block k hk (fun e=>hs (by have:=Option.some.inj e;rw[this];exact hB))⟩
theorem GrX.setCell{S:Nat->Prop}(w:World){p:Addr}(u:Value)(h:S p.block):GrX S w (w.setCell p u):=⟨rfl,rfl,rfl,by simp,fun k _ hs=>Below.heap_setCell _ _ _ _ (fun e=>hs (by rw[e];exact h))⟩
theorem GrX.drew{S:Nat->Prop}(w:World):GrX S w w.drew:=GrX.of_gr (Gr.refl w).drew
theorem GrX.gr{S:Nat->Prop}{w w' w0:World}(g:GrX S w w')(g0:Gr w0 w)(h:∀k,S k->w0.heap.size<=k):Gr w0 w':=
 Below.trans g0 ⟨g.1,g.2.1,g.2.2.1,g.2.2.2.1,fun k hk=>g.2.2.2.2 k (Nat.lt_of_lt_of_le hk g0.size) (fun hs=>absurd (h k hs) (by omega))⟩
theorem GrX.block{S:Nat->Prop}{w w':World}(g:GrX S w w'){k:Nat}(hk:k<w.heap.size)(hs:¬S k):w'.heap[k]?=w.heap[k]?:=g.2.2.2.2 k hk hs
theorem GrX.keeps{S:Nat->Prop}{w w':World}(g:GrX S w w'){b o:Nat}{v:Value}(hs:¬S b)(hc:w.cell? ⟨b,o,none⟩=some v):w'.cell? ⟨b,o,none⟩=some v:=
 (World.cell?_of_block (g.block (lt_of_cell hc) hs)).trans hc
theorem GrX.frozen{S:Nat->Prop}{w w':World}(g:GrX S w w'){b:Nat}(o:Nat)(hb:b<w.heap.size)(hs:¬S b):w'.frozen? ⟨b,o,none⟩=w.frozen? ⟨b,o,none⟩:=World.frozen?_of_block (g.block hb hs)
def RowV{α:Type}(enc:α->Value)(w:World)(v:Value)(xs:List α):Prop:=
 (v=.slice none 0 0/\xs=[])\/∃b off c,v=.slice (some ⟨b,off,none⟩) xs.length c/\b<w.heap.size/\∀i (h:i<xs.length),w.cell? ⟨b,off+i,none⟩=some (enc xs[i])
theorem RowV.gr{α:Type}{enc:α->Value}{w w':World}{v:Value}{xs:List α}(h:RowV enc w v xs)(g:Gr w w'):RowV enc w' v xs:=by
 rcases h with h|⟨b,off,c,h1,h2,h3⟩
 ·exact .inl h
 ·exact .inr ⟨b,off,c,h1,Nat.lt_of_lt_of_le h2 g.size,fun i hi=>g.keeps (h3 i hi)⟩
theorem RowV.keepX{α:Type}{enc:α->Value}{S:Nat->Prop}{w w':World}{v:Value}{xs:List α}(h:RowV enc w v xs)(g:GrX S w w')(hs:∀b off n c,v=.slice (some ⟨b,off,none⟩) n c->¬S b):RowV enc w' v xs:=by
 rcases h with h|⟨b,off,c,h1,h2,h3⟩
 ·exact .inl h
 ·exact .inr ⟨b,off,c,h1,Nat.lt_of_lt_of_le h2 g.2.2.2.1,fun i hi=>g.keeps (hs _ _ _ _ h1) (h3 i hi)⟩
theorem RowV.form{α:Type}{enc:α->Value}{w:World}{v:Value}{xs:List α}(h:RowV enc w v xs):∃ao c,v=.slice ao xs.length c:=by
 rcases h with⟨rfl,rfl⟩|⟨b,off,c,rfl,_⟩
 ·exact⟨none,0,rfl⟩
 ·exact⟨_,c,rfl⟩
theorem RowV.at{α:Type}{enc:α->Value}{w:World}{ao:Option Addr}{n c:Nat}{xs:List α}(h:RowV enc w (.slice ao n c) xs){i:Nat}(hi:i<xs.length):∃b off,ao=some ⟨b,off,none⟩/\∀i (h:i<xs.length),w.cell? ⟨b,off+i,none⟩=some (enc xs[i]):=by
 rcases h with⟨_,rfl⟩|⟨b,off,c,h1,h2,h3⟩
 ·exact absurd hi (by simp)
 ·injection h1 with e1 e2 e3
  exact⟨b,off,e1,h3⟩
def OwnVR{α:Type}(enc:α->Value)(e:TypeId)(a0 w:World)(v:Value)(xs:List α):Prop:=w.ownsRow a0.heap.size e 1 v xs.length (xs.map enc)
theorem OwnVR.gr{α:Type}{enc:α->Value}{e:TypeId}{a0 w w':World}{v:Value}{xs:List α}(h:OwnVR enc e a0 w v xs)(g:Gr w w'):OwnVR enc e a0 w' v xs:=ownsRow_gr h g
theorem OwnVR.row{α:Type}{enc:α->Value}{e:TypeId}{a0 w:World}{v:Value}{xs:List α}(h:OwnVR enc e a0 w v xs):RowV enc w v xs:=by
 have hlt:=ownBlock_lt h
 rcases h.2 with⟨rfl,h0⟩|⟨b,cap,cur,rfl,h1,h2,h3,h4,h5,h6⟩
 ·exact .inl ⟨rfl,List.length_eq_zero_iff.1 h0⟩
 ·refine .inr ⟨b,0,cap,rfl,hlt b rfl,fun i hi=>?_⟩
  have h7:w.cell? ⟨b,0+i,none⟩=cur[0+i]?:=by simp[World.cell?,h2]
  rw[h7,Nat.zero_add]
  have h8:(List.take (xs.length*1) cur.toList)[i]?=(xs.map enc)[i]?:=by rw[h6]
  rw[List.getElem?_take_of_lt (by omega)]at h8
  simpa[hi]using h8
theorem OwnVR.snoc{α:Type}{enc:α->Value}{e:TypeId}{a0 w:World}{v:Value}{xs:List α}{x:α}(h:w.ownsRow a0.heap.size e 1 v (xs.length+1) (xs.map enc++[enc x])):OwnVR enc e a0 w v (xs++[x]):=by
 show w.ownsRow _ _ 1 v (xs++[x]).length ((xs++[x]).map enc)
 rw[List.length_append,List.map_append]
 exact h
theorem ownVR_nil{α:Type}(enc:α->Value)(e:TypeId)(a0 w:World):OwnVR enc e a0 w (.slice none 0 0) []:=World.ownsRow_nil _ _ _ _
theorem ownV_box{α:Type}(enc:α->Value)(w:World)(x:α)(e:TypeId):OwnVR enc e w (w.alloc (.cells #[enc x] e)) (.slice (some ⟨w.heap.size,0,none⟩) 1 1) [x]:=
 World.ownsRow_lit w #[enc x] 1 (Nat.le_refl _) (by decide) rfl
theorem append_row{α:Type}{enc:α->Value}{a0 w:World}{ops:Array Oper}{rest:List Oper}{o:Oper}{a:Act}{Q:Exit->Act->World->Prop}(hgd:o.guard=none)(s x:Operand)(t e:TypeId)(z:Value)(nb:Nat)
  (ht:Tryz.prog.underlying t=some (.slice e)) (hinf:(Tryz.prog.info? e).map (fun i=>(i.zero,i.size,i.bytes))=some (some z,1,nb)) (hzs:z.cells.size=1) (h1:∀x,(enc x).oneCell'=true) (hnb:nb<=16)
  (ho:o.op=.call {callee:=.builtin .append,args:=#[s,x],argTypes:=#[t,t]}) (v:Value) (us:List α) (hs:a.eval s=v) (hown:OwnVR enc e a0 w v us)
  (vs:Value) (xs:List α) (hx:a.eval x=vs) (hi:RowV enc w vs xs) (hl:us.length+xs.length<=1000000) (hg:Gr a0 w)
  (h:∀v' w',OwnVR enc e a0 w' v' (us++xs)->Gr a0 w'->KeepsBut v w w'->wpList Tryz.prog ops Q rest (a.put o.dst v') w'):wpList Tryz.prog ops Q (o::rest) a w:=by
 obtain⟨i0,hinf,hz0,hz1,hz2⟩:=info_parts hinf
 rcases hi with⟨rfl,rfl⟩|⟨b,off,c,rfl,hb,hp⟩
 ·rw[List.append_nil]at h
  exact Lib.wpList_append_run w hgd s x t t ho v (.slice none 0 0) hs hx v w (run_append_owned_none w a0.heap.size t o.type e i0 1 ht hinf v us.length (us.map enc) hown) (h v w hown hg (fun k o _ _=>⟨rfl,rfl⟩))
 ·have hbytes:(us.length+xs.length)*nb<=140737488355328:=by
   have:=Nat.mul_le_mul hl hnb
   omega
  refine wpList_append_own w hgd s x t ho a0.heap.size e i0 z 1 nb ht hinf hz0 hz1 hz2 hzs (by decide) v us.length (us.map enc) hs hown ⟨b,off,none⟩ xs.length c (xs.map enc) hx (by simp) ?_ (by intro u hu;obtain⟨y,_,rfl⟩:=List.mem_map.1 hu;exact h1 y) (by unfold maxLen;omega) hbytes hg.size
   (fun v' w' h1 h2 _=>h v' w' ?_ (gr_grown hg h2 (ownBlock_ge hown)) (fun k o hk hne=>?_))
  ·intro j u hj
   have hj2:j<xs.length:=by
    have:=(List.getElem?_eq_some_iff.1 hj).1
    simpa using this
   have he:(⟨b,off,none⟩:Addr).add j=⟨b,off+j,none⟩:=by
    unfold Addr.add
    split<;>simp_all
   rw[he,hp j hj2]
   simpa[hj2]using hj
  ·show w'.ownsRow _ _ 1 v' (us++xs).length ((us++xs).map enc)
   rw[List.length_append,List.map_append]
   exact h1
  ·have hb:w'.heap[k]?=w.heap[k]?:=h2.block k hk (fun e=>hne e.symm)
   exact⟨World.cell?_of_block hb,World.frozen?_of_block hb⟩
theorem info_str:(Tryz.prog.info? 9).map (fun i=>(i.zero,i.size,i.bytes))=some (some (.string ⟨#[]⟩),1,16):=by kernel_rfl
theorem info_int1:(Tryz.prog.info? 3).map (fun i=>(i.zero,i.size,i.bytes))=some (some (.int .i64 0),1,8):=by kernel_rfl
def natV(n:Nat):Value:=.int .i64 (n:Int)
structure Head where
 used:Nat->Bool
 roots:Nat->Int
 notes:Nat->Int
def Head.same(h g:Head):Prop:=(∀i,i<2000->h.used i=g.used i)/\∀i,i<8->h.roots i=g.roots i/\h.notes i=g.notes i
theorem Head.same.refl(h:Head):h.same h:=⟨fun _ _=>rfl,fun _ _=>⟨rfl,rfl⟩⟩
def Head.cells(h:Head):List Value:=(List.range 2000).map (fun i=>Value.bool (h.used i))++((List.range 8).map (fun i=>Value.int .i64 (h.roots i))++(List.range 8).map (fun i=>Value.int .i64 (h.notes i)))
theorem Head.cells_len(h:Head):h.cells.length=2016:=by simp[Head.cells]
theorem Head.cells_used(h:Head){i:Nat}(hi:i<2000):h.cells[i]?=some (.bool (h.used i)):=by
 unfold Head.cells
 rw[List.getElem?_append_left (by simpa using hi)]
 simp[hi]
theorem Head.cells_root(h:Head){i:Nat}(hi:i<8):h.cells[2000+i]?=some (.int .i64 (h.roots i)):=by
 unfold Head.cells
 rw[List.getElem?_append_right (by simp),List.getElem?_append_left (by simp;omega)]
 simp[hi]
theorem Head.cells_note(h:Head){i:Nat}(hi:i<8):h.cells[2008+i]?=some (.int .i64 (h.notes i)):=by
 unfold Head.cells
 rw[List.getElem?_append_right (by simp;omega),List.getElem?_append_right (by simp;omega)]
 simp
 rw[show 2008+i-2000-8=i by omega]
 simp[hi]
theorem Head.cells_one(h:Head):∀v∈h.cells,v.oneCell'=true:=by
 intro v hv
 unfold Head.cells at hv
 simp only[List.mem_append,List.mem_map]at hv
 rcases hv with⟨_,_,rfl⟩|⟨_,_,rfl⟩|⟨_,_,rfl⟩<;>rfl
def Head.put(h:Head)(k:Nat)(b:Bool):Head:={h with used:=fun i=>if i=k then b else h.used i}
def Head.setRoot(h:Head)(i:Nat)(p n:Int):Head:={h with roots:=fun j=>if j=i then p else h.roots j,notes:=fun j=>if j=i then n else h.notes j}
structure Head.fine(h:Head):Prop where
 zero:h.used 0=true
 root:∀i,i<8->0<=h.roots i/\h.roots i<2000
 note:∀i,i<8->0<=h.notes i/\h.notes i<65536
def two8(n:Int):List UInt8:=[((n/256) % 256).toNat.toUInt8,(n % 256).toNat.toUInt8]
def bits8(u:Nat->Bool)(i:Nat):Nat->Nat
 |0=>0
 |k+1=>bits8 u i k+if u (i+k)then 2^k else 0
theorem bits8_lt(u:Nat->Bool)(i:Nat):∀k,bits8 u i k<2^k
 |0=>by simp[bits8]
 |k+1=>by
  have:=bits8_lt u i k
  unfold bits8
  rw[Nat.pow_succ]
  split<;>omega
def mapF(u:Nat->Bool):List UInt8:=(List.range 250).map fun i=>(bits8 u (8*i) 8).toUInt8
theorem mapF_len(u:Nat->Bool):(mapF u).length=250:=by simp[mapF]
def rootsF(h:Head)(n:Nat):List UInt8:=(List.range n).flatMap fun i=>two8 (h.roots i)++two8 (h.notes i)
theorem rootsF_len(h:Head)(n:Nat):(rootsF h n).length=4*n:=by
 unfold rootsF
 induction n with
 |zero=>rfl
 |succ n ih=>
  rw[List.range_succ,List.flatMap_append,List.length_append,ih]
  simp[two8]
  omega
def fillF(l:List UInt8):List UInt8:=l++List.replicate (1024-l.length) 0
theorem fillF_len{l:List UInt8}(h:l.length<=1024):(fillF l).length=1024:=by
 unfold fillF
 rw[List.length_append,List.length_replicate]
 omega
def textF(h:Head):List UInt8:=fillF (mapF h.used++rootsF h 8)
theorem textF_len(h:Head):(textF h).length=1024:=fillF_len (by rw[List.length_append,mapF_len,rootsF_len];omega)
def fromF(l:List UInt8)(i:Nat):Int:=256*((l.getD i 0).toNat:Int)+((l.getD (i+1) 0).toNat:Int)
def readsF(l:List UInt8):Head where
 used i:=i==0||(l.getD (i/8) 0).toNat/2^(i % 8) % 2==1
 roots i:=fromF l (250+4*i)
 notes i:=fromF l (252+4*i)
def sumStep(n:Nat)(c:UInt8):Nat:=((n^^^c.toNat)*1099511628211) % 18446744073709551616
def sumN(l:List (List UInt8)):Nat:=l.foldl (fun n s=>s.foldl sumStep n) 14695981039346656037
def low8(n:Nat):Nat->List UInt8
 |0=>[]
 |k+1=>low8 n k++[(n/256^k).toUInt8]
theorem low8_len(n:Nat):∀k,(low8 n k).length=k
 |0=>rfl
 |k+1=>by rw[low8,List.length_append,low8_len n k];rfl
def sumF(l:List (List UInt8)):List UInt8:=low8 (sumN l) 8
def noteHead(ps:List Nat):List UInt8:=two8 (ps.length:Int)++mapF fun i=>ps.contains i
theorem noteHead_len(ps:List Nat):(noteHead ps).length=252:=by
 unfold noteHead
 rw[List.length_append,mapF_len]
 rfl
def noteF(ps:List Nat)(l:List (List UInt8)):List UInt8:=fillF (noteHead ps++sumF (noteHead ps::l))
def zerosB:ByteArray:=⟨(Lib.repeatL [0] 1024).toArray⟩
def pgGet(pg:Nat->ByteArray)(k:Nat):ByteArray:=if(pg k).toList.isEmpty then zerosB else pg k
def pgPut(pg:Nat->ByteArray)(k:Nat)(s:ByteArray):Nat->ByteArray:=fun i=>if i=k then s else pg i
def DiskAt(w:World)(B:Nat)(pg:Nat->ByteArray)(cut:Bool)(left torn:Int):Prop:=
 (∀k,k<4001->w.cell? ⟨B,k,none⟩=some (.string (pg k)))/\w.cell? ⟨B,4001,none⟩=some (.bool cut)/\w.cell? ⟨B,4002,none⟩=some (.int .i64 left)/\w.cell? ⟨B,4003,none⟩=some (.int .i64 torn)/\∀o,w.frozen? ⟨B,o,none⟩=false
theorem DiskAt.gr{w w':World}{B:Nat}{pg:Nat->ByteArray}{cut:Bool}{left torn:Int}(h:DiskAt w B pg cut left torn)(g:Gr w w'):DiskAt w' B pg cut left torn:=
 ⟨fun k hk=>g.keeps (h.1 k hk),g.keeps h.2.1,g.keeps h.2.2.1,g.keeps h.2.2.2.1,fun o=>(g.frozen o (lt_of_cell h.2.1)).trans (h.2.2.2.2 o)⟩
theorem cell_off{w:World}{B o p:Nat}{u v:Value}(h:o≠p)(hc:w.cell? ⟨B,o,none⟩=some v):(w.setCell ⟨B,p,none⟩ u).cell? ⟨B,o,none⟩=some v:=
 (World.cell?_setCell_other _ _ _ _ (fun e=>h (congrArg Addr.off e).symm)).trans hc
theorem grownBy_setCell(w:World)(B o:Nat)(u:Value):w.grownBy (w.setCell ⟨B,o,none⟩ u) (some B):=
 ⟨rfl,rfl,rfl,by simp,fun k _ hne=>Below.heap_setCell _ _ _ _ (fun e=>hne (by rw[e]))⟩
theorem grown_of_gr{w w':World}(g:Gr w w')(row:Option Nat):w.grownBy w' row:=⟨g.os,g.tape,g.output,g.size,fun k hk _=>g.block k hk⟩
theorem DiskAt.putLeft{w:World}{B:Nat}{pg:Nat->ByteArray}{cut:Bool}{left torn:Int}(h:DiskAt w B pg cut left torn)(n:Int):DiskAt (w.setCell ⟨B,4002,none⟩ (.int .i64 n)) B pg cut n torn:=
 ⟨fun k hk=>cell_off (by omega) (h.1 k hk),cell_off (by omega) h.2.1,World.cell?_setCell_same _ _ _ h.2.2.1,cell_off (by omega) h.2.2.2.1,fun o=>by simpa using h.2.2.2.2 o⟩
theorem DiskAt.putTorn{w:World}{B:Nat}{pg:Nat->ByteArray}{cut:Bool}{left torn:Int}(h:DiskAt w B pg cut left torn)(n:Int):DiskAt (w.setCell ⟨B,4003,none⟩ (.int .i64 n)) B pg cut left n:=
 ⟨fun k hk=>cell_off (by omega) (h.1 k hk),cell_off (by omega) h.2.1,cell_off (by omega) h.2.2.1,World.cell?_setCell_same _ _ _ h.2.2.2.1,fun o=>by simpa using h.2.2.2.2 o⟩
theorem DiskAt.putPage{w:World}{B:Nat}{pg:Nat->ByteArray}{cut:Bool}{left torn:Int}(h:DiskAt w B pg cut left torn){k:Nat}(hk:k<4001)(s:ByteArray):DiskAt (w.setCell ⟨B,k,none⟩ (.string s)) B (pgPut pg k s) cut left torn:=by
 refine⟨fun i hi=>?_,cell_off (by omega) h.2.1,cell_off (by omega) h.2.2.1,cell_off (by omega) h.2.2.2.1,fun o=>by simpa using h.2.2.2.2 o⟩
 unfold pgPut
 by_cases e:i=k
 ·subst e
  rw[if_pos rfl]
  exact World.cell?_setCell_same _ _ _ (h.1 i hi)
 ·rw[if_neg e]
  exact cell_off e (h.1 i hi)
def onB(cut:Bool)(left:Int):Bool:=!cut||decide (0<left)
theorem data_ext{a b:ByteArray}(h:a.data.toList=b.data.toList):a=b:=by
 cases a;cases b;simp only[ByteArray.mk.injEq];exact Array.ext' h
theorem on_d(B:Nat)(pg:Nat->ByteArray)(cut:Bool)(left torn:Int)(w:World)(h:DiskAt w B pg cut left torn):Calls Tryz.prog 192 #[.pointer (some ⟨B,0,none⟩)] w (Ret w (.bool (onB cut left))):=by
 have h1:=h.2.1
 have h2:=h.2.2.1
 clear h
 go_enter Tryz.func192,Tryz.ntmps192
 go_wp2
 all_goals
  go_ret
  refine Ret.mk ?_ (Gr.refl _)
  simp_all [onB]
theorem repeat_t(s:ByteArray)(c:Nat)(w:World)(hc:c<=100000)(hs:s.size<=100000):Calls Tryz.prog 139 #[.string s,.int .i64 c] w (Ret w (.string ⟨(Lib.repeatL s.data.toList c).toArray⟩)):=by
 refine(Tryz.strings_Repeat s c w (by omega) (by have:=Nat.mul_le_mul hs hc;omega)).mono ?_
 rintro e w1 ⟨rfl,hg1⟩
 exact⟨rfl,hg1⟩
theorem repeat_zero(w:World):Calls Tryz.prog 139 #[.string ⟨#[0]⟩,.int .i64 1024] w (Ret w (.string zerosB)):=repeat_t ⟨#[0]⟩ 1024 w (by omega) (by decide)
theorem read_d(B:Nat)(pg:Nat->ByteArray)(cut:Bool)(left torn:Int)(k:Nat)(hk:k<4001)(w:World)(h:DiskAt w B pg cut left torn):
  Calls Tryz.prog 81 #[.pointer (some ⟨B,0,none⟩),.int .i64 k] w (Ret w (.tuple #[.string (pgGet pg k),.nilIface])):=by
 have h1:=h.1 k hk
 clear h
 go_enter Tryz.func81,Tryz.ntmps81
 cases hb:(pg k).toList.isEmpty
 ·go_wp2_with fail
  all_goals first|omega|skip
  go_ret2
  refine Ret.mk ?_ (Gr.refl _)
  unfold pgGet
  rw[if_neg (by rw[hb];decide)]
  rfl
 ·go_wp2_with fail
  all_goals first|omega|skip
  refine(repeat_zero w).mono ?_
  rintro e w1 ⟨rfl,hg1⟩
  go_wp2_with fail
  go_ret2
  refine Ret.mk ?_ hg1
  unfold pgGet
  rw[if_pos hb]
  rfl
def clampT(t:Int):Nat:=(min (max t 0) 1024).toNat
def tearB(s old:ByteArray)(n:Nat):List UInt8:=s.data.toList.take n++old.data.toList.drop n
def tearS(s old:ByteArray)(n:Nat):ByteArray:=⟨(tearB s old n).toArray⟩
theorem write_on(B:Nat)(pg:Nat->ByteArray)(cut:Bool)(left torn:Int)(k:Nat)(hk:k<4001)(s:ByteArray)(hs:s.size=1024)(hon:onB cut left=true)(hl:-1000000<=left/\left<=9223372036854775807)(w:World)(h:DiskAt w B pg cut left torn):
  Calls Tryz.prog 137 #[.pointer (some ⟨B,0,none⟩),.int .i64 k,.string s] w fun e w'=>e=.returned .nilIface/\DiskAt w' B (pgPut pg k s) cut (left-1) torn/\w.grownBy w' (some B):=by
 have H:=Lib.hid h
 clear h
 have hs':((s.size:Int) !=1024)=false:=by simp;omega
 go_enter Tryz.func137,Tryz.ntmps137
 go_wp2_with fail
 refine(read_d B pg cut left torn k hk w H.out).mono ?_
 rintro e w1 ⟨rfl,hg1⟩
 have H1:=Lib.hid (H.out.gr hg1)
 go_wp2_with fail
 refine(on_d B pg cut left torn w1 H1.out).mono ?_
 rintro e w2 ⟨rfl,hg2⟩
 rw[hon]
 have H2:=Lib.hid (H1.out.gr hg2)
 have c2:=H2.out.2.2.1
 have z2:=H2.out.2.2.2.2 4002
 have ck:=H2.out.1 k hk
 have zk:=H2.out.2.2.2.2 k
 go_wp2_with fail
 go_ret
 exact⟨rfl,(H2.out.putLeft _).putPage hk s,((grown_of_gr (hg1.trans hg2) _).trans (grownBy_setCell _ _ _ _)).trans (grownBy_setCell _ _ _ _)⟩
theorem write_off(B:Nat)(pg:Nat->ByteArray)(cut:Bool)(left torn:Int)(k:Nat)(hk:k<4001)(s:ByteArray)(hs:s.size=1024)(hon:onB cut left=false)(hp:(pgGet pg k).size=1024)(w:World)(h:DiskAt w B pg cut left torn):
  Calls Tryz.prog 137 #[.pointer (some ⟨B,0,none⟩),.int .i64 k,.string s] w fun e w'=>e=.returned (.iface 24 (.int .i64 14))/\DiskAt w' B (pgPut pg k (tearS s (pgGet pg k) (clampT torn))) cut left 0/\w.grownBy w' (some B):=by
 have H:=Lib.hid h
 clear h
 have hs':((s.size:Int) !=1024)=false:=by simp;omega
 go_enter Tryz.func137,Tryz.ntmps137
 go_wp2_with fail
 refine(read_d B pg cut left torn k hk w H.out).mono ?_
 rintro e w1 ⟨rfl,hg1⟩
 have H1:=Lib.hid (H.out.gr hg1)
 go_wp2_with fail
 refine(on_d B pg cut left torn w1 H1.out).mono ?_
 rintro e w2 ⟨rfl,hg2⟩
 rw[hon]
 have H2:=Lib.hid (H1.out.gr hg2)
 have c3:=H2.out.2.2.2.1
 have z3:=H2.out.2.2.2.2 4003
 have ck:=H2.out.1 k hk
 have zk:=H2.out.2.2.2.2 k
 generalize hold:pgGet pg k=old at*
 have HOLD:=Lib.hid hold
 clear hold
 have hcl:min (max torn 0) 1024=((clampT torn:Nat):Int):=by unfold clampT;omega
 have hcn:clampT torn<=1024:=by unfold clampT;omega
 generalize hcln:clampT torn=n at*
 have HCLN:=Lib.hid hcln
 clear hcln
 have ha:∀w,(Op.stringOp .add (s.extract 0 n) (old.extract n 1024)).run Tryz.prog w=.ok (.string (tearS s old n)) w:=fun w=>by
  rw[run_string_add_sum w _ _ (by rw[ByteArray.size_extract,ByteArray.size_extract];omega)]
  congr 2
  apply data_ext
  rw[ByteArray.data_append,Array.toList_append,Lib.extract_data,Lib.extract_data,<-hp]
  show _=tearB s old n
  unfold tearB
  rw[List.drop_zero,Nat.sub_zero,List.take_of_length_le (l:=List.drop n _) (by rw[List.length_drop,<-size_data];exact Nat.le_refl _)]
 go_wp2_with fail
 go_region
 go_wp2
 go_ret
 refine⟨rfl,?_,(((grown_of_gr (hg1.trans hg2) _).trans (grownBy_setCell _ _ _ _)).trans (grownBy_setCell _ _ _ _)).trans (grown_of_gr (Gr.refl _).drew _)⟩
 rw[HOLD.out,HCLN.out]
 exact((H2.out.putPage hk _).putTorn 0).gr (Gr.refl _).drew
theorem repeat_replicate(c:UInt8):∀n,Lib.repeatL [c] n=List.replicate n c
 |0=>rfl
 |n+1=>by
  rw[List.replicate_succ,<-repeat_replicate c n]
  rfl
theorem zerosB_fill:zerosB.data.toList=fillF []:=by
 show(Lib.repeatL [0] 1024).toArray.toList=[]++List.replicate (1024-([]:List UInt8).length) 0
 rw[List.toList_toArray,repeat_replicate,List.nil_append,List.length_nil]
theorem two_g(n:Int)(w:World):Calls Tryz.prog 189 #[.int .i64 n] w (Ret w (.string ⟨(two8 n).toArray⟩)):=by
 have hu1:IntKind.u8.wrap (n/256)=((((n/256) % 256).toNat.toUInt8).toNat:Int):=by
  show(n/256) % 256=_
  simp
  omega
 have hu2:IntKind.u8.wrap n=(((n % 256).toNat.toUInt8).toNat:Int):=by
  show n % 256=_
  simp
  omega
 have H8:Hid (two8 n=[((n/256) % 256).toNat.toUInt8,(n % 256).toNat.toUInt8]):=Lib.hid rfl
 generalize((n/256) % 256).toNat.toUInt8=a at*
 generalize(n % 256).toNat.toUInt8=b at*
 have hc:∀w:World,(convert 188 9 (.slice (some ⟨w.heap.size,0,none⟩) 2 2)).run Tryz.prog (w.alloc (.cells #[.int .u8 (a.toNat:Int),.int .u8 (b.toNat:Int)] 5))=.ok (.string ⟨#[a,b]⟩) (w.alloc (.cells #[.int .u8 (a.toNat:Int),.int .u8 (b.toNat:Int)] 5)):=fun w=>
  own_string (a0:=w) (l:=[a,b]) (World.ownsRow_lit w #[.int .u8 (a.toNat:Int),.int .u8 (b.toNat:Int)] 2 (Nat.le_refl _) (by decide) rfl)
 go_enter Tryz.func189,Tryz.ntmps189
 go_wp2_with fail
 go_ret
 exact Ret.mk (by rw[H8.out];rfl) ((Gr.refl w).alloc _)
theorem add_bytes(l m:List UInt8)(h:l.length+m.length<=100000000000):∀w,(Op.stringOp .add ⟨l.toArray⟩ ⟨m.toArray⟩).run Tryz.prog w=.ok (.string ⟨(l++m).toArray⟩) w:=fun w=>by
 rw[run_string_add_sum w _ _ (by rw[ba_len,ba_len];omega),ByteArray.mk_append_mk]
theorem or_byte_i(U c:Nat)(hU:U<256)(hc:c<256):bits BinOp.or IntKind.i64 ((U:Int)*256) (c:Int)=256*(U:Int)+(c:Int):=by
 have e:((U:Int)*256)=((U*256:Nat):Int):=by omega
 rw[e]
 show IntKind.i64.wrap ((BitVec.ofInt 64 ((U*256:Nat):Int)|||BitVec.ofInt 64 (c:Int)).toNat:Int)=_
 rw[BitVec.toNat_or,ofInt_64 _ (by omega),ofInt_64 _ (by omega),IntKind.wrap_i64]
 have h:=Nat.two_pow_add_eq_or_of_lt (i:=8) (b:=c) hc U
 rw[Nat.mul_comm]at h
 rw[show(2:Nat)^8=256 from rfl]at h
 rw[<-h]
 omega
theorem from_g(s:ByteArray)(hs:2<=s.size)(w:World):Calls Tryz.prog 140 #[.string s] w fun e w'=>e=.returned (.int .i64 (fromF s.data.toList 0))/\w'=w.drew:=by
 have h0:0<s.size:=by omega
 have h1:1<s.size:=by omega
 have e0:s[0]=s.data.toList.getD 0 0:=by
  rw[get_data s 0 h0,List.getD_eq_getElem?_getD,List.getElem?_eq_getElem (by rw[<-size_data];exact h0)]
  rfl
 have e1:s[1]=s.data.toList.getD (0+1) 0:=by
  rw[get_data s 1 h1,List.getD_eq_getElem?_getD,List.getElem?_eq_getElem (by rw[<-size_data];exact h1)]
  rfl
 have HF:Hid (fromF s.data.toList 0=256*((s[0].toNat:Nat):Int)+((s[1].toNat:Nat):Int)):=Lib.hid (by rw[e0,e1];rfl)
 have ho:=or_byte_i s[0].toNat s[1].toNat (s[0].toNat_lt) (s[1].toNat_lt)
 have hw:wrap64 ((s[0].toNat:Int)*256)=(s[0].toNat:Int)*256:=by
  have:=s[0].toNat_lt
  unfold wrap64
  omega
 have hwa:wrap64 (s[0].toNat:Int)=(s[0].toNat:Int):=by
  have:=s[0].toNat_lt
  unfold wrap64
  omega
 have hwb:wrap64 (s[1].toNat:Int)=(s[1].toNat:Int):=by
  have:=s[1].toNat_lt
  unfold wrap64
  omega
 clear e0 e1
 generalize hA:s[0]=a at*
 generalize hB:s[1]=b at*
 go_enter Tryz.func140,Tryz.ntmps140
 go_wp2_with fail
 go_region
 go_wp2_with fail
 go_ret
 refine⟨?_,rfl⟩
 rw[HF.out]
 rfl
theorem ba_eta(l:List UInt8):(⟨l.toArray⟩:ByteArray).data.toList=l:=by show l.toArray.toList=l;simp
theorem fill_g(s:ByteArray)(hs:s.size<=1024)(w:World):Calls Tryz.prog 138 #[.string s] w (Ret w (.string ⟨(fillF s.data.toList).toArray⟩)):=by
 have hr:∀w,Calls Tryz.prog 139 #[.string ⟨#[0]⟩,.int .i64 (1024-(s.size:Int))] w (Ret w (.string ⟨(List.replicate (1024-s.size) (0:UInt8)).toArray⟩)):=fun w=>by
  have:=repeat_t ⟨#[0]⟩ (1024-s.size) w (by omega) (show 1<=100000 by omega)
  rw[show((1024-s.size:Nat):Int)=1024-(s.size:Int)by omega]at this
  rw[<-repeat_replicate]
  exact this
 have ha:∀w,(Op.stringOp .add s ⟨(List.replicate (1024-s.size) (0:UInt8)).toArray⟩).run Tryz.prog w=.ok (.string ⟨(fillF s.data.toList).toArray⟩) w:=fun w=>by
  rw[run_string_add_sum w _ _ (by rw[ba_len (List.replicate (1024-s.size) 0),List.length_replicate];omega)]
  congr 2
 have hw:IntKind.i64.wrap (1024-(s.size:Int))=1024-(s.size:Int):=by rw[IntKind.wrap_i64];omega
 generalize(⟨(fillF s.data.toList).toArray⟩:ByteArray)=r at*
 generalize(⟨(List.replicate (1024-s.size) (0:UInt8)).toArray⟩:ByteArray)=z at*
 go_enter Tryz.func138,Tryz.ntmps138
 go_wp2_with fail
 refine(hr w).mono ?_
 rintro e w1 ⟨rfl,hg1⟩
 go_wp2_with fail
 go_ret
 exact Ret.mk rfl hg1
def datas(l:List ByteArray):List (List UInt8):=l.map fun s=>s.data.toList
theorem xor64(n c:Nat)(hn:n<18446744073709551616)(hc:c<256):bits BinOp.xor IntKind.u64 (n:Int) (c:Int)=((n^^^c:Nat):Int):=by
 show IntKind.u64.wrap ((BitVec.ofInt 64 (n:Int)^^^BitVec.ofInt 64 (c:Int)).toNat:Int)=_
 rw[BitVec.toNat_xor,ofInt_64 _ (by omega),ofInt_64 _ (by omega),IntKind.wrap_u64]
 have h:n^^^c<2^64:=Nat.xor_lt_two_pow (by omega) (by omega)
 omega
theorem sumStep_lt(n:Nat)(c:UInt8):sumStep n c<18446744073709551616:=Nat.mod_lt _ (by omega)
theorem foldl_lt:∀(l:List UInt8) (n:Nat),n<18446744073709551616->l.foldl sumStep n<18446744073709551616
 |[],_,h=>h
 |c::l,n,_=>foldl_lt l _ (sumStep_lt n c)
theorem sums_lt:∀(l:List (List UInt8)) (n:Nat),n<18446744073709551616->l.foldl (fun n s=>s.foldl sumStep n) n<18446744073709551616
 |[],_,h=>h
 |s::l,n,h=>sums_lt l _ (foldl_lt s n h)
theorem take_fold{α β:Type}(f:β->α->β)(b:β)(l:List α)(k:Nat)(hk:k<l.length):(l.take (k+1)).foldl f b=f ((l.take k).foldl f b) l[k]:=by
 rw[List.take_succ_eq_append_getElem hk,List.foldl_append]
 rfl
theorem sum_g(l:List ByteArray)(v:Value)(w:World)(h:RowV Value.string w v l)(hl:l.length<=1000000)(hs:∀i (h:i<l.length),l[i].size<=1000000):
  Calls Tryz.prog 191 #[v] w (Ret w (.string ⟨(sumF (datas l)).toArray⟩)):=by
 obtain⟨i0,hi,hz0,hz1,hz2⟩:=info_parts info_u8
 have H:=Lib.hid h
 have HS:=Lib.hid hs
 obtain⟨ao,ca,rfl⟩:=h.form
 clear h hs
 go_enter Tryz.func191,Tryz.ntmps191
 go_wp2_with fail
 go_loopw [10,3] (fun kv nv w'=>∃i n:Nat,i<=l.length/\kv=.int .i64 i/\nv=.int .u64 n/\n=((datas l).take i).foldl (fun n s=>s.foldl sumStep n) 14695981039346656037/\w'=w) (fun kv _ _=>l.length-(intOf kv).toNat)
 case atStart=>exact⟨0,_,Nat.zero_le _,rfl,rfl,rfl,rfl⟩
 case round=>
  obtain⟨i,n,hi1,rfl,rfl,hn,rfl⟩:=hrel
  have hn64:n<18446744073709551616:=by
   rw[hn]
   exact sums_lt _ _ (by omega)
  have HN:=Lib.hid hn
  clear hn
  by_cases hlt:i<l.length
  ·obtain⟨b,off,rfl,hc⟩:=H.out.at hlt
   have c0:=hc i hlt
   have hsz:=HS.out i hlt
   have hdl:i<(datas l).length:=by simpa[datas]using hlt
   have HNX:=Lib.hid (take_fold (fun n s=>s.foldl sumStep n) 14695981039346656037 (datas l) i hdl)
   have hdi:(datas l)[i]=l[i].data.toList:=by simp[datas]
   have HDI:=Lib.hid hdi
   clear hc hdi
   generalize l[i]=t at*
   go_wp2_with fail
   go_loopw [16,3] (fun kv nv w'=>∃k m:Nat,k<=t.size/\kv=.int .i64 k/\nv=.int .u64 m/\m=(t.data.toList.take k).foldl sumStep n/\w'=wr) (fun kv _ _=>t.size-(intOf kv).toNat)
   case atStart=>exact⟨0,_,Nat.zero_le _,rfl,rfl,rfl,rfl⟩
   case round=>
    obtain⟨k,m,hk,rfl,rfl,hm,rfl⟩:=hrel
    have hm64:m<18446744073709551616:=by
     rw[hm]
     exact foldl_lt _ _ hn64
    have HM:=Lib.hid hm
    clear hm
    by_cases hlk:k<t.size
    ·have hkd:k<t.data.toList.length:=by rw[<-size_data];exact hlk
     have HMX:=Lib.hid (take_fold sumStep n t.data.toList k hkd)
     have HG:=Lib.hid (get_data t k hlk)
     have hx:=xor64 m t[k].toNat hm64 t[k].toNat_lt
     have hst:IntKind.u64.wrap (bits BinOp.xor IntKind.u64 (m:Int) (IntKind.u64.wrap (t[k].toNat:Int))*1099511628211)=((sumStep m t[k]:Nat):Int):=by
      have hw:IntKind.u64.wrap (t[k].toNat:Int)=(t[k].toNat:Int):=by
       have:=t[k].toNat_lt
       rw[IntKind.wrap_u64]
       omega
      rw[hw,hx,IntKind.wrap_u64]
      unfold sumStep
      generalize m^^^t[k].toNat=x
      omega
     have HST:=Lib.hid hst
     clear hx hst
     go_wp2_with fail
     refine⟨⟨k+1,sumStep m t[k],by omega,by go_num,by rw[HST.out],?_,trivial⟩,by simp[intOf];omega⟩
     rw[HMX.out,<-HM.out,HG.out]
    ·obtain rfl:k=t.size:=by omega
     have hmm:m=((datas l).take (i+1)).foldl (fun n s=>s.foldl sumStep n) 14695981039346656037:=by
      rw[HNX.out,<-HN.out,HDI.out,HM.out,List.take_of_length_le (by rw[<-size_data];exact Nat.le_refl _)]
     have HMM:=Lib.hid hmm
     clear hmm
     go_wp2_with fail
     exact⟨⟨i+1,m,by omega,by go_num,rfl,HMM.out,trivial⟩,by simp[intOf];omega⟩
  ·obtain rfl:i=l.length:=by omega
   have hnn:n=sumN (datas l):=by
    rw[HN.out,List.take_of_length_le (by simp[datas])]
    rfl
   have HNN:=Lib.hid hnn
   clear hnn
   rename World=>wa
   go_wp2_with fail
   go_loopw [28,3,7] (fun kv nv bv w'=>∃k:Nat,k<=8/\kv=.int .i64 k/\nv=.int .u64 ((n/256^k:Nat):Int)/\OwnB wa w' bv (low8 n k)/\Gr wa w') (fun kv _ _ _=>8-(intOf kv).toNat)
   case atStart=>exact⟨0,Nat.zero_le _,rfl,by simp,World.ownsRow_nil _ _ _ _,Gr.refl _⟩
   case round=>
    obtain⟨k,hk,rfl,rfl,ho,hg⟩:=hrel
    have HO:=Lib.hid ho
    clear ho
    have hll:=low8_len n k
    have hd64:n/256^k<18446744073709551616:=Nat.lt_of_le_of_lt (Nat.div_le_self _ _) hn64
    by_cases hlk:k<8
    ·have hb:IntKind.u8.wrap ((n/256^k:Nat):Int)=(((n/256^k).toUInt8.toNat:Nat):Int):=by
      show _ % 256=((n/256^k % 256:Nat):Int)
      omega
     have hnk:((n/256^k:Nat):Int)/256=((n/256^(k+1):Nat):Int):=by
      rw[Nat.pow_succ,<-Nat.div_div_eq_div_mul]
      omega
     have HLN:Hid (low8 n (k+1)=low8 n k++[(n/256^k).toUInt8]):=Lib.hid rfl
     generalize hnx:n/256^(k+1)=nx at*
     have HNV:=Lib.hid hnx
     clear hnx
     generalize(n/256^k).toUInt8=c at*
     generalize n/256^k=q at*
     have HNK:=Lib.hid hnk
     clear hnk
     go_wp2_with(at_builtin;(refine append_one (a0:=wa) rfl _ _ 188 rfl 5 i0 (.int .u8 0) 1 1 Tryz.underlying188 hi hz0 hz1 hz2 rfl (by decide) _ _ _ rfl (OwnB.row HO.out) [_] rfl (by intro u hu;simp at hu;subst hu;rfl) rfl hg (by omega) (by omega) ?_))
     intro v4 w4 hown4 hg4
     go_wp2_with fail
     refine⟨⟨k+1,by omega,by go_num,by rw[HNV.out,HNK.out],?_,hg4⟩,by simp[intOf];omega⟩
     rw[HLN.out]
     exact own_snoc (by rw[byteV,low8_len];exact hown4)
    ·obtain rfl:k=8:=by omega
     have hco:=own_string HO.out
     go_wp2_with fail
     go_ret
     refine Ret.mk ?_ hg
     rw[sumF,<-HNN.out]
     rfl
end
section
open Go Go.RowKit Go.Maps
def MapAt(w:World)(M n:Nat)(F:Int->Option ByteArray):Prop:=
 ∃D:DataW Unit,w.ownsMap Tryz.prog 3 (plainElem Tryz.prog 9) M n D/\
  ∀k:Int,(Lit.int .i64 k).wf=true->Maps.has D (.int .i64 k)=(F k).isSome/\∀z,D.atKey (.int .i64 k) z=match F k with|none=>z|some s=>.lit (.string s.data.toList)
theorem keyI:Keyed Tryz.prog 3:=int_keyed Tryz.underlying3
theorem MapAt.kept{w w':World}{M n:Nat}{F:Int->Option ByteArray}{row:Option Nat}(h:MapAt w M n F)(g:w.grownBy w' row)(hne:some M≠row):MapAt w' M n F:=by
 obtain⟨D,h1,h2⟩:=h
 exact⟨D,h1.kept g hne,h2⟩
theorem MapAt.gr{w w':World}{M n:Nat}{F:Int->Option ByteArray}(h:MapAt w M n F)(g:Gr w w'):MapAt w' M n F:=h.kept (grown_of_gr g none) (by simp)
theorem MapAt.made(w:World):MapAt (w.alloc (.map #[] 0)) w.heap.size 0 (fun _=>none):=
 ⟨.map [],World.ownsMap_made w _ _ _,fun _ _=>⟨rfl,fun _=>rfl⟩⟩
theorem wfI{k:Int}(h:-9223372036854775808<=k/\k<=9223372036854775807):(Lit.int .i64 k).wf=true:=by
 simp[Lit.wf,IntKind.min,IntKind.max,IntKind.bits,IntKind.signed]
 omega
theorem zeroS(w:World):(zeroValue 9).run Tryz.prog w=.ok (.string ⟨#[]⟩) w:=by kernel_rfl
theorem MapAt.look{w:World}{M n:Nat}{F:Int->Option ByteArray}(h:MapAt w M n F){k:Int}(hk:-9223372036854775808<=k/\k<=9223372036854775807):
  (Instr.lookup 152 (.map (some M)) (.int .i64 k) true).run Tryz.prog w=.ok (.tuple #[.string ((F k).getD ⟨#[]⟩),.bool (F k).isSome]) w:=by
 obtain⟨D,h1,h2⟩:=h
 obtain⟨e1,e2⟩:=h2 k (wfI hk)
 obtain⟨v,ps,hrun,hv⟩:=h1.look_ok (t:=152) (e:=9) keyI Tryz.underlying152 (zeroS w) (plainElem_string Tryz.underlying9 (by decide)) (keyOf_int_mk Tryz.underlying3 (wfI hk))
 rw[hrun,e1]
 rw[e2]at hv
 obtain⟨s,rfl,hz,_⟩:=plainElem_string_inv Tryz.underlying9 hv
 have:s=(F k).getD ⟨#[]⟩:=by
  apply data_ext
  cases hF:F k with
  |none=>
   rw[hF]at hz
   simp only[Prod.mk.injEq,DataW.lit.injEq,Lit.string.injEq]at hz
   exact hz.1.symm
  |some u=>
   rw[hF]at hz
   simp only[Prod.mk.injEq,DataW.lit.injEq,Lit.string.injEq]at hz
   exact hz.1.symm
 rw[this]
theorem MapAt.store{w:World}{M n:Nat}{F:Int->Option ByteArray}(h:MapAt w M n F)(hn:n<1000000){k:Int}(hk:-9223372036854775808<=k/\k<=9223372036854775807)(s:ByteArray)(hs:s.size<=9223372036854775807):
  ∃w',(Instr.mapUpdate 152 (.map (some M)) (.int .i64 k) (.string s)).run Tryz.prog w=.ok () w'/\MapAt w' M (n+1) (fun i=>if i=k then some s else F i)/\w.grownBy w' (some M):=by
 obtain⟨D,h1,h2⟩:=h
 obtain⟨w',hrun,ho,hg⟩:=h1.update (t:=152) (e:=9) keyI Tryz.underlying152 (by unfold maxLen;omega) (keyOf_int_mk Tryz.underlying3 (wfI hk)) (plainElem_string Tryz.underlying9 (s:=s) (by unfold maxLen;exact hs))
 refine⟨w',hrun,⟨_,ho,fun i hi=>?_⟩,hg⟩
 have hmap:=h1.isMap
 by_cases e:i=k
 ·subst e
  simp only[if_true]
  exact⟨Maps.has_put_same hmap (show WideAt.IsKeyLit (.int .i64 i)from trivial) _,fun z=>Maps.atKey_put_same hmap (show WideAt.IsKeyLit (.int .i64 i)from trivial) _ z⟩
 ·have hne:(Lit.int .i64 i)≠(Lit.int .i64 k):=by
   intro h
   injection h with _ h
   exact e h
  simp only[if_neg e]
  rw[Maps.has_put_other hne]
  exact⟨(h2 i hi).1,fun z=>by rw[Maps.atKey_put_other hne];exact(h2 i hi).2 z⟩
end
section
open Go Go.RowKit
theorem DiskAt.keepX{S:Nat->Prop}{w w':World}{B:Nat}{pg:Nat->ByteArray}{cut:Bool}{left torn:Int}(h:DiskAt w B pg cut left torn)(g:GrX S w w')(hs:¬S B):DiskAt w' B pg cut left torn:=
 ⟨fun k hk=>g.keeps hs (h.1 k hk),g.keeps hs h.2.1,g.keeps hs h.2.2.1,g.keeps hs h.2.2.2.1,fun o=>(g.frozen o (lt_of_cell h.2.1) hs).trans (h.2.2.2.2 o)⟩
theorem MapAt.block{w w':World}{M n:Nat}{F:Int->Option ByteArray}(h:MapAt w M n F)(hb:w'.heap[M]?=w.heap[M]?):MapAt w' M n F:=by
 obtain⟨D,⟨es,clock,h1,h2⟩,h3⟩:=h
 exact⟨D,⟨es,clock,hb.trans h1,h2⟩,h3⟩
theorem MapAt.lt{w:World}{M n:Nat}{F:Int->Option ByteArray}(h:MapAt w M n F):M<w.heap.size:=by
 obtain⟨D,⟨es,clock,h1,h2⟩,h3⟩:=h
 exact(Array.getElem?_eq_some_iff.1 h1).1
theorem MapAt.keepX{S:Nat->Prop}{w w':World}{M n:Nat}{F:Int->Option ByteArray}(h:MapAt w M n F)(g:GrX S w w')(hs:¬S M):MapAt w' M n F:=h.block (g.block h.lt hs)
structure HeadAt(w:World)(B o:Nat)(h:Head):Prop where
 used:∀i,i<2000->w.cell? ⟨B,o+i,none⟩=some (.bool (h.used i))
 root:∀i,i<8->w.cell? ⟨B,o+2000+i,none⟩=some (.int .i64 (h.roots i))
 note:∀i,i<8->w.cell? ⟨B,o+2008+i,none⟩=some (.int .i64 (h.notes i))
theorem HeadAt.same{w:World}{B o:Nat}{h g:Head}(a:HeadAt w B o h)(s:h.same g):HeadAt w B o g:=
 ⟨fun i hi=>by rw[a.used i hi,s.1 i hi],fun i hi=>by rw[a.root i hi,(s.2 i hi).1],fun i hi=>by rw[a.note i hi,(s.2 i hi).2]⟩
theorem HeadAt.gr{w w':World}{B o:Nat}{h:Head}(a:HeadAt w B o h)(g:Gr w w'):HeadAt w' B o h:=
 ⟨fun i hi=>g.keeps (a.used i hi),fun i hi=>g.keeps (a.root i hi),fun i hi=>g.keeps (a.note i hi)⟩
theorem HeadAt.keepX{S:Nat->Prop}{w w':World}{B o:Nat}{h:Head}(a:HeadAt w B o h)(g:GrX S w w')(hs:¬S B):HeadAt w' B o h:=
 ⟨fun i hi=>g.keeps hs (a.used i hi),fun i hi=>g.keeps hs (a.root i hi),fun i hi=>g.keeps hs (a.note i hi)⟩
theorem HeadAt.range{w:World}{B o:Nat}{h:Head}(a:HeadAt w B o h):w.rangeAt B o h.cells:=fun j v hv=>by
 have hj:j<2016:=by
  have:=(List.getElem?_eq_some_iff.1 hv).1
  rw[h.cells_len]at this
  exact this
 rcases Nat.lt_or_ge j 2000 with h1|h1
 ·rw[h.cells_used h1]at hv
  rw[a.used j h1,hv]
 ·rcases Nat.lt_or_ge j 2008 with h2|h2
  ·obtain⟨i,rfl⟩:∃i,j=2000+i:=⟨j-2000,by omega⟩
   rw[h.cells_root (show i<8 by omega)]at hv
   rw[<-Nat.add_assoc,a.root i (by omega),hv]
  ·obtain⟨i,rfl⟩:∃i,j=2008+i:=⟨j-2008,by omega⟩
   rw[h.cells_note (show i<8 by omega)]at hv
   rw[<-Nat.add_assoc,a.note i (by omega),hv]
theorem HeadAt.of_range{w:World}{B o:Nat}{h:Head}(r:w.rangeAt B o h.cells):HeadAt w B o h:=
 ⟨fun i hi=>r i _ (h.cells_used hi),fun i hi=>by rw[Nat.add_assoc];exact r (2000+i) _ (h.cells_root hi),fun i hi=>by rw[Nat.add_assoc];exact r (2008+i) _ (h.cells_note hi)⟩
theorem HeadAt.box(w:World)(h:Head)(t:TypeId):HeadAt (w.alloc (.cells h.cells.toArray t)) w.heap.size 0 h:=
 .of_range fun j v hv=>by
  rw[World.cell?_alloc_new,Nat.zero_add]
  simpa using hv
theorem HeadAt.there{w:World}{B o:Nat}{h:Head}(a:HeadAt w B o h)(hf:∀j,w.frozen? ⟨B,j,none⟩=false):w.there B o 2016:=fun j hj=>
 ⟨a.range.isSome j (by rw[h.cells_len];exact hj),hf _⟩
theorem HeadAt.far{w:World}{B o:Nat}{h:Head}(a:HeadAt w B o h)(p:Nat)(u:Value)(hp:p<o\/o+2016<=p):HeadAt (w.setCell ⟨B,p,none⟩ u) B o h:=
 ⟨fun i hi=>cell_off (by omega) (a.used i hi),fun i hi=>cell_off (by omega) (a.root i hi),fun i hi=>cell_off (by omega) (a.note i hi)⟩
theorem HeadAt.put{w:World}{B o:Nat}{h:Head}(a:HeadAt w B o h){k:Nat}(hk:k<2000)(b:Bool):HeadAt (w.setCell ⟨B,o+k,none⟩ (.bool b)) B o (h.put k b):=
 ⟨fun i hi=>by
  show _=some (Value.bool (if i=k then b else h.used i))
  by_cases e:i=k
  ·subst e
   rw[if_pos rfl]
   exact World.cell?_setCell_same _ _ _ (a.used i hi)
  ·rw[if_neg e]
   exact cell_off (by omega) (a.used i hi),fun i hi=>cell_off (by omega) (a.root i hi),fun i hi=>cell_off (by omega) (a.note i hi)⟩
def Head.putRoot(h:Head)(i:Nat)(p:Int):Head:={h with roots:=fun j=>if j=i then p else h.roots j}
def Head.putNote(h:Head)(i:Nat)(n:Int):Head:={h with notes:=fun j=>if j=i then n else h.notes j}
theorem Head.put_both(h:Head)(i:Nat)(p n:Int):(h.putRoot i p).putNote i n=h.setRoot i p n:=rfl
theorem HeadAt.putRoot{w:World}{B o:Nat}{h:Head}(a:HeadAt w B o h){k:Nat}(hk:k<8)(p:Int):HeadAt (w.setCell ⟨B,o+2000+k,none⟩ (.int .i64 p)) B o (h.putRoot k p):=
 ⟨fun i hi=>cell_off (by omega) (a.used i hi),fun i hi=>by
  show _=some (Value.int .i64 (if i=k then p else h.roots i))
  by_cases e:i=k
  ·subst e
   rw[if_pos rfl]
   exact World.cell?_setCell_same _ _ _ (a.root i hi)
  ·rw[if_neg e]
   exact cell_off (by omega) (a.root i hi),fun i hi=>cell_off (by omega) (a.note i hi)⟩
theorem HeadAt.putNote{w:World}{B o:Nat}{h:Head}(a:HeadAt w B o h){k:Nat}(hk:k<8)(p:Int):HeadAt (w.setCell ⟨B,o+2008+k,none⟩ (.int .i64 p)) B o (h.putNote k p):=
 ⟨fun i hi=>cell_off (by omega) (a.used i hi),fun i hi=>cell_off (by omega) (a.root i hi),fun i hi=>by
  show _=some (Value.int .i64 (if i=k then p else h.notes i))
  by_cases e:i=k
  ·subst e
   rw[if_pos rfl]
   exact World.cell?_setCell_same _ _ _ (a.note i hi)
  ·rw[if_neg e]
   exact cell_off (by omega) (a.note i hi)⟩
theorem HeadAt.over{w:World}{B o:Nat}{h:Head}(a:HeadAt w B o h)(hf:∀j,w.frozen? ⟨B,j,none⟩=false)(g:Head):HeadAt (w.setCells B o g.cells) B o g:=
 .of_range (World.rangeAt_setCells_same w B o g.cells (by rw[g.cells_len];exact a.there hf))
theorem HeadAt.overFar{w:World}{B o:Nat}{h:Head}(a:HeadAt w B o h)(o':Nat)(g:Head)(hap:o+2016<=o'\/o'+2016<=o):HeadAt (w.setCells B o' g.cells) B o h:=
 .of_range (World.rangeAt_setCells_apart a.range B o' g.cells (by rw[h.cells_len,g.cells_len];omega))
theorem cell_setCells_far{w:World}{B p o:Nat}{v:Value}(hc:w.cell? ⟨B,p,none⟩=some v)(g:Head)(hap:p<o\/o+2016<=p):(w.setCells B o g.cells).cell? ⟨B,p,none⟩=some v:=by
 rw[World.cell?_setCells_out B g.cells o w ⟨B,p,none⟩ (fun _ _=>by rw[g.cells_len];exact hap)]
 exact hc
theorem setCells_block(B:Nat):∀(vs:List Value) (o:Nat) (w:World),GrX (fun k=>k=B) w (w.setCells B o vs)
 |[],_,w=>GrX.refl _ w
 |v::vs,o,w=>(GrX.setCell (S:=fun k=>k=B) (p:=⟨B,o,none⟩) w v rfl).trans (setCells_block B vs (o+1) _)
def head0:Head:=⟨fun _=>false,fun _=>0,fun _=>0⟩
theorem zeroHead:Tryz.zeroCells156=Array.replicate 2000 (.bool false)++Array.replicate 16 (.int .i64 0):=by kernel_rfl
theorem head_new(w:World):HeadAt (w.alloc (.cells Tryz.zeroCells156 156)) w.heap.size 0 head0:=by
 rw[zeroHead]
 refine⟨fun i hi=>?_,fun i hi=>?_,fun i hi=>?_⟩
 ·rw[World.cell?_alloc_new,Array.getElem?_append_left (by simpa using hi)]
  simp[hi,head0]
 ·rw[World.cell?_alloc_new,Array.getElem?_append_right (by simp),Array.getElem?_eq_getElem (by simp;omega),Array.getElem_replicate]
  rfl
 ·rw[World.cell?_alloc_new,Array.getElem?_append_right (by simp;omega),Array.getElem?_eq_getElem (by simp;omega),Array.getElem_replicate]
  rfl
theorem quiet_load_mid{P:Program}{C:World->Prop}{K:Act->Prop}{a:Act}{o:Oper}(ty:TypeId)(x:Operand)(ho:o.op=.load ty x)(b off:Nat)(hx:a.eval x=.pointer (some ⟨b,off,none⟩))(cs:List Value)(d:TypeDesc)(hc:∀w,C w->w.rangeAt b off cs)
  (hu:P.underlying ty=some d) (hd:d.isRow=true) (hi:(P.info? ty).map (·.size)=some cs.length) (hk:K (a.put o.dst (.agg cs.toArray))):o.quiet P a C K:=
 ⟨_,fun w hw=>by
  unfold Oper.quietAt execOp
  simp only[ho,hx,Instr.loadAt,Instr.sureAddr,Sem.run_bind,Sem.run_pure,Result.andThen_ok,run_loadVar_mid w b off ty cs d (hc w hw) hu hd hi]
  exact⟨rfl,rfl⟩,hk⟩
theorem results_cell{P:Program}{fn:Func}{a:Nat}{t:TypeId}{tmps:Array Value}{w:World}{p:Addr}{v:Value}(hr:fn.results=#[ResultVar.cell a t])(ht:tmps.getD a undef=.pointer (some p))(hl:(loadVar t p).run P w=.ok v w):
  (results fn tmps).run P w=.ok v w:=by
 have ht':tmps[a]?.getD undef=.pointer (some p):=by simpa using ht
 simp[results,hr,ht',asAddr,hl]
theorem Head.arr_len(h:Head):h.cells.toArray.size=2016:=by rw[List.size_toArray,Head.cells_len]
theorem info_head:(Tryz.prog.info? 156).map (·.size)=some 2016:=by kernel_rfl
theorem and_one8(n:Nat)(h:n<256):bits BinOp.and IntKind.u8 (n:Int) 1=((n % 2:Nat):Int):=by
 show IntKind.u8.wrap ((BitVec.ofInt 8 (n:Int)&&&BitVec.ofInt 8 ((1:Nat):Int)).toNat:Int)=_
 have e:∀m:Nat,m<256->(BitVec.ofInt 8 (m:Int)).toNat=m:=fun m hm=>by
  rw[BitVec.toNat_ofInt]
  omega
 rw[BitVec.toNat_and,e n h,e 1 (by omega),Nat.and_two_pow_sub_one_eq_mod n 1]
 show((n % 2^1:Nat):Int) % 256=_
 omega
def bitF(l:List UInt8)(i:Nat):Bool:=(l.getD (i/8) 0).toNat/2^(i % 8) % 2==1
def readsTo(l:List UInt8)(i:Nat):Head:=⟨fun j=>decide (j<i)&&bitF l j,fun _=>0,fun _=>0⟩
theorem readsTo_next(l:List UInt8)(i:Nat):((readsTo l i).put i (bitF l i)).same (readsTo l (i+1)):=
 ⟨fun j hj=>by
  show(if j=i then bitF l i else decide (j<i)&&bitF l j)=(decide (j<i+1)&&bitF l j)
  by_cases e:j=i
  ·subst e
   rw[if_pos rfl,decide_eq_true (Nat.lt_succ_self j),Bool.true_and]
  ·rw[if_neg e]
   congr 1
   rw[decide_eq_decide]
   omega,fun _ _=>⟨rfl,rfl⟩⟩
theorem extract_drop(s:ByteArray)(a b:Nat)(hb:s.size<=b):(s.extract a b).data.toList=s.data.toList.drop a:=by
 rw[Lib.extract_data,List.take_of_length_le]
 rw[List.length_drop,<-size_data]
 omega
theorem fromF_drop(l:List UInt8)(k i:Nat):fromF (l.drop k) i=fromF l (k+i):=by
 unfold fromF
 simp only[List.getD_eq_getElem?_getD,List.getElem?_drop]
 rw[Nat.add_assoc]
def readsOn(l:List UInt8)(n:Nat):Head:=⟨fun j=>bitF l j,fun j=>if j<n then fromF l (250+4*j)else 0,fun j=>if j<n then fromF l (252+4*j)else 0⟩
theorem readsOn_next(l:List UInt8)(n:Nat):((readsOn l n).setRoot n (fromF l (250+4*n)) (fromF l (252+4*n))).same (readsOn l (n+1)):=
 ⟨fun _ _=>rfl,fun j hj=>by
  constructor
  ·show(if j=n then fromF l (250+4*n)else if j<n then fromF l (250+4*j)else 0)=if j<n+1 then fromF l (250+4*j)else 0
   by_cases e:j=n
   ·subst e
    rw[if_pos rfl,if_pos (by omega)]
   ·rw[if_neg e]
    by_cases e2:j<n
    ·rw[if_pos e2,if_pos (by omega)]
    ·rw[if_neg e2,if_neg (by omega)]
  ·show(if j=n then fromF l (252+4*n)else if j<n then fromF l (252+4*j)else 0)=if j<n+1 then fromF l (252+4*j)else 0
   by_cases e:j=n
   ·subst e
    rw[if_pos rfl,if_pos (by omega)]
   ·rw[if_neg e]
    by_cases e2:j<n
    ·rw[if_pos e2,if_pos (by omega)]
    ·rw[if_neg e2,if_neg (by omega)]⟩
theorem readsOn_all(l:List UInt8):((readsOn l 8).put 0 true).same (readsF l):=
 ⟨fun j hj=>by
  show(if j=0 then true else bitF l j)=(j==0||bitF l j)
  by_cases e:j=0
  ·subst e
   rfl
  ·rw[if_neg e,show(j==0)=false by simpa using e,Bool.false_or],fun j hj=>by
  constructor
  ·show(if j<8 then fromF l (250+4*j)else 0)=fromF l (250+4*j)
   rw[if_pos hj]
  ·show(if j<8 then fromF l (252+4*j)else 0)=fromF l (252+4*j)
   rw[if_pos hj]⟩
theorem reads_g(s:ByteArray)(hs:s.size=1024)(w:World):Calls Tryz.prog 82 #[.string s] w (Ret w (.agg (readsF s.data.toList).cells.toArray)):=by
 go_enter Tryz.func82,Tryz.ntmps82
 go_wp2_with fail
 have z0:HeadAt ((w.alloc (.cells Tryz.zeroCells156 156)).alloc (.cells Tryz.zeroCells156 156)) w.heap.size 0 head0:=(head_new w).gr ((Gr.refl _).alloc _)
 have z1:HeadAt ((w.alloc (.cells Tryz.zeroCells156 156)).alloc (.cells Tryz.zeroCells156 156)) (w.heap.size+1) 0 head0:=by
  have:=head_new (w.alloc (.cells Tryz.zeroCells156 156))
  simpa using this
 have f0:∀j,((w.alloc (.cells Tryz.zeroCells156 156)).alloc (.cells Tryz.zeroCells156 156)).frozen? ⟨w.heap.size,j,none⟩=false:=fun j=>by simp
 have f1:∀j,((w.alloc (.cells Tryz.zeroCells156 156)).alloc (.cells Tryz.zeroCells156 156)).frozen? ⟨w.heap.size+1,j,none⟩=false:=fun j=>by simp
 have hg0:Gr w ((w.alloc (.cells Tryz.zeroCells156 156)).alloc (.cells Tryz.zeroCells156 156)):=((Gr.refl w).alloc _).alloc _
 generalize((w.alloc (.cells Tryz.zeroCells156 156)).alloc (.cells Tryz.zeroCells156 156))=w0 at*
 have HS:=Lib.hid hs
 go_loopw [7] (fun kv w'=>∃i:Nat,i<=2000/\kv=.int .i64 i/\HeadAt w' (w.heap.size+1) 0 (readsTo s.data.toList i)/\HeadAt w' w.heap.size 0 head0/\(∀j,w'.frozen? ⟨w.heap.size,j,none⟩=false)/\(∀j,w'.frozen? ⟨w.heap.size+1,j,none⟩=false)/\Gr w w') (fun kv _=>2000-(intOf kv).toNat)
 case atStart=>exact⟨0,Nat.zero_le _,rfl,z1.same ⟨fun j _=>by simp[readsTo,head0],fun _ _=>⟨rfl,rfl⟩⟩,z0,f0,f1,hg0⟩
 case round=>
  obtain⟨i,hi,rfl,ha,hb,hfa,hfb,hg⟩:=hrel
  by_cases hlt:i<2000
  ·have c0:=ha.used i hlt
   have c1:=hfb i
   rw[Nat.zero_add]at c0
   have hq:i/8<s.size:=by omega
   have hbv:(bits BinOp.and IntKind.u8 ((s[i/8].toNat:Int)/2^(i % 8)) 1==1)=bitF s.data.toList i:=by
    have e0:s[i/8]=s.data.toList.getD (i/8) 0:=by
     rw[get_data s (i/8) hq,List.getD_eq_getElem?_getD,List.getElem?_eq_getElem (by rw[<-size_data];exact hq)]
     rfl
    have e1:((s[i/8].toNat:Int)/2^(i % 8))=((s[i/8].toNat/2^(i % 8):Nat):Int):=by push_cast;rfl
    rw[e1,and_one8 _ (Nat.lt_of_le_of_lt (Nat.div_le_self _ _) s[i/8].toNat_lt),e0]
    unfold bitF
    generalize(s.data.toList.getD (i/8) 0).toNat/2^(i % 8)=x
    rcases Nat.mod_two_eq_zero_or_one x with h|h<;>rw[h]<;>rfl
   have HB:=Lib.hid hbv
   clear hbv
   go_wp2_with fail
   refine⟨⟨i+1,by omega,by go_num,?_,hb.keepX (GrX.setCell (S:=fun k=>k=w.heap.size+1) wr _ rfl) (by omega),fun j=>by simpa using hfa j,fun j=>by simpa using hfb j,hg.setCell (by simp) _⟩,by simp[intOf];omega⟩
   rw[HB.out]
   have:=ha.put hlt (bitF s.data.toList i)
   rw[Nat.zero_add]at this
   exact this.same (readsTo_next _ _)
  ·have hi2:i=2000:=by omega
   subst hi2
   go_wp2_with fail
   go_loopw [23] (fun kv w'=>∃i:Nat,i<=8/\kv=.int .i64 i/\HeadAt w' (w.heap.size+1) 0 (readsOn s.data.toList i)/\HeadAt w' w.heap.size 0 head0/\(∀j,w'.frozen? ⟨w.heap.size,j,none⟩=false)/\(∀j,w'.frozen? ⟨w.heap.size+1,j,none⟩=false)/\Gr w w') (fun kv _=>8-(intOf kv).toNat)
   case atStart=>exact⟨0,Nat.zero_le _,rfl,ha.same ⟨fun j hj=>by simp[readsTo,readsOn,hj],fun _ _=>by simp[readsTo,readsOn]⟩,hb,hfa,hfb,hg⟩
   case round=>
    obtain⟨i,hi,rfl,ha,hb,hfa,hfb,hg⟩:=hrel
    by_cases hlt:i<8
    ·have c0:=ha.root i hlt
     have c1:=ha.note i hlt
     have z0:=hfb (2000+i)
     have z1:=hfb (2008+i)
     rw[Nat.zero_add]at c0 c1
     have hsz:(s.extract (250+4*i) 1024).size=774-4*i:=by rw[ByteArray.size_extract];omega
     have hbd:250+4*(i:Int)<=(s.size:Int):=by omega
     go_wp2_with fail
     obtain⟨t,hT⟩:∃t,s.extract (250+4*i) 1024=t:=⟨_,rfl⟩
     have e1:fromF t.data.toList 0=fromF s.data.toList (250+4*i):=by
      rw[<-hT,extract_drop s _ _ (by omega),fromF_drop,Nat.add_zero]
     have e2:fromF (t.extract 2 t.size).data.toList 0=fromF s.data.toList (252+4*i):=by
      rw[extract_drop t _ _ (Nat.le_refl _),<-hT,extract_drop s _ _ (by omega),List.drop_drop,fromF_drop]
      congr 1
      omega
     rw[hT]at hsz⊢
     have ht2:(2:Int)<=(t.size:Int):=by omega
     have r1:=fun w=>from_g t (by omega) w
     rw[e1]at r1
     have r2:=fun w=>from_g (t.extract 2 t.size) (by rw[ByteArray.size_extract];omega) w
     rw[e2]at r2
     clear hsz hT e1 e2
     generalize hq0:fromF s.data.toList (250+4*i)=q0 at r1
     generalize hq1:fromF s.data.toList (252+4*i)=q1 at r2
     have HQ0:=Lib.hid hq0
     have HQ1:=Lib.hid hq1
     clear hq0 hq1
     go_region_with(first
      |( go_at_call_of 140 (Value.string t);refine(r1 _).mono ?_;rintro e w2 ⟨rfl,rfl⟩)
      |( go_at_call 140;refine(r2 _).mono ?_;rintro e w2 ⟨rfl,rfl⟩))
     all_goals
      go_wp2_with fail
      go_roundw
      case rel=>
        refine⟨_,_,_,_,_,_,_,_,_,_,_,_,_,_,_,_,_,_,_,_,_,_,?_,rfl⟩
        have g3:∀W:World,Gr W W.drew.drew.drew:=fun W=>(((Gr.refl W).drew).drew).drew
        have ha1:=(ha.putRoot hlt q0).putNote hlt q1
        rw[Nat.zero_add,Nat.zero_add,Head.put_both]at ha1
        have hx:=(GrX.setCell (S:=fun k=>k=w.heap.size+1) (p:=⟨w.heap.size+1,2000+i,none⟩) wr (.int .i64 q0) rfl).trans (GrX.setCell (p:=⟨w.heap.size+1,2008+i,none⟩) _ (.int .i64 q1) rfl)
        refine⟨i+1,by omega,by go_num,?_,(hb.keepX hx (by omega)).gr (g3 _),fun j=>by simpa using hfa j,fun j=>by simpa using hfb j,(hx.gr hg (fun k hk=>by omega)).trans (g3 _)⟩
        rw[<-HQ0.out,<-HQ1.out]at ha1
        rw[<-HQ0.out,<-HQ1.out]
        exact(ha1.same (readsOn_next _ _)).gr (g3 _)
      case measure=>
        simp[intOf]
        omega
    ·have hi8:i=8:=by omega
     subst hi8
     have c0:=ha.used 0 (by omega)
     have z0:=hfb 0
     rw[Nat.zero_add]at c0
     have ha2:=(ha.put (show 0<2000 by omega) true).same (readsOn_all s.data.toList)
     rw[Nat.zero_add]at ha2
     have hx:=GrX.setCell (S:=fun k=>k=w.heap.size+1) (p:=⟨w.heap.size+1,0,none⟩) wr (.bool true) rfl
     have hb2:=hb.keepX hx (by omega)
     have hf2:∀j,(wr.setCell ⟨w.heap.size+1,0,none⟩ (.bool true)).frozen? ⟨w.heap.size,j,none⟩=false:=fun j=>by simpa using hfa j
     have hgx:=hx.gr hg (fun k hk=>by omega)
     have hth:(wr.setCell ⟨w.heap.size+1,0,none⟩ (.bool true)).there w.heap.size 0 (readsF s.data.toList).cells.toArray.size:=by
      rw[Head.arr_len]
      exact hb2.there hf2
     have HRG:=Lib.hid ha2.range
     have HTH:=Lib.hid hth
     clear hth
     have ho:=hb2.over hf2 (readsF s.data.toList)
     have hgy:=(setCells_block w.heap.size (readsF s.data.toList).cells 0 (wr.setCell ⟨w.heap.size+1,0,none⟩ (.bool true))).gr hgx (fun k hk=>by omega)
     have HO:=Lib.hid ho
     have HGY:=Lib.hid hgy
     clear ha2 hb2 ho hgy ha hb hfa hfb hf2
     go_wp2_with(first
      |( refine wpList_load_mid rfl 156 _ rfl (w.heap.size+1) 0 rfl _ _ HRG.out Tryz.underlying156 rfl (by rw[info_head,Head.cells_len]) ?_)
      |( refine wpList_store_mid rfl 156 _ _ rfl w.heap.size 0 _ rfl rfl HTH.out (by rw[info_head,Head.arr_len]) (all_oneCell_toArray (Head.cells_one _)) ?_))
     refine bodyPost_ret (v:=.agg (readsF s.data.toList).cells.toArray) ?_ rfl ⟨rfl,HGY.out⟩
     have hld:=run_loadVar_mid (P:=Tryz.prog) ((wr.setCell ⟨w.heap.size+1,0,none⟩ (.bool true)).setCells w.heap.size 0 (readsF s.data.toList).cells) w.heap.size 0 156 _ _ HO.out.range Tryz.underlying156 rfl (by rw[info_head,Head.cells_len])
     exact results_cell rfl rfl hld
def Bld(B b:Nat)(l:List UInt8)(w:World):Prop:=Lib.IsBuilder 274 5 B b (Lib.byteCells l) w
theorem Bld.gr{B b:Nat}{l:List UInt8}{w w':World}(h:Bld B b l w)(g:Gr w w'):Bld B b l w':=by
 rcases h with⟨h1,v,h2,h3,h4⟩|⟨h1,v,h2,h3,h4⟩
 ·exact .inl ⟨h1,v,(g.block _ (Array.getElem?_eq_some_iff.1 h2).1).trans h2,ownsRow_gr h3 g,h4⟩
 ·exact .inr ⟨h1,v,(g.block _ (Array.getElem?_eq_some_iff.1 h2).1).trans h2,ownsRow_gr h3 g,h4⟩
theorem bld_info:(Tryz.prog.info? 274).map (·.size)=some 2:=by kernel_rfl
theorem bld_lies:liesAt Tryz.prog Tryz.prog.depth 274 (2/Tryz.prog.cellsOf 274) 0 274 1=true:=by kernel_rfl
theorem Bld.new(w:World):Bld w.heap.size w.heap.size [] (w.alloc (.cells #[.pointer none,.slice none 0 0] 274)):=Lib.fresh_isBuilder _ _ w
theorem copyCheck_b(B b:Nat)(bs:List Value)(w:World)(h:Lib.IsBuilder 274 5 B b bs w):
  Calls Tryz.prog 247 #[.pointer (some ⟨b,0,none⟩)] w fun e w'=>e=.returned (.tuple #[])/\Lib.BuilderAt 274 5 B b (.pointer (some ⟨b,0,none⟩)) bs w'/\Below B w w':=by
 obtain⟨j,hj,hjs⟩:=Option.map_eq_some_iff.1 bld_info
 rcases h with h|h
 ·have h0:=h.cell0
  have hf:=h.frozen0
  have hu:=Lib.run_to_unsafe (P:=Tryz.prog) (w:=w) ⟨b,0,none⟩ Tryz.underlying272 Tryz.underlying252 hj (by rw[hjs];decide) h.shape (Nat.zero_lt_succ 1)
  have hv:=Lib.run_from_unsafe (P:=Tryz.prog) (w:=w) ⟨b,0,none⟩ Tryz.underlying252 Tryz.underlying272 hj h.shape bld_lies
  have H:=Lib.hid h
  clear h
  go_enter Tryz.func247,Tryz.ntmps247
  go_wp2_with fail
  rw[run_callFunc_extern Tryz.func286 (by kernel_rfl) (by kernel_rfl) (by kernel_rfl) (e:=Extern.AbiNoEscape.same) (by kernel_rfl),Lib.run_noEscape]
  simp only[Result.andThen]
  rw[Oper.upon_value]
  go_wp2_with fail
  refine bodyPost_end (v:=.tuple #[]) (by simp[results,Tryz.results247,go_sem]) rfl ?_
  exact⟨rfl,H.out.used _,(Below.refl B w).setCell (p:=⟨b,0,none⟩) H.out.1 _⟩
 ·have h0:=h.cell0
  have hn:=Lib.run_neq_ptr_same (P:=Tryz.prog) (w:=w) ⟨b,0,none⟩ Tryz.underlying272 hj
  have H:=Lib.hid h
  clear h
  go_enter Tryz.func247,Tryz.ntmps247
  go_wp2_with fail
  refine bodyPost_end (v:=.tuple #[]) (by simp[results,Tryz.results247,go_sem]) rfl ?_
  exact⟨rfl,H.out,Below.refl B _⟩
theorem info_u8b:(Tryz.prog.info? 5).map (fun i=>(i.zero,i.size,i.bytes))=some (some (.int .u8 0),1,1):=by kernel_rfl
theorem bld_ne:(274:TypeId)≠5:=by decide
theorem bld_old{w w2:World}{b:Nat}{o:Obj}{row:Option Nat}{v:Value}(hb:w.heap[b]?=some o)(hg:w.grownBy w2 row)(hr:row=v.ownBlock)(hne:v.ownBlock≠some b):w2.heap[b]?=some o:=by
 rw[hg.block b (Array.getElem?_eq_some_iff.1 hb).1 (fun e=>hne (by rw[<-hr,<-e]))]
 exact hb
theorem writeString_b(B b:Nat)(l:List UInt8)(s:ByteArray)(w:World)(h:Bld B b l w)(hl:l.length+s.size<=1000000)(hB:B<=w.heap.size):
  Calls Tryz.prog 195 #[.pointer (some ⟨b,0,none⟩),.string s] w fun e w'=>e=.returned (.tuple #[.int .i64 s.size,.nilIface])/\Bld B b (l++s.data.toList) w'/\Below B w w':=by
 obtain⟨i0,hi,hz0,hz1,hz2⟩:=info_parts info_u8b
 have H:=Lib.hid h
 clear h
 go_enter Tryz.func195,Tryz.ntmps195
 go_wp2_with fail
 refine(copyCheck_b B b _ w H.out).mono ?_
 rintro e w1 ⟨rfl,h1,hb1⟩
 have H1:=Lib.hid h1
 obtain⟨hBb,v,hbk,hown,hne⟩:=h1
 have hlen:(Lib.byteCells l).length=l.length:=Lib.byteCells_length l
 have c0:w1.cell? ⟨b,0,none⟩=some (.pointer (some ⟨b,0,none⟩)):=by rw[Lib.cell_of_heap hbk];rfl
 have c1:w1.cell? ⟨b,1,none⟩=some v:=by rw[Lib.cell_of_heap hbk];rfl
 have hsz:=hb1.size
 go_wp2_with(at_builtin;refine Lib.wpList_append_own_string _ rfl _ _ 188 9 rfl B 5 i0 Tryz.underlying188 Tryz.underlying9 hi hz0 hz1 hz2 _ _ _ rfl hown s rfl (by unfold maxLen;omega) (by omega) (by omega) ?_)
 intro v' w2 hown' hgrow _
 have hb2:=bld_old hbk hgrow rfl hne
 have d0:w2.cell? ⟨b,0,none⟩=some (.pointer (some ⟨b,0,none⟩)):=by rw[Lib.cell_of_heap hb2];rfl
 have d1:w2.cell? ⟨b,1,none⟩=some v:=by rw[Lib.cell_of_heap hb2];rfl
 have f1:w2.frozen? ⟨b,1,none⟩=false:=Lib.frozen_of_heap hb2 1
 have hput:Lib.BuilderAt 274 5 B b (.pointer (some ⟨b,0,none⟩)) (Lib.byteCells (l++s.data.toList)) (w2.setCell ⟨b,1,none⟩ v'):=by
  refine Lib.BuilderAt.put hBb hb2 ?_ bld_ne
  rw[Lib.byteCells_append,List.length_append,Lib.byteCells_length s.data.toList,Lib.byteCells_length l,<-size_data]
  exact hown'
 have hbel:=(hb1.grown hgrow (by omega) (fun k hk=>(hown.lt k hk).1)).setCell (p:=⟨b,1,none⟩) hBb v'
 have HP:=Lib.hid hput
 have HB:=Lib.hid hbel
 clear hput hbel
 obtain⟨ao,n',cap,rfl⟩:∃ao n' cap,v'=.slice ao n' cap:=by
  rcases hown'.2 with⟨hv,_⟩|⟨g,cap,cur,hv,_⟩
  ·exact⟨_,_,_,hv⟩
  ·exact⟨_,_,_,hv⟩
 clear hown hown' hgrow hb2 hbk
 go_wp2_with fail
 go_ret2
 exact⟨rfl,.inr HP.out,HB.out⟩
theorem writeByte_b(B b:Nat)(l:List UInt8)(c:UInt8)(w:World)(h:Bld B b l w)(hl:l.length+1<=1000000)(hB:B<=w.heap.size):
  Calls Tryz.prog 244 #[.pointer (some ⟨b,0,none⟩),.int .u8 (c.toNat:Int)] w fun e w'=>e=.returned .nilIface/\Bld B b (l++[c]) w'/\Below B w w':=by
 obtain⟨i0,hi,hz0,hz1,hz2⟩:=info_parts info_u8b
 have H:=Lib.hid h
 clear h
 generalize hq:((c.toNat:Nat):Int)=q
 have HQ:=Lib.hid hq
 clear hq
 go_enter Tryz.func244,Tryz.ntmps244
 go_wp2_with fail
 refine(copyCheck_b B b _ w H.out).mono ?_
 rintro e w1 ⟨rfl,h1,hb1⟩
 have H1:=Lib.hid h1
 obtain⟨hBb,v,hbk,hown,hne⟩:=h1
 have hlen:(Lib.byteCells l).length=l.length:=Lib.byteCells_length l
 have c0:w1.cell? ⟨b,0,none⟩=some (.pointer (some ⟨b,0,none⟩)):=by rw[Lib.cell_of_heap hbk];rfl
 have c1:w1.cell? ⟨b,1,none⟩=some v:=by rw[Lib.cell_of_heap hbk];rfl
 have hsz:=hb1.size
 have hnew:∀j u,([Value.int .u8 q])[j]?=some u->(w1.alloc (.cells #[.int .u8 q] 5)).cell? ((⟨w1.heap.size,0,none⟩:Addr).add j)=some u:=by
  intro j u hj
  match j,hj with
  |0,hj=>simp at hj;subst hj;simp[Addr.add]
 go_wp2_with(at_builtin;refine wpList_append_own _ rfl _ _ 188 rfl B 5 i0 (.int .u8 0) 1 1 Tryz.underlying188 hi hz0 hz1 hz2 rfl (by decide) _ _ _ rfl (hown.alloc _) ⟨w1.heap.size,0,none⟩ 1 1 [.int .u8 q] rfl rfl hnew (by intro u hu;simp at hu;subst hu;rfl) (by unfold maxLen;omega) (by omega) (by simp;omega) ?_)
 intro v' w2 hown' hgrow _
 have hb2:=bld_old (v:=v) ((Below.heap_alloc w1 (.cells #[.int .u8 q] 5) b (Array.getElem?_eq_some_iff.1 hbk).1).trans hbk) hgrow rfl hne
 have d0:w2.cell? ⟨b,0,none⟩=some (.pointer (some ⟨b,0,none⟩)):=by rw[Lib.cell_of_heap hb2];rfl
 have d1:w2.cell? ⟨b,1,none⟩=some v:=by rw[Lib.cell_of_heap hb2];rfl
 have f1:w2.frozen? ⟨b,1,none⟩=false:=Lib.frozen_of_heap hb2 1
 have hput:Lib.BuilderAt 274 5 B b (.pointer (some ⟨b,0,none⟩)) (Lib.byteCells (l++[c])) (w2.setCell ⟨b,1,none⟩ v'):=by
  refine Lib.BuilderAt.put hBb hb2 ?_ bld_ne
  rw[Lib.byteCells_append,List.length_append,Lib.byteCells_length [c]]
  have e:Lib.byteCells [c]=[.int .u8 q]:=by
   rw[<-HQ.out]
   rfl
  rw[e,Lib.byteCells_length l]
  exact hown'
 have hbel:=((hb1.alloc (by omega) (.cells #[.int .u8 q] 5)).grown hgrow (by simp;omega) (fun k hk=>(hown.lt k hk).1)).setCell (p:=⟨b,1,none⟩) hBb v'
 have HP:=Lib.hid hput
 have HB:=Lib.hid hbel
 clear hput hbel
 obtain⟨ao,n',cap,rfl⟩:∃ao n' cap,v'=.slice ao n' cap:=by
  rcases hown'.2 with⟨hv,_⟩|⟨g,cap,cur,hv,_⟩
  ·exact⟨_,_,_,hv⟩
  ·exact⟨_,_,_,hv⟩
 clear hown hown' hgrow hb2 hbk
 go_wp2_with fail
 go_ret
 exact⟨rfl,.inr HP.out,HB.out⟩
