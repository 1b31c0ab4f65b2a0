/-
  Part 3 of the proof.
-/
import Derived.Test.YtldmhjbdahjhdaaGreatDoorZc2
import Derived.Deep.RegionHeld3
set_option maxRecDepth 100000
set_option maxHeartbeats 100000000
set_option linter.all false
namespace Go.Proofs.YtldmhjbdahjhdaaGreatDoor
section
open Go Go.RowKit
theorem below_head{b:Nat}{w w':World}{h:Head}(a:HeadAt w b 0 h)(g:Below (b+1) w w'):HeadAt w' b 0 h:=
 ⟨fun i hi=>by rw[Below.cell (p:=⟨b,0+i,none⟩) g (Nat.lt_succ_self b)];exact a.used i hi,fun i hi=>by rw[Below.cell (p:=⟨b,0+2000+i,none⟩) g (Nat.lt_succ_self b)];exact a.root i hi,fun i hi=>by rw[Below.cell (p:=⟨b,0+2008+i,none⟩) g (Nat.lt_succ_self b)];exact a.note i hi⟩
theorem or_pow8(x k:Nat)(hx:x<2^k)(hk:k<8):bits BinOp.or IntKind.u8 (x:Int) ((2^k:Nat):Int)=((x+2^k:Nat):Int):=by
 show IntKind.u8.wrap ((BitVec.ofInt 8 (x:Int)|||BitVec.ofInt 8 ((2^k:Nat):Int)).toNat:Int)=_
 have hp:2^k<=128:=by
  have:(2:Nat)^k<=2^7:=Nat.pow_le_pow_right (by omega) (by omega)
  omega
 have e:∀m:Nat,m<256->(BitVec.ofInt 8 (m:Int)).toNat=m:=fun m hm=>by
  rw[BitVec.toNat_ofInt]
  omega
 rw[BitVec.toNat_or,e x (by omega),e _ (by omega)]
 have h:=Nat.two_pow_add_eq_or_of_lt (i:=k) (b:=x) hx 1
 rw[Nat.mul_one]at h
 rw[Nat.or_comm,<-h]
 show((2^k+x:Nat):Int) % 256=_
 omega
theorem mapF_next(u:Nat->Bool){m:Nat}(hm:m<250):(mapF u).take (m+1)=(mapF u).take m++[(bits8 u (8*m) 8).toUInt8]:=by
 rw[List.take_succ_eq_append_getElem (by rw[mapF_len];exact hm)]
 simp[mapF]
theorem rootsF_next(h:Head)(n:Nat):rootsF h (n+1)=rootsF h n++(two8 (h.roots n)++two8 (h.notes n)):=by
 unfold rootsF
 rw[List.range_succ,List.flatMap_append]
 simp
theorem index_root0(f:Nat->Int)(W:World):(Instr.index 154 (.agg #[.int .i64 (f 0),.int .i64 (f 1),.int .i64 (f 2),.int .i64 (f 3),.int .i64 (f 4),.int .i64 (f 5),.int .i64 (f 6),.int .i64 (f 7)]) (.int .i64 0)).run Tryz.prog W=.ok (.int .i64 (f 0)) W:=by kernel_rfl
theorem index_root1(f:Nat->Int)(W:World):(Instr.index 154 (.agg #[.int .i64 (f 0),.int .i64 (f 1),.int .i64 (f 2),.int .i64 (f 3),.int .i64 (f 4),.int .i64 (f 5),.int .i64 (f 6),.int .i64 (f 7)]) (.int .i64 1)).run Tryz.prog W=.ok (.int .i64 (f 1)) W:=by kernel_rfl
theorem index_root2(f:Nat->Int)(W:World):(Instr.index 154 (.agg #[.int .i64 (f 0),.int .i64 (f 1),.int .i64 (f 2),.int .i64 (f 3),.int .i64 (f 4),.int .i64 (f 5),.int .i64 (f 6),.int .i64 (f 7)]) (.int .i64 2)).run Tryz.prog W=.ok (.int .i64 (f 2)) W:=by kernel_rfl
theorem index_root3(f:Nat->Int)(W:World):(Instr.index 154 (.agg #[.int .i64 (f 0),.int .i64 (f 1),.int .i64 (f 2),.int .i64 (f 3),.int .i64 (f 4),.int .i64 (f 5),.int .i64 (f 6),.int .i64 (f 7)]) (.int .i64 3)).run Tryz.prog W=.ok (.int .i64 (f 3)) W:=by kernel_rfl
theorem index_root4(f:Nat->Int)(W:World):(Instr.index 154 (.agg #[.int .i64 (f 0),.int .i64 (f 1),.int .i64 (f 2),.int .i64 (f 3),.int .i64 (f 4),.int .i64 (f 5),.int .i64 (f 6),.int .i64 (f 7)]) (.int .i64 4)).run Tryz.prog W=.ok (.int .i64 (f 4)) W:=by kernel_rfl
theorem index_root5(f:Nat->Int)(W:World):(Instr.index 154 (.agg #[.int .i64 (f 0),.int .i64 (f 1),.int .i64 (f 2),.int .i64 (f 3),.int .i64 (f 4),.int .i64 (f 5),.int .i64 (f 6),.int .i64 (f 7)]) (.int .i64 5)).run Tryz.prog W=.ok (.int .i64 (f 5)) W:=by kernel_rfl
theorem index_root6(f:Nat->Int)(W:World):(Instr.index 154 (.agg #[.int .i64 (f 0),.int .i64 (f 1),.int .i64 (f 2),.int .i64 (f 3),.int .i64 (f 4),.int .i64 (f 5),.int .i64 (f 6),.int .i64 (f 7)]) (.int .i64 6)).run Tryz.prog W=.ok (.int .i64 (f 6)) W:=by kernel_rfl
theorem index_root7(f:Nat->Int)(W:World):(Instr.index 154 (.agg #[.int .i64 (f 0),.int .i64 (f 1),.int .i64 (f 2),.int .i64 (f 3),.int .i64 (f 4),.int .i64 (f 5),.int .i64 (f 6),.int .i64 (f 7)]) (.int .i64 7)).run Tryz.prog W=.ok (.int .i64 (f 7)) W:=by kernel_rfl
theorem index_roots(f:Nat->Int)(m:Nat)(hm:m<8):∀W,(Instr.index 154 (.agg #[.int .i64 (f 0),.int .i64 (f 1),.int .i64 (f 2),.int .i64 (f 3),.int .i64 (f 4),.int .i64 (f 5),.int .i64 (f 6),.int .i64 (f 7)]) (.int .i64 (m:Int))).run Tryz.prog W=.ok (.int .i64 (f m)) W:=by
 intro W
 have:m=0\/m=1\/m=2\/m=3\/m=4\/m=5\/m=6\/m=7:=by omega
 rcases this with rfl|rfl|rfl|rfl|rfl|rfl|rfl|rfl
 ·exact index_root0 f W
 ·exact index_root1 f W
 ·exact index_root2 f W
 ·exact index_root3 f W
 ·exact index_root4 f W
 ·exact index_root5 f W
 ·exact index_root6 f W
 ·exact index_root7 f W
theorem text_round{w wr W w4:World}{h:Head}(hg:Gr w wr)(hsz:w.heap.size+1<=wr.heap.size)(ha:HeadAt wr w.heap.size 0 h)(g:Gr wr W)(hb:Below (w.heap.size+1) W w4):HeadAt w4 w.heap.size 0 h/\w.heap.size+1<=w4.heap.size/\Gr w w4:=
 ⟨below_head (ha.gr g) hb,Nat.le_trans hsz (Nat.le_trans g.size hb.size),Below.trans (hg.trans g) (hb.mono (by omega))⟩
theorem text_g(h:Head)(w:World):Calls Tryz.prog 190 #[.agg h.cells.toArray] w (Ret w (.string ⟨(textF h).toArray⟩)):=by
 go_enter Tryz.func190,Tryz.ntmps190
 go_wp2_with fail
 have z0:HeadAt ((w.alloc (.cells h.cells.toArray 156)).alloc (.cells #[.pointer none,.slice none 0 0] 274)) w.heap.size 0 h:=(HeadAt.box w h _).gr ((Gr.refl _).alloc _)
 have z1:Bld (w.heap.size+1) (w.heap.size+1) [] ((w.alloc (.cells h.cells.toArray 156)).alloc (.cells #[.pointer none,.slice none 0 0] 274)):=by
  have:=Bld.new (w.alloc (.cells h.cells.toArray 156))
  simpa using this
 have hg0:Gr w ((w.alloc (.cells h.cells.toArray 156)).alloc (.cells #[.pointer none,.slice none 0 0] 274)):=((Gr.refl w).alloc _).alloc _
 have hs0:w.heap.size+1<=((w.alloc (.cells h.cells.toArray 156)).alloc (.cells #[.pointer none,.slice none 0 0] 274)).heap.size:=by simp
 generalize((w.alloc (.cells h.cells.toArray 156)).alloc (.cells #[.pointer none,.slice none 0 0] 274))=w0 at*
 go_loopw [4] (fun kv w'=>∃m:Nat,m<=250/\kv=.int .i64 (8*(m:Int))/\Bld (w.heap.size+1) (w.heap.size+1) ((mapF h.used).take m) w'/\HeadAt w' w.heap.size 0 h/\w.heap.size+1<=w'.heap.size/\Gr w w') (fun kv _=>2000-(intOf kv).toNat)
 case atStart=>exact⟨0,Nat.zero_le _,rfl,z1,z0,hs0,hg0⟩
 case round=>
  obtain⟨m,hm,rfl,hb,ha,hsz,hg⟩:=hrel
  have HB:=Lib.hid hb
  clear hb
  by_cases hlt:m<250
  ·have hlt2:8*(m:Int)<2000:=by omega
   go_wp2_with fail
   go_loopw [13,5] (fun kv cv w'=>∃k:Nat,k<=8/\kv=.int .i64 k/\cv=.int .u8 (bits8 h.used (8*m) k:Nat)/\w'=wr) (fun kv _ _=>8-(intOf kv).toNat)
   case atStart=>exact⟨0,Nat.zero_le _,rfl,rfl,rfl⟩
   case round=>
    obtain⟨k,hk,rfl,rfl,rfl⟩:=hrel
    by_cases hlk:k<8
    ·have c0:=ha.used (8*m+k) (by omega)
     rw[Nat.zero_add]at c0
     have hlt8:=bits8_lt h.used (8*m) k
     have ho:=or_pow8 _ k hlt8 hlk
     have hp:((2:Int)^k) % 256=((2^k:Nat):Int):=by
      have h1:(2:Nat)^k<=2^7:=Nat.pow_le_pow_right (by omega) (by omega)
      have h2:((2^k:Nat):Int)=(2:Int)^k:=by push_cast;rfl
      rw[<-h2]
      omega
     rw[<-hp]at ho
     have HO:=Lib.hid ho
     have hn:bits8 h.used (8*m) (k+1)=bits8 h.used (8*m) k+if h.used (8*m+k)then 2^k else 0:=rfl
     have HN:=Lib.hid hn
     clear ho hn hp
     cases hu:h.used (8*m+k)
     ·rw[hu]at c0
      have HU:=Lib.hid hu
      clear hu
      go_wp2_with fail
      refine⟨⟨k+1,by omega,by go_num,?_,trivial⟩,by simp[intOf];omega⟩
      rw[HN.out,HU.out]
      rfl
     ·rw[hu]at c0
      have HU:=Lib.hid hu
      clear hu
      go_wp2_with fail
      refine⟨⟨k+1,by omega,by go_num,?_,trivial⟩,by simp[intOf];omega⟩
      rw[HN.out,HU.out,HO.out]
      rfl
    ·obtain rfl:k=8:=by omega
     have hcv:((bits8 h.used (8*m) 8:Nat):Int)=(((bits8 h.used (8*m) 8).toUInt8.toNat:Nat):Int):=by
      have:=bits8_lt h.used (8*m) 8
      show _=((bits8 h.used (8*m) 8 % 256:Nat):Int)
      omega
     have hnx:=mapF_next h.used hlt
     generalize hbb:(bits8 h.used (8*m) 8).toUInt8=c at*
     rw[hcv]
     have HNX:=Lib.hid hnx
     clear hnx hcv hbb
     have hln:((mapF h.used).take m).length=m:=by rw[List.length_take,mapF_len];omega
     go_wp2_with fail
     refine(writeByte_b _ _ _ c wr HB.out (by omega) hsz).mono ?_
     rintro e w2 ⟨rfl,hb2,hbl⟩
     rw[<-HNX.out]at hb2
     have ha2:=below_head ha hbl
     have hg2:Gr w w2:=Below.trans hg (hbl.mono (by omega))
     have hsz2:w.heap.size+1<=w2.heap.size:=Nat.le_trans hsz hbl.size
     have HB2:=Lib.hid hb2
     clear hbl hb2 HNX
     go_wp2_with fail
     exact⟨⟨m+1,by omega,by go_num,HB2.out,ha2,hsz2,hg2⟩,by simp[intOf];omega⟩
  ·obtain rfl:m=250:=by omega
   have hrg:wr.rangeAt w.heap.size 2000 ((List.range 8).map (fun i=>Value.int .i64 (h.roots i))):=fun j v hv=>by
    have hj:j<8:=by simpa using(List.getElem?_eq_some_iff.1 hv).1
    have hv2:v=.int .i64 (h.roots j):=by simpa[hj]using hv.symm
    rw[hv2]
    have:=ha.root j hj
    rw[Nat.zero_add]at this
    exact this
   have HRG:=Lib.hid hrg
   clear hrg
   go_wp2_with(refine wpList_load_mid rfl 154 _ rfl w.heap.size 2000 rfl _ _ HRG.out Tryz.underlying154 rfl (by kernel_rfl) ?_)
   try go_frame
   go_loopw [31] (fun kv w'=>∃m:Nat,m<=8/\kv=.int .i64 m/\Bld (w.heap.size+1) (w.heap.size+1) (mapF h.used++rootsF h m) w'/\HeadAt w' w.heap.size 0 h/\w.heap.size+1<=w'.heap.size/\Gr w w') (fun kv _=>8-(intOf kv).toNat)
   case atStart=>
    refine⟨0,Nat.zero_le _,rfl,?_,ha,hsz,hg⟩
    have:=HB.out
    rw[List.take_of_length_le (by rw[mapF_len];exact Nat.le_refl _)]at this
    simpa[rootsF]using this
   case round=>
    obtain⟨m,hm,rfl,hb,ha,hsz,hg⟩:=hrel
    have HB:=Lib.hid hb
    clear hb
    by_cases hlt:m<8
    ·have hix:=index_roots h.roots m hlt
     have c0:=ha.note m hlt
     rw[Nat.zero_add]at c0
     have HNX:=Lib.hid (rootsF_next h m)
     generalize h.roots m=q0 at*
     generalize h.notes m=q1 at*
     have hln:(mapF h.used++rootsF h m).length=250+4*m:=by rw[List.length_append,mapF_len,rootsF_len]
     have hadd:=add_bytes (two8 q0) (two8 q1) (by simp[two8])
     have hl8:(two8 q0++two8 q1).length=8-4:=by simp[two8]
     have hz8:(⟨(two8 q0++two8 q1).toArray⟩:ByteArray).size=4:=by rw[ba_len,hl8]
     have hws:=fun(W:World) (g:Gr wr W)=>writeString_b (w.heap.size+1) (w.heap.size+1) (mapF h.used++rootsF h m) ⟨(two8 q0++two8 q1).toArray⟩ W (HB.out.gr g) (by omega) (Nat.le_trans hsz g.size)
     clear hl8
     have hw0:=two_g q0
     have hw1:=two_g q1
     generalize two8 q0=t0 at*
     generalize two8 q1=t1 at*
     go_wp2_with fail
     go_region_with(first
      |( go_at_call_of 189 (Value.int IntKind.i64 q0);refine(hw0 _).mono ?_;rintro e w2 ⟨rfl,hga⟩;first|(have k0:=hga.keeps (show World.cell? _ _=some (.int .i64 q1)by simpa using c0))|skip)
      |( go_at_call_of 189 (Value.int IntKind.i64 q1);refine(hw1 _).mono ?_;rintro e w3 ⟨rfl,hgb⟩)
      |( go_at_call 195;refine(hws _ (by
        first
          |(refine Gr.trans ?_ hgb;repeat(with_reducible first|refine Gr.drew ?_|refine Gr.alloc ?_ _)
            refine Gr.trans ?_ hga;repeat(with_reducible first|refine Gr.drew ?_|refine Gr.alloc ?_ _)
            exact Gr.refl _)
          |(refine Gr.trans ?_ hga;repeat(with_reducible first|refine Gr.drew ?_|refine Gr.alloc ?_ _)
            refine Gr.trans ?_ hgb;repeat(with_reducible first|refine Gr.drew ?_|refine Gr.alloc ?_ _)
            exact Gr.refl _))).mono ?_;rintro e w4 ⟨rfl,hb4,hbl4⟩))
     all_goals
      obtain⟨ha4,hsz4,hg4⟩:=text_round hg hsz ha (by
        first
          |(refine Gr.trans ?_ hgb;repeat(with_reducible first|refine Gr.drew ?_|refine Gr.alloc ?_ _)
            refine Gr.trans ?_ hga;repeat(with_reducible first|refine Gr.drew ?_|refine Gr.alloc ?_ _)
            exact Gr.refl _)
          |(refine Gr.trans ?_ hga;repeat(with_reducible first|refine Gr.drew ?_|refine Gr.alloc ?_ _)
            refine Gr.trans ?_ hgb;repeat(with_reducible first|refine Gr.drew ?_|refine Gr.alloc ?_ _)
            exact Gr.refl _)) hbl4
      rw[List.append_assoc,<-HNX.out]at hb4
      clear hbl4 hga hgb
      go_wp2_with fail
      go_roundw
      case rel=>
        exact⟨m+1,by omega,by go_num,hb4,ha4,hsz4,hg4⟩
      case measure=>
        simp[intOf]
        omega
    ·obtain rfl:m=8:=by omega
     have hln:(mapF h.used++rootsF h 8).length=282:=by rw[List.length_append,mapF_len,rootsF_len]
     have hst:=Tryz.Builder_String_any (w.heap.size+1) (w.heap.size+1) _ wr HB.out hsz
     have HTX:Hid (textF h=fillF (mapF h.used++rootsF h 8)):=Lib.hid rfl
     generalize mapF h.used++rootsF h 8=l at*
     go_wp2_with fail
     refine hst.mono ?_
     rintro e w2 ⟨rfl,hbl⟩
     have hg2:Gr w w2:=Below.trans hg (hbl.mono (by omega))
     have hfl:=fill_g ⟨l.toArray⟩ (by rw[ba_len];omega)
     rw[ba_eta,<-HTX.out]at hfl
     clear hbl
     go_wp2_with fail
     refine(hfl w2).mono ?_
     rintro e w3 ⟨rfl,hg3⟩
     go_wp2_with fail
     go_ret
     exact Ret.mk rfl (hg2.trans hg3)
def usedOf(ps:List Nat):Head:=⟨fun j=>ps.contains j,fun _=>0,fun _=>0⟩
theorem usedOf_next(ps:List Nat)(i:Nat)(h:i<ps.length):((usedOf (ps.take i)).put ps[i] true).same (usedOf (ps.take (i+1))):=by
 have hm:∀j,j∈ps.take (i+1)↔j∈ps.take i\/j=ps[i]:=fun j=>by rw[List.take_succ_eq_append_getElem h,List.mem_append,List.mem_singleton]
 refine⟨fun j _=>?_,fun _ _=>⟨rfl,rfl⟩⟩
 show(if j=ps[i]then true else(ps.take i).contains j)=(ps.take (i+1)).contains j
 by_cases e:j=ps[i]
 ·rw[if_pos e,eq_comm,List.contains_iff_mem,hm]
  exact .inr e
 ·rw[if_neg e,Bool.eq_iff_iff,List.contains_iff_mem,List.contains_iff_mem,hm]
  exact⟨.inl,fun h=>h.elim id (fun h=>absurd h e)⟩
theorem textF_take(h:Head):(textF h).take 250=mapF h.used:=by
 unfold textF fillF
 rw[List.append_assoc,List.take_append_of_le_length (by rw[mapF_len];exact Nat.le_refl _),List.take_of_length_le (by rw[mapF_len];exact Nat.le_refl _)]
theorem note_g(ps:List Nat)(l:List ByteArray)(pv lv:Value)(w:World)(hp:RowV natV w pv ps)(hl:RowV Value.string w lv l)(hpl:ps.length<=100000)(hps:∀i (h:i<ps.length),ps[i]<2000)(hll:l.length<=100000)(hls:∀i (h:i<l.length),l[i].size<=1000000):
  Calls Tryz.prog 136 #[pv,lv] w (Ret w (.string ⟨(noteF ps (datas l)).toArray⟩)):=by
 have HP:=Lib.hid hp
 have HL:=Lib.hid hl
 have HPS:=Lib.hid hps
 have HLS:=Lib.hid hls
 obtain⟨po,pc,rfl⟩:=hp.form
 obtain⟨lo,lc,rfl⟩:=hl.form
 clear hp hl hps hls
 go_enter Tryz.func136,Tryz.ntmps136
 go_wp2_with fail
 have z0:=head_new w
 have f0:∀j,(w.alloc (.cells Tryz.zeroCells156 156)).frozen? ⟨w.heap.size,j,none⟩=false:=fun j=>by simp
 have hg0:Gr w (w.alloc (.cells Tryz.zeroCells156 156)):=(Gr.refl w).alloc _
 generalize(w.alloc (.cells Tryz.zeroCells156 156))=w0 at*
 go_loopw [11] (fun kv w'=>∃i:Nat,i<=ps.length/\kv=.int .i64 i/\HeadAt w' w.heap.size 0 (usedOf (ps.take i))/\(∀j,w'.frozen? ⟨w.heap.size,j,none⟩=false)/\Gr w w') (fun kv _=>ps.length-(intOf kv).toNat)
 case atStart=>exact⟨0,Nat.zero_le _,rfl,z0.same ⟨fun j _=>by simp[usedOf,head0],fun _ _=>⟨rfl,rfl⟩⟩,f0,hg0⟩
 case round=>
  obtain⟨i,hi,rfl,ha,hf,hg⟩:=hrel
  by_cases hlt:i<ps.length
  ·obtain⟨b,off,rfl,hc⟩:=(HP.out.gr hg).at hlt
   have c0:=hc i hlt
   have hk:=HPS.out i hlt
   have HNX:=Lib.hid (usedOf_next ps i hlt)
   clear hc
   generalize ps[i]=k at*
   unfold natV at c0
   have d0:=ha.used k hk
   have d1:=hf k
   rw[Nat.zero_add]at d0
   go_wp2_with fail
   refine⟨⟨i+1,by omega,by go_num,?_,fun j=>by simpa using hf j,hg.setCell (by simp) _⟩,by simp[intOf];omega⟩
   have:=ha.put hk true
   rw[Nat.zero_add]at this
   exact this.same HNX.out
  ·obtain rfl:i=ps.length:=by omega
   rw[List.take_length]at ha
   have htx:=text_g (usedOf ps)
   have htw:=two_g (ps.length:Int)
   have hrg:=ha.range
   have hld:∀W,(∃p:Regrown,W=Sort.grow (redrawn wr p.d) p.os)->W.rangeAt w.heap.size 0 (usedOf ps).cells:=fun W h=>(ha.gr (gr_regrown h)).range
   have HLD:=Lib.hid hld
   clear hld
   have hadd:=add_bytes (two8 (ps.length:Int)) (mapF (usedOf ps).used) (by rw[mapF_len];simp[two8])
   have hsl:(⟨(textF (usedOf ps)).toArray⟩:ByteArray).size=1024:=by rw[ba_len,textF_len]
   have hex:(⟨(textF (usedOf ps)).toArray⟩:ByteArray).extract 0 250=⟨(mapF (usedOf ps).used).toArray⟩:=by
    apply data_ext
    rw[Lib.extract_data,ba_eta,ba_eta,List.drop_zero,textF_take]
   go_wp2_with fail
   have hnh:Hid (noteHead ps=two8 (ps.length:Int)++mapF (usedOf ps).used):=Lib.hid rfl
   generalize two8 (ps.length:Int)=t0 at*
   generalize mapF (usedOf ps).used=t1 at*
   generalize(⟨(textF (usedOf ps)).toArray⟩:ByteArray)=tx at*
   clear hrg
   refine wp_region_quiet_below (by kernel_rfl) (by kernel_rfl) ?_
   repeat(first
    |( go_big_quiet_want;refine quiet_load_mid 156 _ rfl w.heap.size 0 rfl _ _ HLD.out Tryz.underlying156 rfl (by rw[info_head,Head.cells_len]) ?_;(try simp only[Act.put,List.setIfInBounds_toArray,List.set_cons_zero,List.set_cons_succ]);go_big_quiet_on)
    |go_big_quiet_step (first|(go_at_call 189;exact Ret.regrown (htw _))|(go_at_call 190;exact Ret.regrown (htx _))))
   refine wpQuiet_nil ?_
   intro w3 hw3
   have hg3:=hg.trans (gr_regrown hw3)
   have HL3:=Lib.hid ((HL.out.gr hg3).gr ((Gr.refl w3).alloc (.cells #[.string ⟨(t0++t1).toArray⟩] 9)))
   have HO3:=Lib.hid (ownV_box Value.string w3 ⟨(t0++t1).toArray⟩ 9)
   clear hw3 HLD
   have hla:(t0++t1).length=252:=by rw[<-hnh.out,noteHead_len]
   have HSM:Hid (∀(v':Value) (w':World),OwnVR Value.string 9 w3 w' v' ([⟨(t0++t1).toArray⟩]++l)->Calls Tryz.prog 191 #[v'] w' (Ret w' (.string ⟨(sumF ((t0++t1)::datas l)).toArray⟩))):=Lib.hid fun v' w' ho=>by
    have:=sum_g ([⟨(t0++t1).toArray⟩]++l) v' w' ho.row (by simp;omega) (fun i hi=>by
      cases i with
      |zero=>
        show(⟨(t0++t1).toArray⟩:ByteArray).size<=_
        rw[ba_len,hla]
        omega
      |succ i=>
        have:=HLS.out i (by simpa using hi)
        simpa using this)
    have e:datas ([⟨(t0++t1).toArray⟩]++l)=(t0++t1)::datas l:=by
      show(⟨(t0++t1).toArray⟩:ByteArray).data.toList::datas l=_
      rw[ba_eta]
    rw[e]at this
    exact this
   have hsl8:(sumF ((t0++t1)::datas l)).length=8:=low8_len _ 8
   have hnf:Hid (noteF ps (datas l)=fillF ((t0++t1)++sumF ((t0++t1)::datas l))):=Lib.hid (by rw[<-hnh.out];rfl)
   generalize sumF ((t0++t1)::datas l)=sm at*
   have hadd2:=add_bytes (t0++t1) sm (by omega)
   have hfl:=fill_g ⟨((t0++t1)++sm).toArray⟩ (by rw[ba_len,List.length_append];omega)
   rw[ba_eta,<-hnf.out]at hfl
   generalize(⟨((t0++t1)++sm).toArray⟩:ByteArray)=u2 at*
   generalize(⟨(t0++t1).toArray⟩:ByteArray)=u1 at*
   go_wp2_with(at_builtin;refine append_row (a0:=w3) rfl _ _ 22 9 (.string ⟨#[]⟩) 16 Tryz.underlying22 info_str rfl (fun _=>rfl) (by omega) rfl _ [u1] rfl HO3.out _ l rfl HL3.out (by simp;omega) ((Gr.refl w3).alloc _) ?_)
   intro v' w4 ho4 hg4 _
   go_wp2_with fail
   refine(HSM.out v' w4 ho4).mono ?_
   rintro e w5 ⟨rfl,hg5⟩
   go_wp2_with fail
   refine(hfl _).mono ?_
   rintro e w6 ⟨rfl,hg6⟩
   go_wp2_with fail
   go_ret
   exact Ret.mk rfl (((hg3.trans hg4).trans hg5).trans hg6)
structure Dk where
 pg:Nat->ByteArray
 cut:Bool
 left:Int
 torn:Int
def Dk.on(d:Dk):Bool:=onB d.cut d.left
def Dk.whole(d:Dk):Prop:=∀k,k<4001->(pgGet d.pg k).size=1024
theorem zerosB_sz:zerosB.size=1024:=by
 show(List.toArray _).size=1024
 rw[List.size_toArray,Lib.repeatL_length]
 rfl
theorem pgGet_pgPut{pg:Nat->ByteArray}{k:Nat}{s:ByteArray}(hs:s.size=1024)(i:Nat):pgGet (pgPut pg k s) i=if i=k then s else pgGet pg i:=by
 unfold pgGet pgPut
 by_cases e:i=k
 ·rw[if_pos e,if_pos e,if_neg]
  intro h
  rw[ByteArray.toList_eq]at h
  have h2:s.data.toList.length=1024:=by rw[<-size_data];exact hs
  rw[List.isEmpty_iff]at h
  rw[h]at h2
  simp at h2
 ·rw[if_neg e,if_neg e]
theorem tearS_sz{s old:ByteArray}(hs:s.size=1024)(ho:old.size=1024)(n:Nat)(hn:n<=1024):(tearS s old n).size=1024:=by
 have h1:s.data.toList.length=1024:=by rw[<-size_data];exact hs
 have h2:old.data.toList.length=1024:=by rw[<-size_data];exact ho
 rw[size_data]
 show(tearB s old n).toArray.toList.length=1024
 simp only[tearB,List.toList_toArray,List.length_append,List.length_take,List.length_drop]
 omega
theorem clampT_le(t:Int):clampT t<=1024:=by unfold clampT;omega
def wrD(d:Dk)(k:Nat)(s:ByteArray):Bool×Dk:=
 if d.on then(true,{d with pg:=pgPut d.pg k s,left:=d.left-1})else(false,{d with pg:=pgPut d.pg k (tearS s (pgGet d.pg k) (clampT d.torn)),torn:=0})
def wrsD:Dk->List (Nat×ByteArray)->Bool×Dk
 |d,[]=>(true,d)
 |d,x::l=>if(wrD d x.1 x.2).1 then wrsD (wrD d x.1 x.2).2 l else(false,(wrD d x.1 x.2).2)
theorem wrsD_nil(d:Dk):wrsD d []=(true,d):=rfl
theorem wrsD_cons(d:Dk)(x:Nat×ByteArray)(l:List (Nat×ByteArray)):wrsD d (x::l)=if(wrD d x.1 x.2).1 then wrsD (wrD d x.1 x.2).2 l else(false,(wrD d x.1 x.2).2):=rfl
theorem wrsD_append:∀(a b:List (Nat×ByteArray)) (d:Dk),wrsD d (a++b)=if(wrsD d a).1 then wrsD (wrsD d a).2 b else(false,(wrsD d a).2)
 |[],b,d=>by rw[List.nil_append,wrsD_nil];rfl
 |x::a,b,d=>by
  rw[List.cons_append,wrsD_cons,wrsD_cons]
  cases(wrD d x.1 x.2).1
  ·rfl
  ·exact wrsD_append a b _
theorem wrD_whole{d:Dk}(h:d.whole)(k:Nat){s:ByteArray}(hs:s.size=1024):(wrD d k s).2.whole:=by
 intro i hi
 unfold wrD
 split
 ·show(pgGet (pgPut d.pg k s) i).size=1024
  rw[pgGet_pgPut hs]
  split
  ·exact hs
  ·exact h i hi
 ·by_cases hk:k<4001
  ·have ht:=tearS_sz hs (h k hk) _ (clampT_le d.torn)
   show(pgGet (pgPut d.pg k _) i).size=1024
   rw[pgGet_pgPut ht]
   split
   ·exact ht
   ·exact h i hi
  ·show(pgGet (pgPut d.pg k _) i).size=1024
   have hne:i≠k:=by omega
   unfold pgGet pgPut
   rw[if_neg hne]
   exact h i hi
def okE(l:List (Nat×ByteArray)):Prop:=∀x∈l,x.1<4001/\x.2.size=1024
theorem okE_append{a b:List (Nat×ByteArray)}(ha:okE a)(hb:okE b):okE (a++b):=fun x hx=>(List.mem_append.1 hx).elim (ha x) (hb x)
theorem wrsD_whole:∀(l:List (Nat×ByteArray)) {d:Dk},d.whole->okE l->(wrsD d l).2.whole
 |[],_,h,_=>h
 |x::l,d,h,hl=>by
  have h1:=wrD_whole h x.1 (hl x (by simp)).2
  rw[wrsD_cons]
  cases(wrD d x.1 x.2).1
  ·exact h1
  ·exact wrsD_whole l h1 (fun y hy=>hl y (by simp[hy]))
theorem wrD_left(d:Dk)(k:Nat)(s:ByteArray):d.left-1<=(wrD d k s).2.left/\(wrD d k s).2.left<=d.left:=by
 unfold wrD
 split
 ·exact⟨Int.le_refl _,by show d.left-1<=d.left;omega⟩
 ·exact⟨by show d.left-1<=d.left;omega,Int.le_refl _⟩
theorem wrsD_left:∀(l:List (Nat×ByteArray)) (d:Dk),d.left-l.length<=(wrsD d l).2.left/\(wrsD d l).2.left<=d.left
 |[],d=>⟨by simp[wrsD],Int.le_refl _⟩
 |x::l,d=>by
  have h1:=wrD_left d x.1 x.2
  have h2:=wrsD_left l (wrD d x.1 x.2).2
  rw[wrsD_cons,List.length_cons]
  cases(wrD d x.1 x.2).1
  ·exact⟨by show _<=(wrD d x.1 x.2).2.left;omega,h1.2⟩
  ·exact⟨by show _<=(wrsD (wrD d x.1 x.2).2 l).2.left;omega,by show(wrsD (wrD d x.1 x.2).2 l).2.left<=_;omega⟩
theorem wrsD_next{d e:Dk}{l:List (Nat×ByteArray)}{i:Nat}(hi:i<l.length)(h:wrsD d (l.take i)=(true,e))(hok:(wrD e l[i].1 l[i].2).1=true):wrsD d (l.take (i+1))=(true,(wrD e l[i].1 l[i].2).2):=by
 rw[List.take_succ_eq_append_getElem hi,wrsD_append,h,if_pos rfl,wrsD_cons,if_pos hok,wrsD_nil]
theorem wrsD_stop{d e:Dk}{l m:List (Nat×ByteArray)}{i:Nat}(hi:i<l.length)(h:wrsD d (l.take i)=(true,e))(hok:(wrD e l[i].1 l[i].2).1=false):wrsD d (l++m)=(false,(wrD e l[i].1 l[i].2).2):=by
 have e1:l++m=l.take i++(l[i]::(l.drop (i+1)++m)):=by
  rw[<-List.cons_append,<-List.append_assoc,<-List.drop_eq_getElem_cons hi,List.take_append_drop]
 rw[e1,wrsD_append,h,if_pos rfl,wrsD_cons,hok]
 rfl
def noteB(ps:List Nat)(l:List ByteArray):ByteArray:=⟨(noteF ps (datas l)).toArray⟩
def ksF(F:Int->Option ByteArray):List Nat:=(List.range 2000).filter fun(k:Nat)=>(F k).isSome
theorem ksF_mem{F:Int->Option ByteArray}{k:Nat}:k∈ksF F↔k<2000/\(F k).isSome:=by simp[ksF]
theorem ksF_len(F:Int->Option ByteArray):(ksF F).length<=2000:=by
 have:=List.length_filter_le (fun(k:Nat)=>(F k).isSome) (List.range 2000)
 simpa[ksF]using this
def fineF(F:Int->Option ByteArray):Prop:=∀k s,F k=some s->1<=k/\k<2000/\s.size=1024
def settleE(ps:List Nat)(l:List ByteArray):List (Nat×ByteArray):=ps.zip l++[(2000,zerosB)]
theorem settleE_ok{ps:List Nat}{l:List ByteArray}(hp:∀k∈ps,k<2000)(hs:∀s∈l,s.size=1024):okE (settleE ps l):=by
 refine okE_append (fun x hx=>?_) (fun x hx=>?_)
 ·obtain⟨h1,h2⟩:=List.of_mem_zip (show(x.1,x.2)∈ps.zip l from hx)
  exact⟨by have:=hp _ h1;omega,hs _ h2⟩
 ·rw[List.mem_singleton.1 hx]
  exact⟨by show 2000<4001;omega,zerosB_sz⟩
def logBit(l:List UInt8)(k:Nat):Bool:=(l.getD (2+k/8) 0).toNat/2^(k % 8) % 2==1
def logPs(pg:Nat->ByteArray):List Nat:=(List.range 2000).filter (logBit (pgGet pg 2000).data.toList)
def logLs(pg:Nat->ByteArray):List ByteArray:=(List.range (logPs pg).length).map fun i=>pgGet pg (2001+i)
def loggedP(pg:Nat->ByteArray):List Nat:=if noteB (logPs pg) (logLs pg)=pgGet pg 2000 then logPs pg else[]
def loggedL(pg:Nat->ByteArray):List ByteArray:=if noteB (logPs pg) (logLs pg)=pgGet pg 2000 then logLs pg else[]
theorem logged_len(pg:Nat->ByteArray):(loggedP pg).length=(loggedL pg).length:=by
 unfold loggedP loggedL
 split
 ·simp[logLs]
 ·rfl
theorem logPs_len(pg:Nat->ByteArray):(logPs pg).length<=2000:=by
 have:=List.length_filter_le (logBit (pgGet pg 2000).data.toList) (List.range 2000)
 simpa[logPs]using this
theorem loggedP_lt(pg:Nat->ByteArray):∀k∈loggedP pg,k<2000:=by
 intro k hk
 unfold loggedP at hk
 split at hk
 ·exact List.mem_range.1 (List.mem_filter.1 hk).1
 ·cases hk
theorem loggedL_sz{d:Dk}(h:d.whole):∀s∈loggedL d.pg,s.size=1024:=by
 intro s hs
 unfold loggedL at hs
 split at hs
 ·obtain⟨i,hi,rfl⟩:=List.mem_map.1 hs
  have:=List.mem_range.1 hi
  have:=logPs_len d.pg
  exact h _ (by omega)
 ·cases hs
def openE(pg:Nat->ByteArray):List (Nat×ByteArray):=if loggedP pg=[]then[]else settleE (loggedP pg) (loggedL pg)
theorem openE_ok{d:Dk}(h:d.whole):okE (openE d.pg):=by
 unfold openE
 split
 ·intro x hx;cases hx
 ·exact settleE_ok (loggedP_lt d.pg) (loggedL_sz h)
def headD(pg:Nat->ByteArray):Head:=readsF (pgGet pg 0).data.toList
end
section
open Go Go.RowKit Go.Maps
theorem MapAt.drop{w:World}{M n:Nat}{F:Int->Option ByteArray}(h:MapAt w M n F){k:Int}(hk:-9223372036854775808<=k/\k<=9223372036854775807)(ty:TypeId):
  ∃w',(Builtin.delete_ #[152,3] ty #[.map (some M),.int .i64 k]).run Tryz.prog w=.ok (.tuple #[]) w'/\MapAt w' M n (fun i=>if i=k then none else F i)/\w.grownBy w' (some M):=by
 obtain⟨D,h1,h2⟩:=h
 obtain⟨w',hrun,ho,hg⟩:=h1.drop (t:=152) (e:=9) keyI Tryz.underlying152 (keyOf_int_mk Tryz.underlying3 (wfI hk)) ty
 refine⟨w',hrun,⟨_,ho,fun i hi=>?_⟩,hg.grown⟩
 by_cases e:i=k
 ·subst e
  simp only[if_true]
  exact⟨Maps.has_del_same,fun z=>Maps.atKey_del_same z⟩
 ·have hne:(Lit.int .i64 i)≠(Lit.int .i64 k):=by
   intro h
   injection h with _ h
   exact e h
  simp only[if_neg e]
  rw[Maps.has_del_other hne]
  exact⟨(h2 i hi).1,fun z=>by rw[Maps.atKey_del_other hne];exact(h2 i hi).2 z⟩
def setF(F:Int->Option ByteArray)(k:Int)(s:Option ByteArray):Int->Option ByteArray:=fun i=>if i=k then s else F i
theorem MapAt.storeF{w:World}{M n:Nat}{F:Int->Option ByteArray}(h:MapAt w M n F)(hn:n<1000000){k:Int}(hk:-9223372036854775808<=k/\k<=9223372036854775807)(s:ByteArray)(hs:s.size<=9223372036854775807):
 ∃w',(Instr.mapUpdate 152 (.map (some M)) (.int .i64 k) (.string s)).run Tryz.prog w=.ok () w'/\MapAt w' M (n+1) (setF F k (some s))/\w.grownBy w' (some M):=h.store hn hk s hs
theorem wpList_del{ops:Array Oper}{rest:List Oper}{o:Oper}{a:Act}{Q:Exit->Act->World->Prop}{w:World}(hg:o.guard=none)(m x:Operand)(hop:o.op=Op.call {callee:=Callee.builtin Builtin.delete,args:=#[m,x],argTypes:=#[152,3]})
  {M n:Nat} {F:Int->Option ByteArray} (h:MapAt w M n F) (hm:a.eval m=.map (some M)) {k:Int} (hx:a.eval x=.int .i64 k) (hk:-9223372036854775808<=k/\k<=9223372036854775807)
  (hK:∀w',MapAt w' M n (setF F k none)->w.grownBy w' (some M)->wpList Tryz.prog ops Q rest (a.put o.dst (.tuple #[])) w'):wpList Tryz.prog ops Q (o::rest) a w:=by
 refine wpList_plain hg fun K' hK'=>?_
 obtain⟨w',hrun,r1,r2⟩:=h.drop hk o.type
 unfold Oper.wp
 simp[execOp,hop,resolve,invoke,builtin,hm,hx,hrun,Result.andThen]
 exact hK' _ _ (hK w' r1 r2)
end
section
open Go Go.RowKit
structure PagerAt(w:World)(PB DB M n:Nat)(h sv:Head)(F:Int->Option ByteArray)(down:Bool)(times:Int):Prop where
 disk:w.cell? ⟨PB,0,none⟩=some (.pointer (some ⟨DB,0,none⟩))
 head:HeadAt w PB 1 h
 map:w.cell? ⟨PB,2017,none⟩=some (.map (some M))
 saved:HeadAt w PB 2018 sv
 down:w.cell? ⟨PB,4034,none⟩=some (.bool down)
 times:w.cell? ⟨PB,4035,none⟩=some (.int .i64 times)
 free:∀o,w.frozen? ⟨PB,o,none⟩=false
 dirty:MapAt w M n F
 ne:PB≠M
theorem PagerAt.gr{w w':World}{PB DB M n:Nat}{h sv:Head}{F:Int->Option ByteArray}{down:Bool}{times:Int}(p:PagerAt w PB DB M n h sv F down times)(g:Gr w w'):PagerAt w' PB DB M n h sv F down times:=
 ⟨g.keeps p.disk,p.head.gr g,g.keeps p.map,p.saved.gr g,g.keeps p.down,g.keeps p.times,fun o=>(g.frozen o (lt_of_cell p.disk)).trans (p.free o),p.dirty.gr g,p.ne⟩
theorem PagerAt.keepX{S:Nat->Prop}{w w':World}{PB DB M n:Nat}{h sv:Head}{F:Int->Option ByteArray}{down:Bool}{times:Int}(p:PagerAt w PB DB M n h sv F down times)(g:GrX S w w')(h1:¬S PB)(h2:¬S M):PagerAt w' PB DB M n h sv F down times:=
 ⟨g.keeps h1 p.disk,p.head.keepX g h1,g.keeps h1 p.map,p.saved.keepX g h1,g.keeps h1 p.down,g.keeps h1 p.times,fun o=>(g.frozen o (lt_of_cell p.disk) h1).trans (p.free o),p.dirty.keepX g h2,p.ne⟩
theorem PagerAt.lt{w:World}{PB DB M n:Nat}{h sv:Head}{F:Int->Option ByteArray}{down:Bool}{times:Int}(p:PagerAt w PB DB M n h sv F down times):PB<w.heap.size:=lt_of_cell p.disk
theorem PagerAt.remap{w w':World}{PB DB M n n':Nat}{h sv:Head}{F F':Int->Option ByteArray}{down:Bool}{times:Int}(p:PagerAt w PB DB M n h sv F down times)(g:w.grownBy w' (some M))(hm:MapAt w' M n' F'):PagerAt w' PB DB M n' h sv F' down times:=by
 have gx:GrX (fun k=>k=M) w w':=GrX.of_grown g rfl
 have h1:¬(fun k=>k=M) PB:=p.ne
 exact⟨gx.keeps h1 p.disk,p.head.keepX gx h1,gx.keeps h1 p.map,p.saved.keepX gx h1,gx.keeps h1 p.down,gx.keeps h1 p.times,fun o=>(gx.frozen o (lt_of_cell p.disk) h1).trans (p.free o),hm,p.ne⟩
theorem MapAt.far{w:World}{M n:Nat}{F:Int->Option ByteArray}(h:MapAt w M n F){B:Nat}(hne:B≠M)(o:Nat)(u:Value):MapAt (w.setCell ⟨B,o,none⟩ u) M n F:=h.block (Below.heap_setCell _ _ _ _ (fun e=>hne e.symm))
theorem PagerAt.put{w:World}{PB DB M n:Nat}{h sv:Head}{F:Int->Option ByteArray}{down:Bool}{times:Int}(p:PagerAt w PB DB M n h sv F down times){k:Nat}(hk:k<2000)(b:Bool):PagerAt (w.setCell ⟨PB,1+k,none⟩ (.bool b)) PB DB M n (h.put k b) sv F down times:=
 ⟨cell_off (by omega) p.disk,p.head.put hk b,cell_off (by omega) p.map,p.saved.far _ _ (by omega),cell_off (by omega) p.down,cell_off (by omega) p.times,fun o=>by simpa using p.free o,p.dirty.far p.ne _ _,p.ne⟩
theorem PagerAt.putRoot{w:World}{PB DB M n:Nat}{h sv:Head}{F:Int->Option ByteArray}{down:Bool}{times:Int}(p:PagerAt w PB DB M n h sv F down times){k:Nat}(hk:k<8)(r:Int):PagerAt (w.setCell ⟨PB,2001+k,none⟩ (.int .i64 r)) PB DB M n (h.putRoot k r) sv F down times:=
 ⟨cell_off (by omega) p.disk,p.head.putRoot hk r,cell_off (by omega) p.map,p.saved.far _ _ (by omega),cell_off (by omega) p.down,cell_off (by omega) p.times,fun o=>by simpa using p.free o,p.dirty.far p.ne _ _,p.ne⟩
theorem PagerAt.putNote{w:World}{PB DB M n:Nat}{h sv:Head}{F:Int->Option ByteArray}{down:Bool}{times:Int}(p:PagerAt w PB DB M n h sv F down times){k:Nat}(hk:k<8)(r:Int):PagerAt (w.setCell ⟨PB,2009+k,none⟩ (.int .i64 r)) PB DB M n (h.putNote k r) sv F down times:=
 ⟨cell_off (by omega) p.disk,p.head.putNote hk r,cell_off (by omega) p.map,p.saved.far _ _ (by omega),cell_off (by omega) p.down,cell_off (by omega) p.times,fun o=>by simpa using p.free o,p.dirty.far p.ne _ _,p.ne⟩
def inUse(h:Head)(k:Int):Bool:=decide (1<=k)&&decide (k<2000)&&h.used k.toNat
def rightV(h:Head)(down:Bool)(k:Int):Value:=if inUse h k then if down then .iface 24 (.int .i64 6)else .nilIface else .iface 24 (.int .i64 2)
theorem rightV_no{h:Head}{down:Bool}{k:Int}(hu:inUse h k=false):rightV h down k=.iface 24 (.int .i64 2):=by
 unfold rightV
 rw[hu]
 rfl
theorem rightV_ok{h:Head}{k:Int}(hu:inUse h k=true):rightV h false k=.nilIface:=by
 unfold rightV
 rw[hu]
 rfl
theorem inUse_iff{h:Head}{k:Int}:inUse h k=true↔∃m:Nat,k=m/\1<=m/\m<2000/\h.used m=true:=by
 unfold inUse
 constructor
 ·intro e
  simp only[Bool.and_eq_true,decide_eq_true_eq]at e
  exact⟨k.toNat,by omega,by omega,by omega,e.2⟩
 ·rintro⟨m,rfl,h1,h2,h3⟩
  simp only[Bool.and_eq_true,decide_eq_true_eq]
  exact⟨⟨by omega,by omega⟩,by simpa using h3⟩
theorem right_pg(PB DB M n:Nat)(h sv:Head)(F:Int->Option ByteArray)(down:Bool)(times:Int)(k:Int)(w:World)(p:PagerAt w PB DB M n h sv F down times):
  Calls Tryz.prog 223 #[.pointer (some ⟨PB,0,none⟩),.int .i64 k] w (Ret w (rightV h down k)):=by
 have P:=Lib.hid p
 have cd:=p.down
 clear p
 by_cases hk:1<=k/\k<2000
 ·obtain⟨m,rfl⟩:=Int.eq_ofNat_of_zero_le (show 0<=k by omega)
  have hm:m<2000:=by omega
  have c0:=P.out.head.used m hm
  have hiu:inUse h (m:Int)=h.used m:=by
   unfold inUse
   rw[decide_eq_true hk.1,decide_eq_true hk.2]
   simp
  have hv:Hid (rightV h down (m:Int)=if h.used m then if down then .iface 24 (.int .i64 6)else .nilIface else .iface 24 (.int .i64 2)):=Lib.hid (by unfold rightV;rw[hiu])
  clear hiu
  rw[hv.out]
  generalize h.used m=u at*
  obtain⟨hk1,hk2⟩:=hk
  cases u<;>cases down<;>
   (go_enter Tryz.func223,Tryz.ntmps223
    go_wp2_with fail
    all_goals first|omega|skip
    all_goals
     go_ret
     exact Ret.mk rfl (Gr.refl _))
 ·have hu:inUse h k=false:=by
   rw[Bool.eq_false_iff]
   intro e
   obtain⟨m,rfl,h1,h2,_⟩:=inUse_iff.1 e
   omega
  rw[rightV_no hu]
  clear hu
  go_enter Tryz.func223,Tryz.ntmps223
  go_wp2_with fail
  all_goals first|omega|skip
  all_goals
   go_ret
   exact Ret.mk rfl (Gr.refl _)
def pageNow(pg:Nat->ByteArray)(F:Int->Option ByteArray)(k:Nat):ByteArray:=match F k with|some s=>s|none=>pgGet pg k
theorem read_bad_pg(PB DB M n:Nat)(h sv:Head)(F:Int->Option ByteArray)(down:Bool)(times:Int)(k:Int)(w:World)(p:PagerAt w PB DB M n h sv F down times)(hu:inUse h k=false):
  Calls Tryz.prog 170 #[.pointer (some ⟨PB,0,none⟩),.int .i64 k] w (Ret w (.tuple #[.string ⟨#[]⟩,.iface 24 (.int .i64 2)])):=by
 have P:=Lib.hid p
 have HU:=Lib.hid hu
 clear p hu
 go_enter Tryz.func170,Tryz.ntmps170
 go_wp2_with fail
 refine(right_pg PB DB M n h sv F down times k w P.out).mono ?_
 rintro e w1 ⟨rfl,hg1⟩
 rw[rightV_no HU.out]
 go_wp2_with fail
 go_ret2
 exact Ret.mk rfl hg1
theorem read_pg(PB DB M n:Nat)(h sv:Head)(F:Int->Option ByteArray)(times:Int)(pg:Nat->ByteArray)(cut:Bool)(left torn:Int)(k:Nat)(w:World)(p:PagerAt w PB DB M n h sv F false times)(d:DiskAt w DB pg cut left torn)(hu:inUse h k=true):
  Calls Tryz.prog 170 #[.pointer (some ⟨PB,0,none⟩),.int .i64 k] w (Ret w (.tuple #[.string (pageNow pg F k),.nilIface])):=by
 obtain⟨m,hm,hm1,hm2,hm3⟩:=inUse_iff.1 hu
 obtain rfl:k=m:=by omega
 have P:=Lib.hid p
 have HD:=Lib.hid d
 have HU:=Lib.hid hu
 clear p d hu hm hm3
 go_enter Tryz.func170,Tryz.ntmps170
 go_wp2_with fail
 refine(right_pg PB DB M n h sv F false times k w P.out).mono ?_
 rintro e w1 ⟨rfl,hg1⟩
 rw[rightV_ok HU.out]
 have P1:=Lib.hid (P.out.gr hg1)
 have HD1:=Lib.hid (HD.out.gr hg1)
 have c0:=P1.out.disk
 have c1:=P1.out.map
 have hl:=P1.out.dirty.look (k:=(k:Int)) (by omega)
 cases hF:F (k:Int)with
 |none=>
  rw[hF]at hl
  simp only[Option.isSome_none,Option.getD_none]at hl
  have HV:Hid (pageNow pg F k=pgGet pg k):=Lib.hid (by unfold pageNow;rw[hF])
  clear hF
  go_wp2_with fail
  refine(read_d DB pg cut left torn k (by omega) w1 HD1.out).mono ?_
  rintro e w2 ⟨rfl,hg2⟩
  go_wp2_with fail
  go_ret2
  refine Ret.mk ?_ (hg1.trans hg2)
  rw[HV.out]
  rfl
 |some s=>
  rw[hF]at hl
  simp only[Option.isSome_some,Option.getD_some]at hl
  have HV:Hid (pageNow pg F k=s):=Lib.hid (by unfold pageNow;rw[hF])
  clear hF
  go_wp2_with fail
  go_ret2
  refine Ret.mk ?_ hg1
  rw[HV.out]
  rfl
theorem write_bad_pg(PB DB M n:Nat)(h sv:Head)(F:Int->Option ByteArray)(down:Bool)(times:Int)(k:Int)(s:ByteArray)(w:World)(p:PagerAt w PB DB M n h sv F down times)(hu:inUse h k=false):
  Calls Tryz.prog 251 #[.pointer (some ⟨PB,0,none⟩),.int .i64 k,.string s] w (Ret w (.iface 24 (.int .i64 2))):=by
 have P:=Lib.hid p
 have HU:=Lib.hid hu
 clear p hu
 go_enter Tryz.func251,Tryz.ntmps251
 go_wp2_with fail
 refine(right_pg PB DB M n h sv F down times k w P.out).mono ?_
 rintro e w1 ⟨rfl,hg1⟩
 rw[rightV_no HU.out]
 go_wp2_with fail
 go_ret
 exact Ret.mk rfl hg1
theorem write_pg(PB DB M n:Nat)(h sv:Head)(F:Int->Option ByteArray)(times:Int)(k:Int)(s:ByteArray)(hs:s.size=1024)(hn:n<1000000)(w:World)(p:PagerAt w PB DB M n h sv F false times)(hu:inUse h k=true):
  Calls Tryz.prog 251 #[.pointer (some ⟨PB,0,none⟩),.int .i64 k,.string s] w fun e w'=>e=.returned .nilIface/\PagerAt w' PB DB M (n+1) h sv (setF F k (some s)) false times/\GrX (fun b=>b=PB\/b=M) w w':=by
 have hkr:-9223372036854775808<=k/\k<=9223372036854775807:=by
  obtain⟨m,hm,hm1,hm2,hm3⟩:=inUse_iff.1 hu
  omega
 have P:=Lib.hid p
 have HU:=Lib.hid hu
 have HKR:=Lib.hid hkr
 clear p hu hkr
 have hs':((s.size:Int) !=1024)=false:=by simp;omega
 go_enter Tryz.func251,Tryz.ntmps251
 go_wp2_with fail
 refine(right_pg PB DB M n h sv F false times k w P.out).mono ?_
 rintro e w1 ⟨rfl,hg1⟩
 rw[rightV_ok HU.out]
 have P1:=Lib.hid (P.out.gr hg1)
 have c1:=P1.out.map
 obtain⟨w2,hupd,hma,hgM⟩:=P1.out.dirty.storeF hn HKR.out s (by omega)
 have HP2:=Lib.hid (P1.out.remap hgM hma)
 have HG:=Lib.hid hgM
 clear hma hgM
 go_wp2_with fail
 go_ret
 exact⟨rfl,HP2.out,(GrX.of_gr hg1).trans (GrX.of_grown HG.out (.inr rfl))⟩
theorem free_bad_pg(PB DB M n:Nat)(h sv:Head)(F:Int->Option ByteArray)(down:Bool)(times:Int)(k:Int)(w:World)(p:PagerAt w PB DB M n h sv F down times)(hu:inUse h k=false):
  Calls Tryz.prog 204 #[.pointer (some ⟨PB,0,none⟩),.int .i64 k] w (Ret w (.iface 24 (.int .i64 2))):=by
 have P:=Lib.hid p
 have HU:=Lib.hid hu
 clear p hu
 go_enter Tryz.func204,Tryz.ntmps204
 go_wp2_with fail
 refine(right_pg PB DB M n h sv F down times k w P.out).mono ?_
 rintro e w1 ⟨rfl,hg1⟩
 rw[rightV_no HU.out]
 go_wp2_with fail
 go_ret
 exact Ret.mk rfl hg1
theorem free_pg(PB DB M n:Nat)(h sv:Head)(F:Int->Option ByteArray)(times:Int)(k:Nat)(w:World)(p:PagerAt w PB DB M n h sv F false times)(hu:inUse h k=true):
  Calls Tryz.prog 204 #[.pointer (some ⟨PB,0,none⟩),.int .i64 k] w fun e w'=>e=.returned .nilIface/\PagerAt w' PB DB M n (h.put k false) sv (setF F k none) false times/\GrX (fun b=>b=PB\/b=M) w w':=by
 obtain⟨m,hm,hm1,hm2,hm3⟩:=inUse_iff.1 hu
 obtain rfl:k=m:=by omega
 have P:=Lib.hid p
 have HU:=Lib.hid hu
 clear p hu hm3 hm
 go_enter Tryz.func204,Tryz.ntmps204
 go_wp2_with fail
 refine(right_pg PB DB M n h sv F false times k w P.out).mono ?_
 rintro e w1 ⟨rfl,hg1⟩
 rw[rightV_ok HU.out]
 have P1:=Lib.hid (P.out.gr hg1)
 have c0:=P1.out.head.used k (by omega)
 have z0:=P1.out.free (1+k)
 have P2:=Lib.hid (P1.out.put (show k<2000 by omega) false)
 have c1:=P2.out.map
 go_wp2_with(at_delete;refine wpList_del rfl _ _ rfl P2.out.dirty rfl rfl (by omega) ?_)
 intro w2 hma hgM
 have HP2:=Lib.hid (P2.out.remap hgM hma)
 have HG:=Lib.hid hgM
 clear hma hgM
 go_wp2_with fail
 go_ret
 exact⟨rfl,HP2.out,((GrX.of_gr hg1).trans (GrX.setCell _ _ (.inl rfl))).trans (GrX.of_grown HG.out (.inr rfl))⟩
theorem fineF_nil:fineF fun _=>none:=fun _ _ h=>by cases h
theorem fineF_set{F:Int->Option ByteArray}(h:fineF F){k:Int}(hk:1<=k/\k<2000){s:ByteArray}(hs:s.size=1024):fineF (setF F k (some s)):=fun i u e=>by
 unfold setF at e
 split at e
 ·injection e with e
  subst e
  rename_i hi
  subst hi
  exact⟨hk.1,hk.2,hs⟩
 ·exact h i u e
theorem fineF_del{F:Int->Option ByteArray}(h:fineF F)(k:Int):fineF (setF F k none):=fun i u e=>by
 unfold setF at e
 split at e
 ·cases e
 ·exact h i u e
def allocF(h:Head):Option Nat:=(List.range 2000).find? fun i=>!h.used i
theorem allocF_some{h:Head}(hf:h.fine){k:Nat}(e:allocF h=some k):1<=k/\k<2000/\h.used k=false/\∀i,i<k->h.used i=true:=by
 unfold allocF at e
 obtain⟨h1,xs,ys,h2,h3⟩:=List.find?_eq_some_iff_append.1 e
 have hk:k<2000:=List.mem_range.1 (List.mem_of_find?_eq_some e)
 have hu:h.used k=false:=by simpa using h1
 have h0:k≠0:=fun e0=>by rw[e0,hf.zero]at hu;cases hu
 refine⟨by omega,hk,hu,fun i hi=>?_⟩
 have hl:xs.length=k:=by
  have h4:(List.range 2000)[xs.length]?=some k:=by rw[h2];simp
  have h5:xs.length<2000:=by
   have:=(List.getElem?_eq_some_iff.1 h4).1
   simpa using this
  rw[List.getElem?_range h5]at h4
  exact Option.some.inj h4
 have hm:i∈xs:=by
  have h4:(xs++k::ys)[i]?=some i:=by rw[<-h2,List.getElem?_range (by omega)]
  rw[List.getElem?_append_left (by omega)]at h4
  exact List.mem_of_getElem? h4
 simpa using h3 i hm
theorem fine_put{h:Head}(hf:h.fine){k:Nat}(hk:1<=k)(b:Bool):(h.put k b).fine:=
 ⟨by show(if 0=k then b else h.used 0)=true;rw[if_neg (by omega)];exact hf.zero,hf.root,hf.note⟩
theorem fine_set{h:Head}(hf:h.fine)(i:Nat){p n:Int}(hp:0<=p/\p<2000)(hn:0<=n/\n<65536):(h.setRoot i p n).fine:=
 ⟨hf.zero,fun j hj=>by
  show 0<=(if j=i then p else h.roots j)/\(if j=i then p else h.roots j)<2000
  split
  ·exact hp
  ·exact hf.root j hj,fun j hj=>by
  show 0<=(if j=i then n else h.notes j)/\(if j=i then n else h.notes j)<65536
  split
  ·exact hn
  ·exact hf.note j hj⟩
structure Ch where
 h:Head
 F:Int->Option ByteArray
structure Ch.fine(c:Ch):Prop where
 head:c.h.fine
 dirty:fineF c.F
def Ch.alloc(c:Ch):Ch:=match allocF c.h with|none=>c|some k=>⟨c.h.put k true,setF c.F k (some zerosB)⟩
def Ch.free(c:Ch)(k:Int):Ch:=if inUse c.h k then⟨c.h.put k.toNat false,setF c.F k none⟩else c
def Ch.write(c:Ch)(k:Int)(s:ByteArray):Ch:=if inUse c.h k then⟨c.h,setF c.F k (some s)⟩else c
def Ch.new(h:Head):Ch:=⟨h,fun _=>none⟩
theorem Ch.fine.alloc_fine{c:Ch}(h:c.fine):c.alloc.fine:=by
 unfold Ch.alloc
 split
 ·exact h
 ·rename_i k e
  obtain⟨h1,h2,_,_⟩:=allocF_some h.head e
  exact⟨fine_put h.head h1 _,fineF_set h.dirty (by omega) zerosB_sz⟩
theorem Ch.fine.free_fine{c:Ch}(h:c.fine)(k:Int):(c.free k).fine:=by
 unfold Ch.free
 split
 ·rename_i hu
  obtain⟨m,rfl,h1,h2,_⟩:=inUse_iff.1 hu
  exact⟨fine_put h.head (by simpa using h1) _,fineF_del h.dirty _⟩
 ·exact h
theorem Ch.fine.write_fine{c:Ch}(h:c.fine)(k:Int){s:ByteArray}(hs:s.size=1024):(c.write k s).fine:=by
 unfold Ch.write
 split
 ·rename_i hu
  obtain⟨m,rfl,h1,h2,_⟩:=inUse_iff.1 hu
  exact⟨h.head,fineF_set h.dirty (by omega) hs⟩
 ·exact h
theorem Ch.new_fine{h:Head}(hf:h.fine):(Ch.new h).fine:=⟨hf,fineF_nil⟩
def DkAt(w:World)(B:Nat)(d:Dk):Prop:=DiskAt w B d.pg d.cut d.left d.torn
theorem DkAt.gr{w w':World}{B:Nat}{d:Dk}(h:DkAt w B d)(g:Gr w w'):DkAt w' B d:=DiskAt.gr h g
theorem DkAt.keepX{S:Nat->Prop}{w w':World}{B:Nat}{d:Dk}(h:DkAt w B d)(g:GrX S w w')(hs:¬S B):DkAt w' B d:=DiskAt.keepX h g hs
theorem DkAt.lt{w:World}{B:Nat}{d:Dk}(h:DkAt w B d):B<w.heap.size:=lt_of_cell h.2.1
def errD(b:Bool):Value:=if b then .nilIface else .iface 24 (.int .i64 14)
theorem write_dk(B:Nat)(d:Dk)(k:Nat)(s:ByteArray)(w:World)(hk:k<4001)(hs:s.size=1024)(hw:d.whole)(hl:-1000000<=d.left/\d.left<=1000000)(h:DkAt w B d):
  Calls Tryz.prog 137 #[.pointer (some ⟨B,0,none⟩),.int .i64 k,.string s] w fun e w'=>e=.returned (errD (wrD d k s).1)/\DkAt w' B (wrD d k s).2/\GrX (fun b=>b=B) w w':=by
 unfold wrD
 split
 ·rename_i hon
  refine(write_on B d.pg d.cut d.left d.torn k hk s hs hon (by omega) w h).mono ?_
  rintro e w' ⟨rfl,h1,h2⟩
  exact⟨rfl,h1,GrX.of_grown h2 rfl⟩
 ·rename_i hon
  refine(write_off B d.pg d.cut d.left d.torn k hk s hs (Bool.not_eq_true _▸hon:d.on=false) (hw k hk) w h).mono ?_
  rintro e w' ⟨rfl,h1,h2⟩
  exact⟨rfl,h1,GrX.of_grown h2 rfl⟩
def OffV(v:Value)(B:Nat):Prop:=∀b off n c,v=.slice (some ⟨b,off,none⟩) n c->b≠B
theorem RowV.wrote{α:Type}{enc:α->Value}{w w':World}{v:Value}{xs:List α}{B:Nat}(h:RowV enc w v xs)(ho:OffV v B)(g:GrX (fun b=>b=B) w w'):RowV enc w' v xs:=h.keepX g ho
theorem fill0(w:World):Calls Tryz.prog 138 #[.string ⟨#[]⟩] w (Ret w (.string zerosB)):=by
 have:=fill_g ⟨#[]⟩ (by decide) w
 have e:(⟨(fillF (⟨#[]⟩:ByteArray).data.toList).toArray⟩:ByteArray)=zerosB:=data_ext (by rw[zerosB_fill,ba_eta])
 rw[e]at this
 exact this
theorem settle_g(B:Nat)(d:Dk)(ps:List Nat)(L:List ByteArray)(pv lv:Value)(w:World)(hp:RowV natV w pv ps)(hl:RowV Value.string w lv L)(hpB:OffV pv B)(hlB:OffV lv B)(hlen:ps.length=L.length)(hps:∀k∈ps,k<2000)(hsz:∀s∈L,s.size=1024)(hn:ps.length<=2000)
  (hd:DkAt w B d) (hw:d.whole) (hlf:-900000<=d.left/\d.left<=1000000):
  Calls Tryz.prog 80 #[.pointer (some ⟨B,0,none⟩),pv,lv] w fun e w'=>e=.returned (errD (wrsD d (settleE ps L)).1)/\DkAt w' B (wrsD d (settleE ps L)).2/\GrX (fun b=>b=B) w w':=by
 obtain⟨po,pc,rfl⟩:=hp.form
 obtain⟨lo,lc,rfl⟩:=hl.form
 have HP:=Lib.hid hp
 have HL:=Lib.hid hl
 have HPB:=Lib.hid hpB
 have HLB:=Lib.hid hlB
 have HW:=Lib.hid hw
 have HD:=Lib.hid hd
 have HPS:=Lib.hid hps
 have HSZ:=Lib.hid hsz
 have hzl:(ps.zip L).length=ps.length:=by rw[List.length_zip];omega
 have hok:okE (ps.zip L):=fun x hx=>by
  obtain⟨h1,h2⟩:=List.of_mem_zip (show(x.1,x.2)∈ps.zip L from hx)
  exact⟨by have:=hps _ h1;omega,hsz _ h2⟩
 have HOK:=Lib.hid hok
 have HLN:=Lib.hid hlen
 clear hp hl hpB hlB hw hd hps hsz hok hlen
 go_enter Tryz.func80,Tryz.ntmps80
 go_wp2_with fail
 go_loopw [12] (fun kv w'=>∃(i:Nat) (e:Dk),i<=ps.length/\kv=.int .i64 i/\wrsD d ((ps.zip L).take i)=(true,e)/\DkAt w' B e/\GrX (fun b=>b=B) w w') (fun kv _=>ps.length-(intOf kv).toNat)
 case atStart=>exact⟨0,d,Nat.zero_le _,rfl,rfl,HD.out,GrX.refl _ _⟩
 case round=>
  obtain⟨i,e,hi,rfl,he,hde,hg⟩:=hrel
  have HE:=Lib.hid he
  have hew:e.whole:=by
   have:=wrsD_whole ((ps.zip L).take i) HW.out (fun x hx=>HOK.out x (List.mem_of_mem_take hx))
   rw[he]at this
   exact this
  have hel:d.left-i<=e.left/\e.left<=d.left:=by
   have h3:=wrsD_left ((ps.zip L).take i) d
   rw[he]at h3
   have h4:d.left-(((ps.zip L).take i).length:Int)<=e.left/\e.left<=d.left:=h3
   rw[List.length_take]at h4
   omega
  have HEW:=Lib.hid hew
  have HDE:=Lib.hid hde
  clear he hew hde
  by_cases hlt:i<ps.length
  ·obtain⟨b,off,rfl,hc⟩:=(HP.out.wrote HPB.out hg).at hlt
   obtain⟨b2,off2,rfl,hc2⟩:=(HL.out.wrote HLB.out hg).at (i:=i) (by rw[<-HLN.out];exact hlt)
   have c0:=hc i hlt
   have hlt2:i<L.length:=by rw[<-HLN.out];exact hlt
   have c1:=hc2 i hlt2
   have hiz:i<(ps.zip L).length:=by omega
   have hx:(ps.zip L)[i]=(ps[i],L[i]):=by rw[List.getElem_zip]
   have HX:=Lib.hid hx
   have hk:=HPS.out _ (List.getElem_mem hlt)
   have hs:=HSZ.out _ (List.getElem_mem hlt2)
   have HNX:Hid (∀e',(wrD e ps[i] L[i]).1=true->(wrD e ps[i] L[i]).2=e'->wrsD d ((ps.zip L).take (i+1))=(true,e')):=Lib.hid fun e' h1 h2=>by
    have:=wrsD_next hiz HE.out (by rw[HX.out];exact h1)
    rw[this,HX.out]
    show(true,(wrD e ps[i] L[i]).2)=_
    rw[h2]
   have HST:Hid ((wrD e ps[i] L[i]).1=false->wrsD d (settleE ps L)=(false,(wrD e ps[i] L[i]).2)):=Lib.hid fun h1=>by
    have:=wrsD_stop (m:=[(2000,zerosB)]) hiz HE.out (by rw[HX.out];exact h1)
    rw[HX.out]at this
    exact this
   unfold natV at c0
   clear hc hc2 hx
   generalize ps[i]=k at*
   generalize L[i]=s at*
   go_wp2_with fail
   refine(write_dk B e k s _ (by omega) hs HEW.out (by omega) HDE.out).mono ?_
   rintro e1 w1 ⟨rfl,hd1,hg1⟩
   have HD1:=Lib.hid hd1
   have hgg:=hg.trans hg1
   cases hon:(wrD e k s).1
   ·have HSS:=Lib.hid (HST.out hon)
    clear hd1 hon
    unfold errD
    go_wp2_with fail
    go_ret
    rw[HSS.out]
    exact⟨rfl,HD1.out,hgg⟩
   ·have HNN:=Lib.hid (HNX.out _ hon rfl)
    clear hd1 hon
    unfold errD
    go_wp2_with fail
    go_roundw
    case rel=>
     exact⟨i+1,_,by omega,by go_num,HNN.out,HD1.out,hgg⟩
    case measure=>
     simp[intOf]
     omega
  ·obtain rfl:i=ps.length:=by omega
   have hall:(ps.zip L).take ps.length=ps.zip L:=List.take_of_length_le (by omega)
   have HFIN:Hid (wrsD d (settleE ps L)=wrD e 2000 zerosB):=Lib.hid (by
    unfold settleE
    have:=HE.out
    rw[hall]at this
    rw[wrsD_append,this,if_pos rfl,wrsD_cons]
    show(if(wrD e 2000 zerosB).1 then wrsD (wrD e 2000 zerosB).2 []else(false,(wrD e 2000 zerosB).2))=_
    cases h:(wrD e 2000 zerosB).1
    ·exact Prod.ext h.symm rfl
    ·exact Prod.ext h.symm rfl)
   clear hall
   go_wp2_with fail
   refine(fill0 _).mono ?_
   rintro e1 w1 ⟨rfl,hg1⟩
   have HDE1:=Lib.hid (HDE.out.gr hg1)
   go_wp2_with fail
   refine(write_dk B e 2000 zerosB _ (by omega) zerosB_sz HEW.out (by omega) HDE1.out).mono ?_
   rintro e2 w2 ⟨rfl,hd2,hg2⟩
   have HD2:=Lib.hid hd2
   clear hd2
   go_wp2_with fail
   go_ret
   rw[HFIN.out]
   exact⟨rfl,HD2.out,(hg.trans (GrX.of_gr hg1)).trans hg2⟩
theorem results_tmp3{P:Program}{fn:Func}{a b c:Nat}{tmps:Array Value}{w:World}(hr:fn.results=#[ResultVar.tmp a,ResultVar.tmp b,ResultVar.tmp c]):
  (results fn tmps).run P w=.ok (.tuple #[tmps.getD a undef,tmps.getD b undef,tmps.getD c undef]) w:=by
 simp[results,hr]
theorem root_pg(PB DB M n:Nat)(h sv:Head)(F:Int->Option ByteArray)(down:Bool)(times:Int)(k:Nat)(hk:k<8)(w:World)(p:PagerAt w PB DB M n h sv F down times):
  Calls Tryz.prog 83 #[.pointer (some ⟨PB,0,none⟩),.int .i64 k] w (Ret w (.tuple #[.int .i64 (h.roots k),.int .i64 (h.notes k),.nilIface])):=by
 have c0:=p.head.root k hk
 have c1:=p.head.note k hk
 clear p
 generalize h.roots k=r0 at*
 generalize h.notes k=r1 at*
 go_enter Tryz.func83,Tryz.ntmps83
 go_wp2_with fail
 go_region
 all_goals
  go_wp2_with fail
  refine bodyPost_ret (results_tmp3 rfl) rfl ?_
  refine Ret.mk rfl ?_
  repeat(with_reducible first|refine Gr.drew ?_|refine Gr.alloc ?_ _)
  exact Gr.refl _
theorem setRoot_bad_pg(PB DB M n:Nat)(h sv:Head)(F:Int->Option ByteArray)(down:Bool)(times:Int)(i k t:Int)(hk:i<0\/8<=i\/k<0\/2000<=k\/t<0\/65536<=t)(w:World)(_:PagerAt w PB DB M n h sv F down times):
  Calls Tryz.prog 202 #[.pointer (some ⟨PB,0,none⟩),.int .i64 i,.int .i64 k,.int .i64 t] w (Ret w (.iface 24 (.int .i64 2))):=by
 go_enter Tryz.func202,Tryz.ntmps202
 go_wp2_with fail
 all_goals first|omega|skip
 all_goals
  go_ret
  exact Ret.mk rfl (Gr.refl _)
theorem setRoot_pg(PB DB M n:Nat)(h sv:Head)(F:Int->Option ByteArray)(times:Int)(i:Nat)(k t:Int)(hi:i<8)(hk:0<=k/\k<2000)(ht:0<=t/\t<65536)(w:World)(p:PagerAt w PB DB M n h sv F false times):
  Calls Tryz.prog 202 #[.pointer (some ⟨PB,0,none⟩),.int .i64 i,.int .i64 k,.int .i64 t] w fun e w'=>e=.returned .nilIface/\PagerAt w' PB DB M n (h.setRoot i k t) sv F false times/\GrX (fun b=>b=PB\/b=M) w w':=by
 have c0:=p.head.root i hi
 have c1:=p.head.note i hi
 have cd:=p.down
 have z0:=p.free (2001+i)
 have z1:=p.free (2009+i)
 have P:=Lib.hid p
 clear p
 go_enter Tryz.func202,Tryz.ntmps202
 go_wp2_with fail
 all_goals first|omega|skip
 go_region
 all_goals
  go_wp2_with fail
  go_ret
  refine⟨rfl,PagerAt.gr (w:=(w.setCell ⟨PB,2001+i,none⟩ (.int .i64 k)).setCell ⟨PB,2009+i,none⟩ (.int .i64 t)) ?_ ?_,?_⟩
  ·exact(P.out.putRoot hi k).putNote hi t
  ·exact(Gr.refl _).drew
  ·exact((GrX.setCell _ _ (.inl rfl)).trans (GrX.setCell _ _ (.inl rfl))).trans (GrX.drew _)
theorem allocF_first{h:Head}{k:Nat}(hk:k<2000)(h1:∀j,j<k->h.used j=true)(h2:h.used k=false):allocF h=some k:=by
 unfold allocF
 have e:List.range 2000=List.range k++k::List.range' (k+1) (1999-k):=by
  rw[List.range_eq_range',List.range_eq_range',show 2000=k+(1999-k+1)by omega,<-List.range'_append_1,List.range'_succ]
  simp
 rw[e,List.find?_append,List.find?_eq_none.2 (fun j hj=>by rw[h1 j (List.mem_range.1 hj)];decide),Option.none_or,List.find?_cons_of_pos (by rw[h2];rfl)]
theorem allocF_none{h:Head}(h1:∀j,j<2000->h.used j=true):allocF h=none:=
 List.find?_eq_none.2 fun j hj=>by rw[h1 j (List.mem_range.1 hj)];decide
def idxF(h:Head):Int:=match allocF h with|none=>-1|some k=>k
theorem index_b(B:Nat)(h:Head)(w:World)(a:HeadAt w B 1 h):
  Calls Tryz.prog 250 #[.slice (some ⟨B,1,none⟩) 2000 2000,.bool false] w (Ret w (.int .i64 (idxF h))):=by
 have HA:=Lib.hid a
 clear a
 go_enter Tryz.func250,Tryz.ntmps250
 go_wp2_with fail
 go_loopw [8] (fun kv w'=>∃i:Nat,i<=2000/\kv=.int .i64 i/\(∀j,j<i->h.used j=true)/\w'=w) (fun kv _=>2000-(intOf kv).toNat)
 case atStart=>exact⟨0,Nat.zero_le _,rfl,fun j hj=>absurd hj (Nat.not_lt_zero _),rfl⟩
 case round=>
  obtain⟨i,hi,rfl,hj,rfl⟩:=hrel
  have HJ:=Lib.hid hj
  clear hj
  by_cases hlt:i<2000
  ·have c0:=HA.out.used i hlt
   cases hu:h.used i
   ·rw[hu]at c0
    have HI:Hid (idxF h=(i:Int)):=Lib.hid (by unfold idxF;rw[allocF_first hlt HJ.out hu])
    clear hu
    go_wp2_with fail
    go_ret
    rw[HI.out]
    exact Ret.mk rfl (Gr.refl _)
   ·rw[hu]at c0
    have HJ1:Hid (∀j,j<i+1->h.used j=true):=Lib.hid fun j hj=>by
     rcases Nat.lt_or_ge j i with h1|h1
     ·exact HJ.out j h1
     ·obtain rfl:j=i:=by omega
      exact hu
    clear hu
    go_wp2_with fail
    refine⟨⟨i+1,by omega,by go_num,HJ1.out,trivial⟩,by simp[intOf];omega⟩
  ·obtain rfl:i=2000:=by omega
   have HI:Hid (idxF h=-1):=Lib.hid (by unfold idxF;rw[allocF_none HJ.out])
   go_wp2_with fail
   go_ret
   rw[HI.out]
   exact Ret.mk rfl (Gr.refl _)
theorem alloc_full_pg(PB DB M n:Nat)(h sv:Head)(F:Int->Option ByteArray)(times:Int)(w:World)(p:PagerAt w PB DB M n h sv F false times)(ha:allocF h=none):
  Calls Tryz.prog 199 #[.pointer (some ⟨PB,0,none⟩)] w (Ret w (.tuple #[.int .i64 0,.iface 24 (.int .i64 12)])):=by
 have cd:=p.down
 have hix:=index_b PB h w p.head
 have HI:idxF h=-1:=by unfold idxF;rw[ha]
 rw[HI]at hix
 have HIX:=Lib.hid hix
 clear hix HI ha p
 go_enter Tryz.func199,Tryz.ntmps199
 go_wp2_with fail
 refine HIX.out.mono ?_
 rintro e w1 ⟨rfl,hg1⟩
 go_wp2_with fail
 go_ret2
 exact Ret.mk rfl hg1
theorem alloc_pg(PB DB M n:Nat)(h sv:Head)(F:Int->Option ByteArray)(times:Int)(hn:n<1000000)(w:World)(p:PagerAt w PB DB M n h sv F false times){k:Nat}(hk:k<2000)(ha:allocF h=some k):
  Calls Tryz.prog 199 #[.pointer (some ⟨PB,0,none⟩)] w fun e w'=>e=.returned (.tuple #[.int .i64 k,.nilIface])/\PagerAt w' PB DB M (n+1) (h.put k true) sv (setF F k (some zerosB)) false times/\GrX (fun b=>b=PB\/b=M) w w':=by
 have cd:=p.down
 have hix:=index_b PB h w p.head
 have HI:idxF h=k:=by unfold idxF;rw[ha]
 rw[HI]at hix
 have HIX:=Lib.hid hix
 have P:=Lib.hid p
 clear hix HI ha p
 go_enter Tryz.func199,Tryz.ntmps199
 go_wp2_with fail
 refine HIX.out.mono ?_
 rintro e w1 ⟨rfl,hg1⟩
 have P1:=Lib.hid (P.out.gr hg1)
 have c0:=P1.out.head.used k hk
 have z0:=P1.out.free (1+k)
 have P2:=Lib.hid (P1.out.put hk true)
 have c1:=P2.out.map
 have hst:=fun w2 (hg:Gr (w1.setCell ⟨PB,1+k,none⟩ (.bool true)).drew w2)=>(P2.out.gr ((Gr.refl _).drew.trans hg)).dirty.storeF hn (k:=(k:Int)) (by omega) zerosB (by rw[zerosB_sz];omega)
 go_wp2_with fail
 go_region_with(first
  |(go_at_call 138;refine(fill0 _).mono ?_;rintro e w2 ⟨rfl,hg2⟩;have k0:=hg2.keeps ((Gr.refl _).drew.keeps c1);obtain⟨w5,hmu,hM5,hg5⟩:=hst w2 hg2;have HM5:=Lib.hid hM5;have HG2:=Lib.hid hg2;clear hM5))
 all_goals
  go_wp2_with fail
  go_ret2
  exact⟨rfl,(P2.out.gr ((Gr.refl _).drew.trans HG2.out)).remap hg5 HM5.out,((((GrX.of_gr hg1).trans (GrX.setCell _ _ (.inl rfl))).trans (GrX.drew _)).trans (GrX.of_gr HG2.out)).trans (GrX.of_grown hg5 (.inr rfl))⟩
theorem PagerAt.reHead{w:World}{PB DB M n:Nat}{h sv:Head}{F:Int->Option ByteArray}{down:Bool}{times:Int}(p:PagerAt w PB DB M n h sv F down times)(g:Head):PagerAt (w.setCells PB 1 g.cells) PB DB M n g sv F down times:=by
 have gx:GrX (fun k=>k=PB) w (w.setCells PB 1 g.cells):=setCells_block PB g.cells 1 w
 have hM:¬(fun k=>k=PB) M:=fun e=>p.ne e.symm
 exact⟨cell_setCells_far p.disk g (by omega),p.head.over p.free g,cell_setCells_far p.map g (by omega),p.saved.overFar 1 g (by omega),cell_setCells_far p.down g (by omega),cell_setCells_far p.times g (by omega),fun o=>by rw[World.frozen?_setCells];exact p.free o,p.dirty.keepX gx hM,p.ne⟩
theorem PagerAt.reSave{w:World}{PB DB M n:Nat}{h sv:Head}{F:Int->Option ByteArray}{down:Bool}{times:Int}(p:PagerAt w PB DB M n h sv F down times)(g:Head):PagerAt (w.setCells PB 2018 g.cells) PB DB M n h g F down times:=by
 have gx:GrX (fun k=>k=PB) w (w.setCells PB 2018 g.cells):=setCells_block PB g.cells 2018 w
 have hM:¬(fun k=>k=PB) M:=fun e=>p.ne e.symm
 exact⟨cell_setCells_far p.disk g (by omega),p.head.overFar 2018 g (by omega),cell_setCells_far p.map g (by omega),p.saved.over p.free g,cell_setCells_far p.down g (by omega),cell_setCells_far p.times g (by omega),fun o=>by rw[World.frozen?_setCells];exact p.free o,p.dirty.keepX gx hM,p.ne⟩
theorem wpList_load_head{ops:Array Oper}{rest:List Oper}{op:Oper}{a:Act}{w:World}{Q:Exit->Act->World->Prop}(hgd:op.guard=none)(x:Operand)(ho:op.op=.load 156 x)(b o:Nat)(h:Head)
  (hx:a.eval x=.pointer (some ⟨b,o,none⟩)) (ha:HeadAt w b o h) (hk:∀A:Array Value,Hid (A=h.cells.toArray)->wpList Tryz.prog ops Q rest (a.put op.dst (.agg A)) w):wpList Tryz.prog ops Q (op::rest) a w:=
 wpList_load_mid hgd 156 x ho b o hx _ _ ha.range Tryz.underlying156 rfl (by rw[info_head,Head.cells_len]) (hk _ (Lib.hid rfl))
theorem wpList_store_head{ops:Array Oper}{rest:List Oper}{op:Oper}{a:Act}{w:World}{Q:Exit->Act->World->Prop}(hgd:op.guard=none)(x y:Operand)(ho:op.op=.store 156 x y)(b o:Nat)(h h0:Head)(A:Array Value)
  (hx:a.eval x=.pointer (some ⟨b,o,none⟩)) (hy:a.eval y=.agg A) (hv:A=h.cells.toArray) (ha:HeadAt w b o h0) (hf:∀j,w.frozen? ⟨b,j,none⟩=false)
  (hk:∀w',Hid (w'=w.setCells b o h.cells)->wpList Tryz.prog ops Q rest (a.put op.dst undef) w'):wpList Tryz.prog ops Q (op::rest) a w:=by
 subst hv
 refine wpList_store_mid hgd 156 x y ho b o _ hx hy ?_ (by rw[info_head,Head.arr_len]) (all_oneCell_toArray (Head.cells_one _)) ?_
 ·rw[Head.arr_len]
  exact ha.there hf
 ·exact hk _ (Lib.hid rfl)
theorem reHead_of{w w':World}{PB DB M n:Nat}{h sv:Head}{F:Int->Option ByteArray}{down:Bool}{times:Int}{g:Head}(hw:Hid (w'=w.setCells PB 1 g.cells))(p:PagerAt w PB DB M n h sv F down times):PagerAt w' PB DB M n g sv F down times/\GrX (fun k=>k=PB) w w':=by
 rw[hw.out]
 exact⟨p.reHead g,setCells_block PB g.cells 1 w⟩
theorem reSave_of{w w':World}{PB DB M n:Nat}{h sv:Head}{F:Int->Option ByteArray}{down:Bool}{times:Int}{g:Head}(hw:Hid (w'=w.setCells PB 2018 g.cells))(p:PagerAt w PB DB M n h sv F down times):PagerAt w' PB DB M n h g F down times/\GrX (fun k=>k=PB) w w':=by
 rw[hw.out]
 exact⟨p.reSave g,setCells_block PB g.cells 2018 w⟩
