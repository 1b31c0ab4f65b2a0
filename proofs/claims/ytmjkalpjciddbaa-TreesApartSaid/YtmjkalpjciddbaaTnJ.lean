/-
  A node's text.
-/
import Derived.Test.YtmjkalpjciddbaaMg7
namespace Go.Proofs.Ytmjkalpjciddbaa
open Go Go.RowKit

theorem restE_next (leaf : Bool) (l : List En) (i : Nat) (h : i < l.length) : restE leaf (l.take (i + 1)) = restE leaf (l.take i) ++ (l[i]).txt leaf := by
  unfold restE
  rw [List.take_succ_eq_append_getElem h, List.flatMap_append]
  simp
def kindE (leaf : Bool) : UInt8 := if leaf then 1 else 2
def headE (leaf : Bool) (n : Nat) : List UInt8 := kindE leaf :: two8 (n : Int)
theorem u8_of (n : Nat) : ((n.toUInt8.toNat : Nat) : Int) = (n : Int) % 256 := by
  simp
theorem two8_nat (n : Nat) (h : n < 65536) : two8 (n : Int) = [(n / 256).toUInt8, n.toUInt8] := by
  unfold two8
  have e1 : (((n : Int) / 256) % 256).toNat = n / 256 := by omega
  have e2 : ((n : Int) % 256).toNat = n % 256 := by omega
  rw [e1, e2]
  congr 2
  apply UInt8.toNat_inj.1
  simp
theorem bld_lt {B b : Nat} {l : List UInt8} {w : World} (h : Bld B b l w) : b < w.heap.size := by
  rcases h with ⟨_, _, h2, _⟩ | ⟨_, _, h2, _⟩
  · exact (Array.getElem?_eq_some_iff.1 h2).1
  · exact (Array.getElem?_eq_some_iff.1 h2).1
theorem gr_below {A0 W W' : World} {B : Nat} (h : Gr A0 W) (hB : A0.heap.size = B) (k : Below B W W') : Gr A0 W' := by
  subst hB
  exact Below.trans h k
theorem add_two (s t : ByteArray) (h : s.size + t.size ≤ 100000000000) : ∀ w, (Op.stringOp .add s t).run Try.prog w = .ok (.string ⟨(s.data.toList ++ t.data.toList).toArray⟩) w := fun w => by
  have h1 : s = ⟨s.data.toList.toArray⟩ := bytes_ext (by simp)
  have h2 : t = ⟨t.data.toList.toArray⟩ := bytes_ext (by simp)
  have := add_bytes s.data.toList t.data.toList (by rw [← size_data, ← size_data]; exact h) w
  rw [← h1, ← h2] at this
  exact this
set_option maxRecDepth 100000 in
set_option maxHeartbeats 4000000 in
theorem text_n (p : Nat) (leaf : Bool) (l : List En) (s : Value) (w : World) (h : IsE w s l) (hok : ∀ e ∈ l, e.ok leaf) (hb : bytesE leaf l ≤ 1024) :
    Calls Try.prog 62 #[nodeV p leaf s] w (Ret w (.string (pageE leaf l))) := by
  have H := Lib.hid h
  have HOK := Lib.hid hok
  obtain ⟨ao, ca, rfl⟩ := h.form
  have hl2 := sumE_len leaf l
  have hl : l.length ≤ 600 := by unfold bytesE at hb; omega
  unfold nodeV
  have hg0 : Gr w (w.alloc (.cells #[.int .i64 (p : Int), .bool leaf, .slice ao l.length ca] 84)) := (Gr.refl w).alloc _
  have c0 : ∀ w', Gr (w.alloc (.cells #[.int .i64 (p : Int), .bool leaf, .slice ao l.length ca] 84)) w' → w'.cell? ⟨w.heap.size, 1, none⟩ = some (.bool leaf) ∧ w'.cell? ⟨w.heap.size, 2, none⟩ = some (.slice ao l.length ca) := fun w' g => ⟨g.keeps (by rw [World.cell?_alloc_new]; rfl), g.keeps (by rw [World.cell?_alloc_new]; rfl)⟩
  have hsz0 : (w.alloc (.cells #[.int .i64 (p : Int), .bool leaf, .slice ao l.length ca] 84)).heap.size = w.heap.size + 1 := by simp
  have C0 := Lib.hid c0
  have HG0 := Lib.hid hg0
  have hbl := Bld.new (w.alloc (.cells #[.int .i64 (p : Int), .bool leaf, .slice ao l.length ca] 84))
  have hga := (Gr.refl (w.alloc (.cells #[.int .i64 (p : Int), .bool leaf, .slice ao l.length ca] 84))).alloc (.cells #[.pointer none, .slice none 0 0] 115)
  rw [hsz0] at hbl
  have HBL := Lib.hid hbl
  have HGA := Lib.hid hga
  obtain ⟨b1, b2⟩ := c0 _ hga
  clear h hok hbl hga c0 hg0
  have HH : Hid (headE leaf l.length = [kindE leaf, (l.length / 256).toUInt8, l.length.toUInt8]) := Lib.hid (by unfold headE; rw [two8_nat _ (by omega)])
  have hhi : IntKind.u8.wrap ((l.length : Int) / 256) = (((l.length / 256).toUInt8.toNat : Nat) : Int) := by
    rw [u8_of]
    show (l.length : Int) / 256 % 256 = _
    omega
  have hlo : IntKind.u8.wrap (l.length : Int) = ((l.length.toUInt8.toNat : Nat) : Int) := (u8_of _).symm
  generalize (l.length / 256).toUInt8 = c1 at *
  generalize l.length.toUInt8 = c2 at *
  cases leaf with
  | true =>
    have hwr := fun W => write_b (w.heap.size + 1) (w.heap.size + 1) (w.heap.size + 1 + 1) 3 [] [1, c1, c2] W
    go_enter Try.func62, Try.ntmps62
    go_wp2_with fail
    refine (hwr _ (HBL.out.gr ((Gr.refl _).alloc _)) (by simp) (by simp) (fun j hj => by
      have e1 : w.heap.size + 1 + 1 = ((w.alloc (.cells #[.int .i64 (p : Int), .bool true, .slice ao l.length ca] 84)).alloc (.cells #[.pointer none, .slice none 0 0] 115)).heap.size := by simp
      rw [e1, World.cell?_alloc_new]
      match j, hj with
      | 0, _ => rfl
      | 1, _ => rfl
      | 2, _ => rfl) (by omega)).mono ?_
    rintro e w1 ⟨rfl, hb1, hbel1, _⟩
    have hb1 : Bld (w.heap.size + 1) (w.heap.size + 1) (headE true l.length ++ restE true (l.take 0)) w1 := by
      rw [HH.out]
      exact hb1
    have hga1 : Gr (w.alloc (.cells #[.int .i64 (p : Int), .bool true, .slice ao l.length ca] 84)) w1 := by
      rw [← hsz0] at hbel1
      exact Below.trans (HGA.out.alloc _) hbel1
    clear hwr hbel1
    generalize w.alloc (.cells #[.int .i64 (p : Int), .bool true, .slice ao l.length ca] 84) = A0 at *
    obtain ⟨B, hB⟩ : ∃ B, w.heap.size + 1 = B := ⟨_, rfl⟩
    obtain ⟨NB, hNB⟩ : ∃ NB, w.heap.size = NB := ⟨_, rfl⟩
    rw [hB] at hb1 hsz0 HBL ⊢
    rw [hNB] at C0 ⊢
    have HBn := Lib.hid hB
    clear hB hNB b1 b2
    obtain ⟨b1, b2⟩ := C0.out _ hga1
    have HB1 := Lib.hid hb1
    have HA1 := Lib.hid hga1
    have HS0 := Lib.hid hsz0
    clear hb1 hga1 hsz0
    go_wp2_with fail
    go_loopw [24] (fun iv w' => ∃ i : Nat, i ≤ l.length ∧ iv = .int .i64 i ∧ Bld B B (headE true l.length ++ restE true (l.take i)) w' ∧ Gr A0 w') (fun iv _ => l.length - (RowKit.intOf iv).toNat)
    case atStart => exact ⟨0, Nat.zero_le _, rfl, HB1.out, HA1.out⟩
    case round =>
      obtain ⟨i, hi, rfl, hbl, hga⟩ := hrel
      obtain ⟨b1, b2⟩ := C0.out _ hga
      have HBL2 := Lib.hid hbl
      have HGA2 := Lib.hid hga
      have HBs : Hid (B ≤ wr.heap.size) := Lib.hid (by have := hga.size; rw [HS0.out] at this; exact this)
      clear hbl
      by_cases hlt : i < l.length
      · obtain ⟨b, off, rfl, hb, hp⟩ : ∃ b off, ao = some ⟨b, off, none⟩ ∧ b < w.heap.size ∧ EntsAt w b off l := by
          rcases H.out with ⟨_, e2⟩ | ⟨b, off, c, e, hb, hp⟩
          · rw [e2] at hlt
            exact absurd hlt (by simp)
          · cases e
            exact ⟨b, off, rfl, hb, hp⟩
        have hil : (i : Int) < (l.length : Int) := by omega
        obtain ⟨d1, d2, d3⟩ := (hp.gr (HG0.out.trans hga)) i hlt
        have hoke := HOK.out l[i] (List.getElem_mem hlt)
        have HNX : Hid (headE true l.length ++ restE true (l.take (i + 1)) = (headE true l.length ++ restE true (l.take i)) ++ (l[i]).txt true) := Lib.hid (by rw [restE_next true l i hlt, List.append_assoc])
        have hrl : (headE true l.length ++ restE true (l.take i)).length ≤ 98000 := by
          rw [List.length_append, restE_len (fun e he => HOK.out e (List.mem_of_mem_take he))]
          have h1 := sumE_le true (l.take i) fun e he => HOK.out e (List.mem_of_mem_take he)
          rw [List.length_take] at h1
          have h2 : (headE true l.length).length = 3 := rfl
          omega
        have hksz := hoke.key
        have hisz := hoke.item
        have hpgz := hoke.page
        generalize l[i] = en at *
        obtain ⟨ky, it, pgi⟩ := en
        simp only at d1 d2 d3 hksz hisz hpgz
        generalize headE true l.length ++ restE true (l.take i) = acc at *
        have hgb : Gr wr (wr.alloc (.cells #[.string ky, .string it, .int .i64 (pgi : Int)] 72)) := (Gr.refl wr).alloc _
        have k0 : (wr.alloc (.cells #[.string ky, .string it, .int .i64 (pgi : Int)] 72)).cell? ⟨wr.heap.size, 0, none⟩ = some (.string ky) := by rw [World.cell?_alloc_new]; rfl
        have k1 : (wr.alloc (.cells #[.string ky, .string it, .int .i64 (pgi : Int)] 72)).cell? ⟨wr.heap.size, 1, none⟩ = some (.string it) := by rw [World.cell?_alloc_new]; rfl
        have k2 : (wr.alloc (.cells #[.string ky, .string it, .int .i64 (pgi : Int)] 72)).cell? ⟨wr.heap.size, 2, none⟩ = some (.int .i64 (pgi : Int)) := by rw [World.cell?_alloc_new]; rfl
        have bn := bufNot_new HBL2.out (.cells #[.string ky, .string it, .int .i64 (pgi : Int)] 72)
        have hEB : wr.heap.size ≠ B := by have := bld_lt HBL2.out; omega
        have hbA := hgb.keeps b1
        have hbB := hgb.keeps b2
        have HB1 := Lib.hid (HBL2.out.gr hgb)
        have HGb := Lib.hid (HGA2.out.trans hgb)
        have HBs1 : Hid (B ≤ (wr.alloc (.cells #[.string ky, .string it, .int .i64 (pgi : Int)] 72)).heap.size) := Lib.hid (by have := hgb.size; have := HBs.out; omega)
        have BN := Lib.hid bn
        have HADD := add_two ky it (by omega)
        have hws := fun (a : List UInt8) (W : World) => writeString_b B B a ⟨(ky.data.toList ++ it.data.toList).toArray⟩ W
        have hwz : (⟨(ky.data.toList ++ it.data.toList).toArray⟩ : ByteArray).size = ky.size + it.size := by rw [ba_len, List.length_append, ← size_data, ← size_data]
        have hwd : (⟨(ky.data.toList ++ it.data.toList).toArray⟩ : ByteArray).data.toList = ky.data.toList ++ it.data.toList := by simp
        rw [hwd] at hws
        have hk8 : IntKind.u8.wrap (ky.size : Int) = ((ky.size.toUInt8.toNat : Nat) : Int) := (u8_of _).symm
        have hi8 : IntKind.u8.wrap (it.size : Int) = ((it.size.toUInt8.toNat : Nat) : Int) := (u8_of _).symm
        have HTX : Hid (En.txt ⟨ky, it, pgi⟩ true = [ky.size.toUInt8] ++ ([it.size.toUInt8] ++ (ky.data.toList ++ it.data.toList))) := Lib.hid rfl
        generalize ky.size.toUInt8 = q1 at *
        generalize it.size.toUInt8 = q2 at *
        generalize ky.data.toList ++ it.data.toList = kt at *
        generalize (⟨kt.toArray⟩ : ByteArray) = ks at *
        clear hp bn hga hgb hwd
        go_wp2_with fail
        refine (writeByte_x B B acc q1 _ HB1.out (by omega) HBs1.out).mono ?_
        rintro e w2 ⟨rfl, hb2, hbel2, hap2⟩
        have m1 := hap2.keeps hEB BN.out k1
        have m0 := hap2.keeps hEB BN.out k0
        have BN2 := Lib.hid (hap2.2 _ (lt_of_cell k0) hEB BN.out).2
        have HG2 := Lib.hid (gr_below HGb.out HS0.out hbel2)
        have HB2 := Lib.hid hb2
        have HBs2 : Hid (B ≤ w2.heap.size) := Lib.hid (Nat.le_trans HBs1.out hbel2.size)
        obtain ⟨b1, b2⟩ := C0.out _ HG2.out
        clear hb2 hbel2 hap2 k0 k1 k2 hbA hbB
        have hl2 : (acc ++ [q1]).length + 1 ≤ 1000000 := by rw [List.length_append]; simp; omega
        go_wp2_with fail
        refine (writeByte_x B B _ q2 _ HB2.out hl2 HBs2.out).mono ?_
        rintro e w3 ⟨rfl, hb3, hbel3, hap3⟩
        have n1 := hap3.keeps hEB BN2.out m1
        have n0 := hap3.keeps hEB BN2.out m0
        have HG3 := Lib.hid (gr_below HG2.out HS0.out hbel3)
        have HB3 := Lib.hid hb3
        have HBs3 : Hid (B ≤ w3.heap.size) := Lib.hid (Nat.le_trans HBs2.out hbel3.size)
        obtain ⟨b1, b2⟩ := C0.out _ HG3.out
        clear hb3 hbel3 hap3 m0 m1
        have hl3 : (acc ++ [q1] ++ [q2]).length + ks.size ≤ 1000000 := by rw [List.length_append, List.length_append, hwz]; simp; omega
        go_wp2_with fail
        refine (hws _ _ HB3.out hl3 HBs3.out).mono ?_
        rintro e w4 ⟨rfl, hb4, hbel4⟩
        have HG4 := Lib.hid (gr_below HG3.out HS0.out hbel4)
        have HB4 : Hid (Bld B B (headE true l.length ++ restE true (l.take (i + 1))) w4) := Lib.hid (by
          rw [HNX.out, HTX.out]
          simpa [List.append_assoc] using hb4)
        clear hb4 hbel4 hws
        go_wp2_with fail
        exact ⟨⟨i + 1, by omega, by go_num, HB4.out, HG4.out⟩, by simp [RowKit.intOf]; omega⟩
      · have hii : i = l.length := by omega
        subst hii
        rw [List.take_length] at HBL2
        have hrl := restE_len (leaf := true) (l := l) HOK.out
        have hln : (headE true l.length ++ restE true l).length = bytesE true l := by
          rw [List.length_append, hrl]
          rfl
        have HPE : Hid (pageE true l = ⟨((headE true l.length ++ restE true l) ++ List.replicate (1024 - bytesE true l) 0).toArray⟩) := Lib.hid (by
          unfold pageE txtE headE kindE
          simp)
        generalize headE true l.length ++ restE true l = tx at *
        obtain ⟨Z, hZ⟩ : ∃ Z, bytesE true l = Z := ⟨_, rfl⟩
        rw [hZ] at hln hb HPE
        have hlb : (Lib.byteCells tx).length = Z := by rw [Lib.byteCells_length, hln]
        have hst := Try.Builder_String_any_f B B tx wr (Lib.IsBuilderF.of HBL2.out) HBs.out
        have hle := fun W h => Try.Builder_Len_f B B (Lib.byteCells tx) W h
        rw [hlb] at hle
        have hrp : ∀ W, Calls Try.prog 37 #[.string ⟨#[0]⟩, .int .i64 (1024 - (Z : Int))] W (Ret W (.string ⟨(List.replicate (1024 - Z) (0 : UInt8)).toArray⟩)) := fun W => by
          have := repeat_t ⟨#[0]⟩ (1024 - Z) W (by omega) (show 1 ≤ 100000 by omega)
          rw [show ((1024 - Z : Nat) : Int) = 1024 - (Z : Int) by omega] at this
          rw [← repeat_replicate]
          exact this
        have hadd := add_bytes tx (List.replicate (1024 - Z) (0 : UInt8)) (by rw [hln, List.length_replicate]; omega)
        have hw1 : IntKind.i64.wrap (1024 - (Z : Int)) = 1024 - (Z : Int) := by rw [IntKind.wrap_i64]; omega
        generalize (⟨(List.replicate (1024 - Z) (0 : UInt8)).toArray⟩ : ByteArray) = zs at *
        generalize (⟨(tx ++ List.replicate (1024 - Z) (0 : UInt8)).toArray⟩ : ByteArray) = res at *
        generalize (⟨tx.toArray⟩ : ByteArray) = ts at *
        clear hga hZ
        go_wp2_with fail
        refine hst.mono ?_
        rintro e w2 ⟨rfl, hbf, hbel⟩
        have HG2 := Lib.hid (gr_below HGA2.out HS0.out hbel)
        clear hbel hst
        go_wp2_with fail
        refine (hle w2 hbf).mono ?_
        rintro e w3 ⟨rfl, rfl⟩
        clear hbf hle
        go_wp2_with fail
        refine (hrp w3).mono ?_
        rintro e w4 ⟨rfl, hg4⟩
        have HG4 := Lib.hid ((HG0.out.trans HG2.out).trans hg4)
        clear hg4 hrp
        go_wp2_with fail
        go_ret
        exact Ret.mk (by rw [HPE.out]; rfl) HG4.out
  | false =>
    have hwr := fun W => write_b (w.heap.size + 1) (w.heap.size + 1) (w.heap.size + 1 + 1) 3 [] [2, c1, c2] W
    go_enter Try.func62, Try.ntmps62
    go_wp2_with fail
    refine (hwr _ (HBL.out.gr ((Gr.refl _).alloc _)) (by simp) (by simp) (fun j hj => by
      have e1 : w.heap.size + 1 + 1 = ((w.alloc (.cells #[.int .i64 (p : Int), .bool false, .slice ao l.length ca] 84)).alloc (.cells #[.pointer none, .slice none 0 0] 115)).heap.size := by simp
      rw [e1, World.cell?_alloc_new]
      match j, hj with
      | 0, _ => rfl
      | 1, _ => rfl
      | 2, _ => rfl) (by omega)).mono ?_
    rintro e w1 ⟨rfl, hb1, hbel1, _⟩
    have hb1 : Bld (w.heap.size + 1) (w.heap.size + 1) (headE false l.length ++ restE false (l.take 0)) w1 := by
      rw [HH.out]
      exact hb1
    have hga1 : Gr (w.alloc (.cells #[.int .i64 (p : Int), .bool false, .slice ao l.length ca] 84)) w1 := by
      rw [← hsz0] at hbel1
      exact Below.trans (HGA.out.alloc _) hbel1
    clear hwr hbel1
    generalize w.alloc (.cells #[.int .i64 (p : Int), .bool false, .slice ao l.length ca] 84) = A0 at *
    obtain ⟨B, hB⟩ : ∃ B, w.heap.size + 1 = B := ⟨_, rfl⟩
    obtain ⟨NB, hNB⟩ : ∃ NB, w.heap.size = NB := ⟨_, rfl⟩
    rw [hB] at hb1 hsz0 HBL ⊢
    rw [hNB] at C0 ⊢
    have HBn := Lib.hid hB
    clear hB hNB b1 b2
    obtain ⟨b1, b2⟩ := C0.out _ hga1
    have HB1 := Lib.hid hb1
    have HA1 := Lib.hid hga1
    have HS0 := Lib.hid hsz0
    clear hb1 hga1 hsz0
    go_wp2_with fail
    go_loopw [24] (fun iv w' => ∃ i : Nat, i ≤ l.length ∧ iv = .int .i64 i ∧ Bld B B (headE false l.length ++ restE false (l.take i)) w' ∧ Gr A0 w') (fun iv _ => l.length - (RowKit.intOf iv).toNat)
    case atStart => exact ⟨0, Nat.zero_le _, rfl, HB1.out, HA1.out⟩
    case round =>
      obtain ⟨i, hi, rfl, hbl, hga⟩ := hrel
      obtain ⟨b1, b2⟩ := C0.out _ hga
      have HBL2 := Lib.hid hbl
      have HGA2 := Lib.hid hga
      have HBs : Hid (B ≤ wr.heap.size) := Lib.hid (by have := hga.size; rw [HS0.out] at this; exact this)
      clear hbl
      by_cases hlt : i < l.length
      · obtain ⟨b, off, rfl, hb, hp⟩ : ∃ b off, ao = some ⟨b, off, none⟩ ∧ b < w.heap.size ∧ EntsAt w b off l := by
          rcases H.out with ⟨_, e2⟩ | ⟨b, off, c, e, hb, hp⟩
          · rw [e2] at hlt
            exact absurd hlt (by simp)
          · cases e
            exact ⟨b, off, rfl, hb, hp⟩
        have hil : (i : Int) < (l.length : Int) := by omega
        obtain ⟨d1, d2, d3⟩ := (hp.gr (HG0.out.trans hga)) i hlt
        have hoke := HOK.out l[i] (List.getElem_mem hlt)
        have HNX : Hid (headE false l.length ++ restE false (l.take (i + 1)) = (headE false l.length ++ restE false (l.take i)) ++ (l[i]).txt false) := Lib.hid (by rw [restE_next false l i hlt, List.append_assoc])
        have hrl : (headE false l.length ++ restE false (l.take i)).length ≤ 98000 := by
          rw [List.length_append, restE_len (fun e he => HOK.out e (List.mem_of_mem_take he))]
          have h1 := sumE_le false (l.take i) fun e he => HOK.out e (List.mem_of_mem_take he)
          rw [List.length_take] at h1
          have h2 : (headE false l.length).length = 3 := rfl
          omega
        have hksz := hoke.key
        have hisz := hoke.item
        have hpgz := hoke.page
        generalize l[i] = en at *
        obtain ⟨ky, it, pgi⟩ := en
        simp only at d1 d2 d3 hksz hisz hpgz
        generalize headE false l.length ++ restE false (l.take i) = acc at *
        have hgb : Gr wr (wr.alloc (.cells #[.string ky, .string it, .int .i64 (pgi : Int)] 72)) := (Gr.refl wr).alloc _
        have k0 : (wr.alloc (.cells #[.string ky, .string it, .int .i64 (pgi : Int)] 72)).cell? ⟨wr.heap.size, 0, none⟩ = some (.string ky) := by rw [World.cell?_alloc_new]; rfl
        have k1 : (wr.alloc (.cells #[.string ky, .string it, .int .i64 (pgi : Int)] 72)).cell? ⟨wr.heap.size, 1, none⟩ = some (.string it) := by rw [World.cell?_alloc_new]; rfl
        have k2 : (wr.alloc (.cells #[.string ky, .string it, .int .i64 (pgi : Int)] 72)).cell? ⟨wr.heap.size, 2, none⟩ = some (.int .i64 (pgi : Int)) := by rw [World.cell?_alloc_new]; rfl
        have bn := bufNot_new HBL2.out (.cells #[.string ky, .string it, .int .i64 (pgi : Int)] 72)
        have hEB : wr.heap.size ≠ B := by have := bld_lt HBL2.out; omega
        have hbA := hgb.keeps b1
        have hbB := hgb.keeps b2
        have HB1 := Lib.hid (HBL2.out.gr hgb)
        have HGb := Lib.hid (HGA2.out.trans hgb)
        have HBs1 : Hid (B ≤ (wr.alloc (.cells #[.string ky, .string it, .int .i64 (pgi : Int)] 72)).heap.size) := Lib.hid (by have := hgb.size; have := HBs.out; omega)
        have BN := Lib.hid bn
        have HADD := add_two ky it (by omega)
        have hws := fun (a : List UInt8) (W : World) => writeString_b B B a ⟨(ky.data.toList ++ it.data.toList).toArray⟩ W
        have hwz : (⟨(ky.data.toList ++ it.data.toList).toArray⟩ : ByteArray).size = ky.size + it.size := by rw [ba_len, List.length_append, ← size_data, ← size_data]
        have hwd : (⟨(ky.data.toList ++ it.data.toList).toArray⟩ : ByteArray).data.toList = ky.data.toList ++ it.data.toList := by simp
        rw [hwd] at hws
        have hk8 : IntKind.u8.wrap (ky.size : Int) = ((ky.size.toUInt8.toNat : Nat) : Int) := (u8_of _).symm
        have hp1 : IntKind.u8.wrap ((pgi : Int) / 256) = (((pgi / 256).toUInt8.toNat : Nat) : Int) := by
          rw [u8_of]
          show (pgi : Int) / 256 % 256 = _
          omega
        have hp2 : IntKind.u8.wrap (pgi : Int) = ((pgi.toUInt8.toNat : Nat) : Int) := (u8_of _).symm
        have HTX : Hid (En.txt ⟨ky, it, pgi⟩ false = [ky.size.toUInt8] ++ ([(pgi / 256).toUInt8, pgi.toUInt8] ++ (ky.data.toList ++ it.data.toList))) := Lib.hid (by
          unfold En.txt En.head
          simp only [Bool.false_eq_true, if_false]
          rw [two8_nat _ (by omega)]
          rfl)
        generalize ky.size.toUInt8 = q1 at *
        generalize (pgi / 256).toUInt8 = q2 at *
        generalize pgi.toUInt8 = q3 at *
        generalize ky.data.toList ++ it.data.toList = kt at *
        generalize (⟨kt.toArray⟩ : ByteArray) = ks at *
        clear hp bn hga hgb hwd
        go_wp2_with fail
        refine (writeByte_x B B acc q1 _ HB1.out (by omega) HBs1.out).mono ?_
        rintro e w2 ⟨rfl, hb2, hbel2, hap2⟩
        have m2 := hap2.keeps hEB BN.out k2
        have m1 := hap2.keeps hEB BN.out k1
        have m0 := hap2.keeps hEB BN.out k0
        have BN2 := Lib.hid (hap2.2 _ (lt_of_cell k0) hEB BN.out).2
        have HG2 := Lib.hid (gr_below HGb.out HS0.out hbel2)
        have HB2 := Lib.hid hb2
        have HBs2 : Hid (B ≤ w2.heap.size) := Lib.hid (Nat.le_trans HBs1.out hbel2.size)
        obtain ⟨b1, b2⟩ := C0.out _ HG2.out
        clear hb2 hbel2 hap2 k0 k1 k2 hbA hbB
        have hl2 : (acc ++ [q1]).length + [q2, q3].length ≤ 1000000 := by rw [List.length_append]; simp; omega
        have hgc : Gr w2 (w2.alloc (.cells #[.int .u8 (q2.toNat : Int), .int .u8 (q3.toNat : Int)] 5)) := (Gr.refl w2).alloc _
        have hwr2 := write_b B B w2.heap.size 2 (acc ++ [q1]) [q2, q3] _ (HB2.out.gr hgc) hl2 (by have := HBs2.out; have := hgc.size; omega) (fun j hj => by
          rw [World.cell?_alloc_new]
          match j, hj with
          | 0, _ => rfl
          | 1, _ => rfl) (by have := bld_lt HB2.out; omega)
        have HWR := Lib.hid hwr2
        clear hwr2
        go_wp2_with fail
        refine HWR.out.mono ?_
        rintro e w3 ⟨rfl, hb3, hbel3, hap3⟩
        have hbn3 : BufNot B wr.heap.size (w2.alloc (.cells #[.int .u8 (q2.toNat : Int), .int .u8 (q3.toNat : Int)] 5)) := fun v hv => by
          have hlt2 := bld_lt HB2.out
          rw [(hgc.cell 1 hlt2)] at hv
          exact BN2.out v hv
        have n1 := hap3.keeps hEB hbn3 (hgc.keeps m1)
        have n0 := hap3.keeps hEB hbn3 (hgc.keeps m0)
        have HG3 := Lib.hid (gr_below (HG2.out.alloc _) HS0.out hbel3)
        have HB3 := Lib.hid hb3
        have HBs3 : Hid (B ≤ w3.heap.size) := Lib.hid (Nat.le_trans HBs2.out (Nat.le_trans hgc.size hbel3.size))
        obtain ⟨b1, b2⟩ := C0.out _ HG3.out
        clear hb3 hbel3 hap3 m0 m1 m2 hgc hbn3
        have hl3 : (acc ++ [q1] ++ [q2, q3]).length + ks.size ≤ 1000000 := by rw [List.length_append, List.length_append, hwz]; simp; omega
        go_wp2_with fail
        refine (hws _ _ HB3.out hl3 HBs3.out).mono ?_
        rintro e w4 ⟨rfl, hb4, hbel4⟩
        have HG4 := Lib.hid (gr_below HG3.out HS0.out hbel4)
        have HB4 : Hid (Bld B B (headE false l.length ++ restE false (l.take (i + 1))) w4) := Lib.hid (by
          rw [HNX.out, HTX.out]
          simpa [List.append_assoc] using hb4)
        clear hb4 hbel4 hws
        go_wp2_with fail
        exact ⟨⟨i + 1, by omega, by go_num, HB4.out, HG4.out⟩, by simp [RowKit.intOf]; omega⟩
      · have hii : i = l.length := by omega
        subst hii
        rw [List.take_length] at HBL2
        have hrl := restE_len (leaf := false) (l := l) HOK.out
        have hln : (headE false l.length ++ restE false l).length = bytesE false l := by
          rw [List.length_append, hrl]
          rfl
        have HPE : Hid (pageE false l = ⟨((headE false l.length ++ restE false l) ++ List.replicate (1024 - bytesE false l) 0).toArray⟩) := Lib.hid (by
          unfold pageE txtE headE kindE
          simp)
        generalize headE false l.length ++ restE false l = tx at *
        obtain ⟨Z, hZ⟩ : ∃ Z, bytesE false l = Z := ⟨_, rfl⟩
        rw [hZ] at hln hb HPE
        have hlb : (Lib.byteCells tx).length = Z := by rw [Lib.byteCells_length, hln]
        have hst := Try.Builder_String_any_f B B tx wr (Lib.IsBuilderF.of HBL2.out) HBs.out
        have hle := fun W h => Try.Builder_Len_f B B (Lib.byteCells tx) W h
        rw [hlb] at hle
        have hrp : ∀ W, Calls Try.prog 37 #[.string ⟨#[0]⟩, .int .i64 (1024 - (Z : Int))] W (Ret W (.string ⟨(List.replicate (1024 - Z) (0 : UInt8)).toArray⟩)) := fun W => by
          have := repeat_t ⟨#[0]⟩ (1024 - Z) W (by omega) (show 1 ≤ 100000 by omega)
          rw [show ((1024 - Z : Nat) : Int) = 1024 - (Z : Int) by omega] at this
          rw [← repeat_replicate]
          exact this
        have hadd := add_bytes tx (List.replicate (1024 - Z) (0 : UInt8)) (by rw [hln, List.length_replicate]; omega)
        have hw1 : IntKind.i64.wrap (1024 - (Z : Int)) = 1024 - (Z : Int) := by rw [IntKind.wrap_i64]; omega
        generalize (⟨(List.replicate (1024 - Z) (0 : UInt8)).toArray⟩ : ByteArray) = zs at *
        generalize (⟨(tx ++ List.replicate (1024 - Z) (0 : UInt8)).toArray⟩ : ByteArray) = res at *
        generalize (⟨tx.toArray⟩ : ByteArray) = ts at *
        clear hga hZ
        go_wp2_with fail
        refine hst.mono ?_
        rintro e w2 ⟨rfl, hbf, hbel⟩
        have HG2 := Lib.hid (gr_below HGA2.out HS0.out hbel)
        clear hbel hst
        go_wp2_with fail
        refine (hle w2 hbf).mono ?_
        rintro e w3 ⟨rfl, rfl⟩
        clear hbf hle
        go_wp2_with fail
        refine (hrp w3).mono ?_
        rintro e w4 ⟨rfl, hg4⟩
        have HG4 := Lib.hid ((HG0.out.trans HG2.out).trans hg4)
        clear hg4 hrp
        go_wp2_with fail
        go_ret
        exact Ret.mk (by rw [HPE.out]; rfl) HG4.out
end Go.Proofs.Ytmjkalpjciddbaa
