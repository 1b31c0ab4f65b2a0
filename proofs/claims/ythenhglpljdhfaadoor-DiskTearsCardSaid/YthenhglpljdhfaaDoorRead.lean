/-
  Contract of value.Read.
-/
import Derived.Test.YthenhglpljdhfaaDoorKey
import Derived.Test.YthenhglpljdhfaaDoorReadP
import Derived.BigRegion
import Derived.ChangeAlike
import Derived.RegionTactic
namespace Go.Proofs.YthenhglpljdhfaaDoor
open Go Go.RowKit

/-- What value.Read hands back. -/
def OwnV (a0 w : World) (v : Value) (xs : List GVal) : Prop := w.ownsRow a0.heap.size 110 3 v xs.length (xs.flatMap fun x => [.int .i64 x.kind, .int .i64 x.num, .string x.text])
def ReadPost (w : World) (l : List UInt8) (e : Ending) (w' : World) : Prop :=
  match readL l with
  | none => e = .returned (.tuple #[.slice none 0 0, .iface 31 (.int .i64 3)]) ∧ Gr w w'
  | some xs => ∃ v, e = .returned (.tuple #[v, .nilIface]) ∧ OwnV w w' v xs ∧ Gr w w'
theorem info_val : (Tryd.prog.info? 110).map (fun i => (i.zero, i.size, i.bytes)) = some (some (.agg #[.int .i64 0, .int .i64 0, .string ⟨#[]⟩]), 3, 32) := by kernel_rfl

theorem not_byte {k c : UInt8} (h : k ≠ c) : ¬ (k.toNat : Int) = (c.toNat : Int) := fun e => h (UInt8.toNat_inj.1 (by omega))
theorem bytes_ext {a b : ByteArray} (h : a.data.toList = b.data.toList) : a = b := by
  cases a; cases b; simp only [ByteArray.mk.injEq]; exact Array.ext' h
/-- The library's variable that says how long a text may be for its quick search. -/
def MaxAt (w : World) : Prop := ∃ m : Int, w.cell? ⟨3, 0, none⟩ = some (.int .i64 m)
theorem MaxAt.gr {w w' : World} (h : MaxAt w) (g : Gr w w') : MaxAt w' := by
  obtain ⟨m, h⟩ := h
  exact ⟨m, g.keeps h⟩
theorem strings_Cut_gr (s sep : ByteArray) (w : World) (hs : s.size < 4294967281) (hm : MaxAt w) :
    Calls Tryd.prog 69 #[.string s, .string sep] w (Ret w (.tuple #[.string ⟨(Lib.cut s.data.toList sep.data.toList).1.toArray⟩, .string ⟨(Lib.cut s.data.toList sep.data.toList).2.1.toArray⟩, .bool (Lib.cut s.data.toList sep.data.toList).2.2])) := by
  obtain ⟨m, hm⟩ := hm
  refine (Tryd.strings_Cut s sep m w hs hm).mono ?_
  rintro e w' ⟨rfl, n, rfl⟩
  exact ⟨rfl, (Gr.refl w).drewN n⟩
theorem ext_tail (t : ByteArray) (k : UInt8) (r : List UInt8) (h : t.data.toList = k :: r) : t.extract 1 t.size = ⟨r.toArray⟩ := by
  apply bytes_ext
  rw [Lib.extract_data, h, List.drop_one, List.tail_cons, List.take_of_length_le (by rw [size_data, h]; simp)]
theorem head_is (t : ByteArray) (k : UInt8) (r : List UInt8) (h : t.data.toList = k :: r) (h0 : 0 < t.size) : t[0] = k := by
  rw [get_data t 0 h0]
  simp [h]

theorem ownV_snoc {a0 w : World} {v : Value} {xs : List GVal} {x : GVal} (h : w.ownsRow a0.heap.size 110 3 v (xs.length + 1) ((xs.flatMap fun x => [.int .i64 x.kind, .int .i64 x.num, .string x.text]) ++ [.int .i64 x.kind, .int .i64 x.num, .string x.text])) : OwnV a0 w v (xs ++ [x]) := by
  unfold OwnV
  rw [List.length_append, List.flatMap_append]
  simpa using h
theorem OwnV.row {a0 w : World} {v : Value} {xs : List GVal} (h : OwnV a0 w v xs) : w.ownsRow a0.heap.size 110 3 v xs.length (xs.flatMap fun x => [.int .i64 x.kind, .int .i64 x.num, .string x.text]) := h
theorem ownsRow_setCell_at {w : World} {B : Nat} {e : TypeId} {size n : Nat} {v : Value} {xs : List Value} (h : w.ownsRow B e size v n xs) {a : Addr} {u : Value} (hne : ¬ v.ownBlock = some a.block) : (w.setCell a u).ownsRow B e size v n xs := by
  obtain ⟨h1, h2⟩ := h
  refine ⟨h1, ?_⟩
  rcases h2 with h2 | ⟨g, cap, cur, rfl, hg, hh, r⟩
  · exact .inl h2
  · exact .inr ⟨g, cap, cur, rfl, hg, by rw [Below.heap_setCell _ _ _ _ (fun e => hne (by rw [← e]; rfl))]; exact hh, r⟩
theorem right_short (x : List UInt8) (h : rightB ⟨2, 0, ⟨x.toArray⟩⟩ = true) : ¬ 40 < x.length := by
  unfold rightB at h
  simp at h
  omega
theorem right_long (x : List UInt8) (hx : x.all (· != 0) = true) (h : rightB ⟨2, 0, ⟨x.toArray⟩⟩ = false) : 40 < x.length := by
  unfold rightB at h
  simp only [hx] at h
  simp at h
  omega
theorem valCells_one (a b : Int) (s : ByteArray) : ∀ u ∈ [Value.int .i64 a, Value.int .i64 b, Value.string s], u.oneCell' = true := by
  intro u hu
  simp only [List.mem_cons, List.mem_nil_iff, or_false] at hu
  rcases hu with rfl | rfl | rfl <;> rfl
theorem read_more {l : List UInt8} {us : List GVal} {k : UInt8} {s r : List UInt8} {v : GVal} (h : readL l = (readL (k :: s)).map (us ++ ·)) (hp : parse1 (k :: s) = some (v, r)) : readL l = (readL r).map ((us ++ [v]) ++ ·) := by
  rw [h, readL_some _ _ _ _ hp, Option.map_map]
  congr 1
  funext x
  simp
theorem read_bad {l : List UInt8} {us : List GVal} {k : UInt8} {s : List UInt8} (h : readL l = (readL (k :: s)).map (us ++ ·)) (hp : parse1 (k :: s) = none) : readL l = none := by
  rw [h, readL_none _ _ hp]; rfl

theorem or_byte (U c : Nat) (hU : U < 72057594037927936) (hc : c < 256) : bits BinOp.or IntKind.u64 ((U : Int) * 256) (c : Int) = ((U * 256 + c : Nat) : Int) := by
  have e : ((U : Int) * 256) = ((U * 256 : Nat) : Int) := by omega
  rw [e]
  show IntKind.u64.wrap ((BitVec.ofInt 64 ((U * 256 : Nat) : Int) ||| BitVec.ofInt 64 (c : Int)).toNat : Int) = _
  rw [BitVec.toNat_or, ofInt_64 _ (by omega), ofInt_64 _ (by omega), IntKind.wrap_u64]
  have h := Nat.two_pow_add_eq_or_of_lt (i := 8) (b := c) hc U
  rw [Nat.mul_comm] at h
  rw [show (2 : Nat) ^ 8 = 256 from rfl] at h
  rw [← h]
  omega
theorem num_back (M : Nat) (h : M < 18446744073709551616) : wrap64 (bits BinOp.xor IntKind.u64 (M : Int) 9223372036854775808) = (M : Int) - 9223372036854775808 := by
  have hb : bits BinOp.xor IntKind.u64 (M : Int) 9223372036854775808 = IntKind.u64.wrap ((BitVec.ofInt 64 (M : Int) ^^^ BitVec.ofInt 64 ((9223372036854775808 : Nat) : Int)).toNat : Int) := rfl
  rw [hb, BitVec.toNat_xor, ofInt_64 M h, ofInt_64 _ (by omega), IntKind.wrap_u64]
  have e : ((M ^^^ 9223372036854775808 : Nat) : Int) = if M < 9223372036854775808 then (M : Int) + 9223372036854775808 else (M : Int) - 9223372036854775808 := by
    split
    · rename_i h1
      have := xor_top M h1
      rw [Nat.xor_comm, show (9223372036854775808 : Nat) = 2 ^ 63 from rfl, ← this]
      omega
    · rename_i h1
      obtain ⟨y, rfl⟩ := Nat.exists_eq_add_of_le (Nat.le_of_not_lt h1)
      have := xor_top y (by omega)
      rw [show (9223372036854775808 : Nat) = 2 ^ 63 from rfl, this, Nat.xor_comm (2 ^ 63) y, Nat.xor_assoc, Nat.xor_self, Nat.xor_zero]
      rw [Nat.xor_comm, ← this]
      omega
  rw [e]
  unfold wrap64
  split <;> omega
theorem beN_snoc (R : ByteArray) (q : Nat) (h : q < R.size) : beN (R.data.toList.take (q + 1)) = beN (R.data.toList.take q) * 256 + R[q].toNat := by
  have h' : q < R.data.toList.length := by rw [← size_data]; exact h
  unfold beN
  rw [List.take_succ_eq_append_getElem h', List.foldl_append, get_data R q h]
  rfl
theorem beN_lt (l : List UInt8) : beN l < 256 ^ l.length := by
  have : ∀ (l : List UInt8) (n : Nat), l.foldl (fun n c => n * 256 + c.toNat) n < (n + 1) * 256 ^ l.length := by
    intro l
    induction l with
    | nil => intro n; simp
    | cons c l ih =>
      intro n
      have h1 := ih (n * 256 + c.toNat)
      have h2 := UInt8.toNat_lt c
      rw [List.foldl_cons, List.length_cons, Nat.pow_succ']
      refine Nat.lt_of_lt_of_le h1 ?_
      rw [← Nat.mul_assoc]
      refine Nat.mul_le_mul_right _ ?_
      omega
  simpa [beN] using this l 0

/-- One round of reading: what it comes to. -/
def ReadInv (w : World) (l : List UInt8) (bound : Nat) (x u : Value) (w' : World) : Prop :=
  ∃ (t : ByteArray) (us : List GVal), x = .string t ∧ t.size + us.length ≤ bound ∧ Gr w w' ∧ OwnV w w' u us ∧ readL l = (readL t.data.toList).map (us ++ ·)
def lenOf : Value → Nat | .string t => t.size | _ => 0

set_option maxRecDepth 100000 in
set_option maxHeartbeats 3200000 in
theorem read_t (s : ByteArray) (hs : s.size < 4294967281) (w : World) (hm : MaxAt w) : Calls Tryd.prog 47 #[.string s] w (ReadPost w s.data.toList) := by
  obtain ⟨i0, hi, hz0, hz1, hz2⟩ := info_parts info_val
  have HM := Lib.hid hm
  clear hm
  go_enter Tryd.func47, Tryd.ntmps47
  go_wp2_with fail
  go_loopw [0, 4] (fun x u w' => ReadInv w s.data.toList s.size x u w') (fun x _ _ => lenOf x)
  case atStart => exact ⟨s, [], rfl, by simp, Gr.refl _, ⟨rfl, .inl ⟨rfl, rfl⟩⟩, by simp⟩
  case round =>
    obtain ⟨t, us, rfl, hsz, hg, ho, hrd⟩ := hrel
    have HO := Lib.hid ho
    have HR := Lib.hid hrd
    clear ho hrd
    cases hte : t.data.toList with
    | nil =>
      have hb : (!t.toList.isEmpty) = false := by rw [ByteArray.toList_eq, hte]; rfl
      have HT := Lib.hid hte
      clear hte
      go_wp2_with fail
      go_ret2
      unfold ReadPost
      rw [HR.out, HT.out]
      exact ⟨_, rfl, by simpa [readL, readF] using HO.out, hg⟩
    | cons k r =>
      have hb : (!t.toList.isEmpty) = true := by rw [ByteArray.toList_eq, hte]; rfl
      have hpos : 0 < t.size := by rw [size_data, hte]; simp
      have hk := head_is t k r hte hpos
      obtain ⟨R, rfl⟩ : ∃ R : ByteArray, R.data.toList = r := ⟨⟨r.toArray⟩, rfl⟩
      have hrl : t.size = R.size + 1 := by rw [size_data, hte, size_data]; rfl
      have hx : t.extract 1 (R.size + 1) = R := by rw [← hrl, ext_tail t k _ hte]
      have HRE : Hid (readL s.data.toList = (readL (k :: R.data.toList)).map (us ++ ·)) := Lib.hid (by rw [HR.out, hte])
      have hk8 := UInt8.toNat_lt k
      have HTL := Lib.hid hrl
      have hul : us.length + R.size + 1 ≤ s.size := by omega
      clear hte HR
      have hks : k = 1 ∨ k = 2 ∨ k = 3 ∨ (k ≠ 1 ∧ k ≠ 2 ∧ k ≠ 3) := by
        by_cases h1 : k = 1
        · exact .inl h1
        · by_cases h2 : k = 2
          · exact .inr (.inl h2)
          · by_cases h3 : k = 3
            · exact .inr (.inr (.inl h3))
            · exact .inr (.inr (.inr ⟨h1, h2, h3⟩))
      rcases hks with rfl | rfl | rfl | ⟨h1, h2, h3⟩
      · go_wp2_with fail
        refine (right_t ⟨0, 0, ⟨#[]⟩⟩ (by decide) _).mono ?_
        rintro e w1 ⟨rfl, hg1⟩
        rw [show rightB ⟨0, 0, ⟨#[]⟩⟩ = true from rfl]
        have k0 := hg1.keeps (b := wr.heap.size) (o := 0) (v := .int .i64 0) (by rw [World.cell?_alloc_new]; rfl)
        have k1 := hg1.keeps (b := wr.heap.size) (o := 1) (v := .int .i64 0) (by rw [World.cell?_alloc_new]; rfl)
        have k2 := hg1.keeps (b := wr.heap.size) (o := 2) (v := .string ⟨#[]⟩) (by rw [World.cell?_alloc_new]; rfl)
        have ho1 := ownsRow_gr (OwnV.row HO.out) (((Gr.refl _).alloc _).trans hg1)
        have hgw := (hg.alloc _).trans hg1
        go_wp2_with (at_builtin; refine append_one (a0 := w) rfl _ _ 71 rfl 110 i0 (.agg #[.int .i64 0, .int .i64 0, .string ⟨#[]⟩]) 3 32 Tryd.underlying71 hi hz0 hz1 hz2 rfl (by decide) _ _ _ rfl ho1 [_, _, _] rfl (valCells_one _ _ _) rfl hgw (by omega) (by omega) ?_; intro v4 w4 hown4 hg4)
        exact ⟨⟨R, us ++ [⟨0, 0, ⟨#[]⟩⟩], rfl, by rw [List.length_append]; simp; omega, hg4, ownV_snoc hown4, read_more HRE.out rfl⟩, by show R.size < t.size; rw [HTL.out]; omega⟩
      · by_cases h8 : R.size < 8
        · go_wp2_with fail
          refine bodyPost_ret (v := .tuple #[.slice none 0 0, .iface 31 (.int .i64 3)]) (by simp [results, Tryd.results47, go_sem]) rfl ?_
          unfold ReadPost
          rw [read_bad HRE.out (by rw [parse1, if_neg (by decide), if_pos rfl, if_pos (by rw [← size_data]; exact h8)])]
          exact ⟨rfl, hg.alloc _⟩
        · go_wp2_with fail
          go_loop [31, 6] (fun i u => ∃ q : Nat, q ≤ 8 ∧ i = .int .i64 q ∧ u = .int .u64 (beN (R.data.toList.take q))) (fun i _ => 8 - (intOf i).toNat)
          case atStart => exact ⟨0, by omega, rfl, rfl⟩
          case round =>
            obtain ⟨q, hq, rfl, rfl⟩ := hrel
            by_cases hq8 : q < 8
            · have hqr : q < R.size := by omega
              have hbl := beN_lt (R.data.toList.take q)
              have hbs := beN_snoc R q hqr
              generalize beN (R.data.toList.take q) = U at *
              have HBS := Lib.hid hbs
              clear hbs
              have hc8 := UInt8.toNat_lt R[q]
              have hU : U < 72057594037927936 := Nat.lt_of_lt_of_le hbl (by
                rw [show (72057594037927936 : Nat) = 256 ^ 7 from rfl]
                exact Nat.pow_le_pow_right (by omega) (by rw [List.length_take]; omega))
              clear hbl
              go_wp2_with fail
              refine ⟨⟨q + 1, by omega, by go_num, ?_⟩, by simp [intOf]; omega⟩
              rw [HBS.out, or_byte U R[q].toNat hU hc8]
            · obtain rfl : q = 8 := by omega
              have hbl := beN_lt (R.data.toList.take 8)
              have hM : beN (R.data.toList.take 8) < 18446744073709551616 := Nat.lt_of_lt_of_le hbl (by
                rw [show (18446744073709551616 : Nat) = 256 ^ 8 from rfl]
                exact Nat.pow_le_pow_right (by omega) (by rw [List.length_take]; omega))
              clear hbl
              generalize hMM : beN (R.data.toList.take 8) = M at *
              have HMM := Lib.hid hMM
              have HM := Lib.hid hM
              clear hMM hM
              go_wp2_with fail
              go_region
              go_wp2_with fail
              rw [num_back M HM.out]
              have hpr : parse1 (2 :: R.data.toList) = some (⟨1, (M : Int) - 9223372036854775808, ⟨#[]⟩⟩, (R.extract 8 R.size).data.toList) := by
                rw [parse1, if_neg (by decide), if_pos rfl, if_neg (by rw [← size_data]; omega), HMM.out, Lib.extract_data, List.take_of_length_le (by rw [List.length_drop, ← size_data]; omega)]
              have hxs : (R.extract 8 R.size).size ≤ R.size := by rw [ByteArray.size_extract]; omega
              generalize hnn : (M : Int) - 9223372036854775808 = n at *
              generalize R.extract 8 R.size = R2 at *
              have HP := Lib.hid hpr
              have HNN := Lib.hid hnn
              clear hpr hnn
              refine (right_t ⟨1, n, ⟨#[]⟩⟩ (by show (0 : Nat) ≤ 9223372036854775807; omega) _).mono ?_
              rintro e w1 ⟨rfl, hg1⟩
              rw [show rightB ⟨1, n, ⟨#[]⟩⟩ = true from rfl]
              have k0 := hg1.keeps (b := wr.heap.size) (o := 0) (v := .int .i64 1) (by rw [World.cell?_drew, World.cell?_alloc_new]; rfl)
              have k1 := hg1.keeps (b := wr.heap.size) (o := 1) (v := .int .i64 n) (by rw [World.cell?_drew, World.cell?_alloc_new]; rfl)
              have k2 := hg1.keeps (b := wr.heap.size) (o := 2) (v := .string ⟨#[]⟩) (by rw [World.cell?_drew, World.cell?_alloc_new]; rfl)
              have ho1 := ownsRow_gr (OwnV.row HO.out) (((Gr.refl _).alloc _).drew.trans hg1)
              have hgw := (hg.alloc _).drew.trans hg1
              clear hg1
              go_wp2_with (at_builtin; refine append_one (a0 := w) rfl _ _ 71 rfl 110 i0 (.agg #[.int .i64 0, .int .i64 0, .string ⟨#[]⟩]) 3 32 Tryd.underlying71 hi hz0 hz1 hz2 rfl (by decide) _ _ _ rfl ho1 [_, _, _] rfl (valCells_one _ _ _) rfl hgw (by omega) (by omega) ?_; intro v4 w4 hown4 hg4)
              exact ⟨⟨R2, us ++ [⟨1, n, ⟨#[]⟩⟩], rfl, by rw [List.length_append]; simp; omega, hg4, ownV_snoc hown4, read_more HRE.out HP.out⟩, by show R2.size < t.size; rw [HTL.out]; omega⟩
      · have hcz := strings_Cut_gr R ⟨#[0]⟩
        cases hal : R.data.toList.all (· != 0)
        · have hcu := cut_some R.data.toList hal
          have htw := tw_all R.data.toList
          have hlw : (R.data.toList.takeWhile (· != 0)).length ≤ R.size := by rw [size_data]; exact (List.takeWhile_prefix _).length_le
          have hpr : parse1 (3 :: R.data.toList) = if 40 < (R.data.toList.takeWhile (· != 0)).length then none else some (⟨2, 0, ⟨(R.data.toList.takeWhile (· != 0)).toArray⟩⟩, R.data.toList.drop ((R.data.toList.takeWhile (· != 0)).length + 1)) := by
            rw [parse1, if_neg (by decide), if_neg (by decide), if_pos rfl, if_neg (by rw [hal]; decide)]
          have hds : (R.data.toList.drop ((R.data.toList.takeWhile (· != 0)).length + 1)).length ≤ R.size := by rw [List.length_drop, ← size_data]; omega
          generalize R.data.toList.drop ((R.data.toList.takeWhile (· != 0)).length + 1) = r2 at *
          generalize R.data.toList.takeWhile (· != 0) = x at *
          have HCU := Lib.hid hcu
          have HP := Lib.hid hpr
          have HTW := Lib.hid htw
          clear hcu hpr htw hal hcz
          go_wp2_with fail
          refine (strings_Cut_gr R ⟨#[0]⟩ _ (by omega) (HM.out.gr (hg.alloc _))).mono ?_
          rintro e w1 ⟨rfl, hg1⟩
          rw [show (⟨#[0]⟩ : ByteArray).data.toList = [0] from rfl, HCU.out]
          simp only
          have k0 := hg1.keeps (b := wr.heap.size) (o := 0) (v := .int .i64 2) (by rw [World.cell?_alloc_new]; rfl)
          have k1 := hg1.keeps (b := wr.heap.size) (o := 1) (v := .int .i64 0) (by rw [World.cell?_alloc_new]; rfl)
          have k2 := hg1.keeps (b := wr.heap.size) (o := 2) (v := .string ⟨#[]⟩) (by rw [World.cell?_alloc_new]; rfl)
          have kf := (hg1.frozen (b := wr.heap.size) 2 (by simp)).trans (World.frozen?_alloc_new ..)
          have hs1 := hg1.size
          simp only [World.size_alloc] at hs1
          have ho1 := ownsRow_gr (OwnV.row HO.out) (((Gr.refl _).alloc _).trans hg1)
          have hgw := (hg.alloc _).trans hg1
          have hwb := hg.size
          have ho2 := ownsRow_setCell_at ho1 (a := ⟨wr.heap.size, 2, none⟩) (u := .string ⟨x.toArray⟩) (fun h => Nat.lt_irrefl _ (ownBlock_lt (OwnV.row HO.out) _ h))
          have hgs := hgw.setCell (p := ⟨wr.heap.size, 2, none⟩) hwb (.string ⟨x.toArray⟩)
          clear hg1 ho1 hgw
          cases hrb : rightB ⟨2, 0, ⟨x.toArray⟩⟩
          · have HRB := Lib.hid hrb
            have hp40 := right_long x HTW.out hrb
            have HPB := Lib.hid hp40
            clear hrb hp40
            go_wp2_with fail
            refine (right_t ⟨2, 0, ⟨x.toArray⟩⟩ (by rw [size_data]; show x.length ≤ _; omega) _).mono ?_
            rintro e w2 ⟨rfl, hg2⟩
            rw [HRB.out]
            go_wp2_with fail
            refine bodyPost_ret (v := .tuple #[.slice none 0 0, .iface 31 (.int .i64 3)]) (by simp [results, Tryd.results47, go_sem]) rfl ?_
            unfold ReadPost
            rw [read_bad HRE.out (by rw [HP.out, if_pos HPB.out])]
            exact ⟨rfl, hgs.trans hg2⟩
          · have HRB := Lib.hid hrb
            have hp40 := right_short x hrb
            have HPB := Lib.hid hp40
            clear hrb hp40
            go_wp2_with fail
            refine (right_t ⟨2, 0, ⟨x.toArray⟩⟩ (by rw [size_data]; show x.length ≤ _; omega) _).mono ?_
            rintro e w2 ⟨rfl, hg2⟩
            rw [HRB.out]
            have c0 := hg2.keeps (b := wr.heap.size) (o := 0) (v := .int .i64 2) (by rw [World.cell?_setCell_other (h := by intro h; injection h with _ h2 _; omega)]; exact k0)
            have c1 := hg2.keeps (b := wr.heap.size) (o := 1) (v := .int .i64 0) (by rw [World.cell?_setCell_other (h := by intro h; injection h with _ h2 _; omega)]; exact k1)
            have c2 := hg2.keeps (b := wr.heap.size) (o := 2) (v := .string ⟨x.toArray⟩) (World.cell?_setCell_same (h := k2) ..)
            clear k0 k1 k2 kf
            have ho3 := ownsRow_gr ho2 hg2
            have hg3 := hgs.trans hg2
            clear ho2 hgs hg2
            go_wp2_with (at_builtin; refine append_one (a0 := w) rfl _ _ 71 rfl 110 i0 (.agg #[.int .i64 0, .int .i64 0, .string ⟨#[]⟩]) 3 32 Tryd.underlying71 hi hz0 hz1 hz2 rfl (by decide) _ _ _ rfl ho3 [_, _, _] rfl (valCells_one _ _ _) rfl hg3 (by omega) (by omega) ?_; intro v4 w4 hown4 hg4)
            have hr2 : (⟨r2.toArray⟩ : ByteArray).size ≤ R.size := by rw [size_data]; exact hds
            exact ⟨⟨⟨r2.toArray⟩, us ++ [⟨2, 0, ⟨x.toArray⟩⟩], rfl, Nat.le_trans (Nat.add_le_add_right hr2 _) (by rw [List.length_append]; simp only [List.length_cons, List.length_nil]; omega), hg4, ownV_snoc hown4, read_more HRE.out (by rw [HP.out, if_neg HPB.out])⟩, Nat.lt_of_le_of_lt hr2 (by show R.size < t.size; rw [HTL.out]; omega)⟩
        · have hcu := cut_none R.data.toList hal
          have hpr : parse1 (3 :: R.data.toList) = none := by
            rw [parse1, if_neg (by decide), if_neg (by decide), if_pos rfl, if_pos hal]
          have HCU := Lib.hid hcu
          have HP := Lib.hid hpr
          clear hcu hpr hal hcz
          go_wp2_with fail
          refine (strings_Cut_gr R ⟨#[0]⟩ _ (by omega) (HM.out.gr (hg.alloc _))).mono ?_
          rintro e w1 ⟨rfl, hg1⟩
          rw [show (⟨#[0]⟩ : ByteArray).data.toList = [0] from rfl, HCU.out]
          simp only
          go_wp2_with fail
          refine bodyPost_ret (v := .tuple #[.slice none 0 0, .iface 31 (.int .i64 3)]) (by simp [results, Tryd.results47, go_sem]) rfl ?_
          unfold ReadPost
          rw [read_bad HRE.out HP.out]
          exact ⟨rfl, (hg.alloc _).trans hg1⟩
      · have g1 : ((k.toNat : Int) - 1 == 0) = false := by have := not_byte h1; simp at this ⊢; omega
        have g2 : ((k.toNat : Int) - 1 == 1) = false := by have := not_byte h2; simp at this ⊢; omega
        have g3 : ((k.toNat : Int) - 1 == 2) = false := by have := not_byte h3; simp at this ⊢; omega
        have hpr : parse1 (k :: R.data.toList) = none := by rw [parse1, if_neg h1, if_neg h2, if_neg h3]
        have HP := Lib.hid hpr
        clear hpr h1 h2 h3
        have g4 : 0 ≤ (k.toNat : Int) := by omega
        go_wp2_with fail
        refine bodyPost_ret (v := .tuple #[.slice none 0 0, .iface 31 (.int .i64 3)]) (by simp [results, Tryd.results47, go_sem]) rfl ?_
        unfold ReadPost
        rw [read_bad HRE.out HP.out]
        exact ⟨rfl, hg.alloc _⟩
end Go.Proofs.YthenhglpljdhfaaDoor
