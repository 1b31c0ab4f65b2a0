/-
  The contract of does, of the laws on pagers: acts, one behind the other.
-/
import Derived.Test.YtcdoeninajpbmaaDoorPagI
import Derived.Test.YtcdoeninajpbmaaDoorKpA
import Derived.StillTailTactics
namespace Go.Proofs.YtcdoeninajpbmaaDoor
open Go Go.RowKit

/-- A list of acts that came in. -/
def ActsV (w : World) (v : Value) (xs : List KAct) : Prop :=
  (v = .slice none 0 0 ∧ xs = []) ∨ ∃ b off c, v = .slice (some ⟨b, off, none⟩) xs.length c ∧ b < w.heap.size ∧
    ∀ i (h : i < xs.length), w.cell? ⟨b, off + i * 3, none⟩ = some (.int .i64 xs[i].what) ∧ w.cell? ⟨b, off + i * 3 + 1, none⟩ = some (.int .i64 xs[i].at_) ∧ w.cell? ⟨b, off + i * 3 + 2, none⟩ = some (.int .i64 xs[i].n)
def KAct.ok (x : KAct) : Prop := (-9223372036854775808 ≤ x.what ∧ x.what ≤ 9223372036854775807) ∧ (-9223372036854775808 ≤ x.at_ ∧ x.at_ ≤ 9223372036854775807) ∧ (-9223372036854775808 ≤ x.n ∧ x.n ≤ 9223372036854775807)
theorem stepK_0 (sv : Head) (c : Ch) (a m : Int) : stepK sv c ⟨0, a, m⟩ = c.alloc := if_pos rfl
theorem stepK_1 (sv : Head) (c : Ch) (a m : Int) : stepK sv c ⟨1, a, m⟩ = c.free (1 + (pickK a 12 : Int)) := by simp [stepK]
theorem stepK_2 (sv : Head) (c : Ch) (a m : Int) : stepK sv c ⟨2, a, m⟩ = c.write (1 + (pickK a 12 : Int)) (kpageB m) := by simp [stepK]
theorem stepK_3 (sv : Head) (c : Ch) (a m : Int) : stepK sv c ⟨3, a, m⟩ = ⟨c.h.setRoot (pickK a 8) (pickK m 2000) (pickK m 65536), c.F⟩ := by simp [stepK]
theorem stepK_4 (sv : Head) (c : Ch) (a m : Int) : stepK sv c ⟨4, a, m⟩ = .new sv := by simp [stepK]
theorem stepK_5 (sv : Head) (c : Ch) (q a m : Int) (h0 : q ≠ 0) (h1 : q ≠ 1) (h2 : q ≠ 2) (h3 : q ≠ 3) (h4 : q ≠ 4) : stepK sv c ⟨q, a, m⟩ = c := by simp [stepK, h0, h1, h2, h3, h4]
theorem ActsV.form {w : World} {v : Value} {xs : List KAct} (h : ActsV w v xs) : ∃ ao c, v = .slice ao xs.length c := by
  rcases h with ⟨rfl, rfl⟩ | ⟨b, off, c, rfl, _⟩
  · exact ⟨none, 0, rfl⟩
  · exact ⟨_, c, rfl⟩
theorem ActsV.at {w : World} {ao : Option Addr} {n c : Nat} {xs : List KAct} (h : ActsV w (.slice ao n c) xs) {i : Nat} (hi : i < xs.length) : ∃ b off, ao = some ⟨b, off, none⟩ ∧ b < w.heap.size ∧
    ∀ i (h : i < xs.length), w.cell? ⟨b, off + i * 3, none⟩ = some (.int .i64 xs[i].what) ∧ w.cell? ⟨b, off + i * 3 + 1, none⟩ = some (.int .i64 xs[i].at_) ∧ w.cell? ⟨b, off + i * 3 + 2, none⟩ = some (.int .i64 xs[i].n) := by
  rcases h with ⟨_, rfl⟩ | ⟨b, off, c, h1, h2, h3⟩
  · exact absurd hi (by simp)
  · injection h1 with e1 e2 e3
    exact ⟨b, off, e1, h2, h3⟩
theorem foldK_next (sv : Head) (c : Ch) (xs : List KAct) {i : Nat} (h : i < xs.length) : (xs.take (i + 1)).foldl (stepK sv) c = stepK sv ((xs.take i).foldl (stepK sv) c) xs[i] := by
  rw [List.take_succ_eq_append_getElem h, List.foldl_append]
  rfl
theorem ActsV.kept {PB DB M M' : Nat} {w w' : World} {v : Value} {xs : List KAct} (h : ActsV w v xs) (g : PgF PB DB M M' w w') (h1 : OffV v PB) (h2 : OffV v DB) (h3 : OffV v M) : ActsV w' v xs := by
  rcases h with h | ⟨b, off, c, rfl, hb, hc⟩
  · exact .inl h
  · have e1 := h1 b off _ c rfl
    have e2 := h2 b off _ c rfl
    have e3 := h3 b off _ c rfl
    exact .inr ⟨b, off, c, rfl, Nat.lt_of_lt_of_le hb g.size, fun i hi => ⟨g.keeps e1 e2 e3 (hc i hi).1, g.keeps e1 e2 e3 (hc i hi).2.1, g.keeps e1 e2 e3 (hc i hi).2.2⟩⟩
theorem ActsV.offNext {PB DB M M' : Nat} {w w' : World} {v : Value} {xs : List KAct} (h : ActsV w v xs) (g : PgF PB DB M M' w w') (h3 : OffV v M) : OffV v M' := fun b off n c e => by
  rcases h with ⟨e', _⟩ | ⟨b', off', c', e', hb, _⟩
  · rw [e'] at e
    cases e
  · rw [e'] at e
    injection e with e1
    injection e1 with e1
    injection e1 with e1
    subst e1
    exact g.off hb (h3 b' off' _ c' e')
theorem ActsV.gr {w w' : World} {v : Value} {xs : List KAct} (h : ActsV w v xs) (g : Gr w w') : ActsV w' v xs := by
  rcases h with h | ⟨b, off, c, rfl, hb, hc⟩
  · exact .inl h
  · exact .inr ⟨b, off, c, rfl, Nat.lt_of_lt_of_le hb g.size, fun i hi => ⟨g.keeps (hc i hi).1, g.keeps (hc i hi).2.1, g.keeps (hc i hi).2.2⟩⟩
theorem ActsV.off {w : World} {v : Value} {xs : List KAct} (h : ActsV w v xs) {B : Nat} (hB : w.heap.size ≤ B) : OffV v B := fun b off n c e e2 => by
  rcases h with ⟨e', _⟩ | ⟨b', off', c', e', hb, _⟩
  · rw [e'] at e
    cases e
  · rw [e'] at e
    injection e with e1
    injection e1 with e1
    injection e1 with e1
    omega
set_option maxRecDepth 100000 in
set_option maxHeartbeats 4000000 in
theorem does_k (PB DB M n : Nat) (c : Ch) (sv : Head) (t : Int) (d : Dk) (xs : List KAct) (v : Value) (w : World) (hp : PgS w PB DB M n c sv t d) (hx : ActsV w v xs) (hr : ∀ x ∈ xs, x.ok) (o1 : OffV v PB) (o2 : OffV v DB) (o3 : OffV v M) (hn : n + xs.length < 1000000) :
    Calls Tryd.prog 6 #[.pointer (some ⟨PB, 0, none⟩), v] w fun e w' => e = .returned (.tuple #[]) ∧ ∃ M', PgS w' PB DB M' (n + xs.length) (xs.foldl (stepK sv) c) sv t d ∧ PgF PB DB M M' w w' := by
  obtain ⟨ao, cp, rfl⟩ := hx.form
  have HP := Lib.hid hp
  have HX := Lib.hid hx
  have HR := Lib.hid hr
  have O1 := Lib.hid o1
  have O2 := Lib.hid o2
  have O3 := Lib.hid o3
  clear hp hx hr o1 o2 o3
  go_enter Tryd.func6, Tryd.ntmps6
  go_wp2_with fail
  go_loopw [4] (fun kv w' => ∃ (i M' : Nat), i ≤ xs.length ∧ kv = .int .i64 i ∧ PgS w' PB DB M' (n + i) ((xs.take i).foldl (stepK sv) c) sv t d ∧ PgF PB DB M M' w w') (fun kv _ => xs.length - (intOf kv).toNat)
  case atStart => exact ⟨0, M, Nat.zero_le _, rfl, HP.out, PgF.refl _ _ _ _⟩
  case round =>
    obtain ⟨i, M', hi, rfl, hs, hf⟩ := hrel
    by_cases hlt : i < xs.length
    · have HXr := Lib.hid (HX.out.kept hf O1.out O2.out O3.out)
      obtain ⟨b, off, rfl, hb, hc⟩ := HXr.out.at hlt
      obtain ⟨c0, c1, c2⟩ := hc i hlt
      have HNX := Lib.hid (foldK_next sv c xs hlt)
      obtain ⟨r0, r1, r2⟩ := HR.out _ (List.getElem_mem hlt)
      generalize xs[i] = x at *
      generalize (xs.take i).foldl (stepK sv) c = ci at *
      obtain ⟨q, a, m⟩ := x
      simp only at c0 c1 c2 r0 r1 r2
      have hk12 := pickK_lt a 12 (by omega)
      have HS := Lib.hid hs
      have HF := Lib.hid hf
      clear hs hf hc
      have hstep : Hid (∀ y, stepK sv ci ⟨q, a, m⟩ = y → (xs.take (i + 1)).foldl (stepK sv) c = y) := Lib.hid fun y e => HNX.out.trans e
      clear HNX
      have HSb : Hid (∀ w', Gr wr w' → PgS w' PB DB M' (n + i) ci sv t d) := Lib.hid fun w' g => HS.out.gr g
      by_cases q0 : q = 0
      · subst q0
        go_wp2_with (first
          | (go_at_call 10; refine (pick_k _ _ (by omega) _).mono ?_; rintro e w9 ⟨rfl, rfl⟩)
          | (go_at_call 15; refine (page_k _ (by omega) _).mono ?_; rintro e w9 ⟨rfl, hg9⟩)
          | (go_at_call 13; refine (alloc_s (HSb.out _ (by first | exact (Gr.refl _).alloc _ | exact ((Gr.refl _).alloc _).trans hg9)) (by omega)).mono ?_; rintro e w10 ⟨rfl, hs10, hf10⟩; have HS10 := Lib.hid hs10; have HF10 := Lib.hid hf10; clear hs10 hf10))
        refine ⟨⟨i + 1, M', by omega, by go_num, ?_, ?_⟩, by simp [intOf]; omega⟩
        · rw [hstep.out _ (stepK_0 sv ci a m)]
          exact HS10.out.mono (by omega)
        · refine HF.out.trans ((PgF.of_gr _ _ _ ?_).trans HF10.out)
          first | exact (Gr.refl _).alloc _ | exact ((Gr.refl _).alloc _).trans hg9
      by_cases q1 : q = 1
      · subst q1
        go_wp2_with (first
          | (go_at_call 10; refine (pick_k _ _ (by omega) _).mono ?_; rintro e w9 ⟨rfl, rfl⟩)
          | (go_at_call 15; refine (page_k _ (by omega) _).mono ?_; rintro e w9 ⟨rfl, hg9⟩)
          | (go_at_call 24; refine (free_s (HSb.out _ (by first | exact (Gr.refl _).alloc _ | exact ((Gr.refl _).alloc _).trans hg9)) _).mono ?_; rintro e w10 ⟨rfl, hs10, hf10⟩; have HS10 := Lib.hid hs10; have HF10 := Lib.hid hf10; clear hs10 hf10))
        refine ⟨⟨i + 1, M', by omega, by go_num, ?_, ?_⟩, by simp [intOf]; omega⟩
        · rw [hstep.out _ (stepK_1 sv ci a m)]
          exact HS10.out.mono (by omega)
        · refine HF.out.trans ((PgF.of_gr _ _ _ ?_).trans HF10.out)
          first | exact (Gr.refl _).alloc _ | exact ((Gr.refl _).alloc _).trans hg9
      by_cases q2 : q = 2
      · subst q2
        go_wp2_with (first
          | (go_at_call 10; refine (pick_k _ _ (by omega) _).mono ?_; rintro e w9 ⟨rfl, rfl⟩)
          | (go_at_call 15; refine (page_k _ (by omega) _).mono ?_; rintro e w9 ⟨rfl, hg9⟩)
          | (go_at_call 14; refine (write_s (HSb.out _ (by first | exact (Gr.refl _).alloc _ | exact ((Gr.refl _).alloc _).trans hg9)) (by omega) _ _ (kpageB_size m)).mono ?_; rintro e w10 ⟨rfl, hs10, hf10⟩; have HS10 := Lib.hid hs10; have HF10 := Lib.hid hf10; clear hs10 hf10))
        refine ⟨⟨i + 1, M', by omega, by go_num, ?_, ?_⟩, by simp [intOf]; omega⟩
        · rw [hstep.out _ (stepK_2 sv ci a m)]
          exact HS10.out.mono (by omega)
        · refine HF.out.trans ((PgF.of_gr _ _ _ ?_).trans HF10.out)
          first | exact (Gr.refl _).alloc _ | exact ((Gr.refl _).alloc _).trans hg9
      by_cases q3 : q = 3
      · subst q3
        have hp8 := pickK_lt a 8 (by omega)
        have hp2 := pickK_lt m 2000 (by omega)
        have hp6 := pickK_lt m 65536 (by omega)
        have k1 := pick_k a 8 (by omega)
        have k2 := pick_k m 2000 (by omega)
        have k3 := pick_k m 65536 (by omega)
        go_wp2_with (first
          | (go_at_call 10; refine (pick_k _ _ (by omega) _).mono ?_; rintro e w9 ⟨rfl, rfl⟩))
        have hgb : Gr wr (wr.alloc (.cells #[.int .i64 3, .int .i64 a, .int .i64 m] 65)) := (Gr.refl _).alloc _
        have e1 : (wr.alloc (.cells #[.int .i64 3, .int .i64 a, .int .i64 m] 65)).drew.cell? ⟨wr.heap.size, 1, none⟩ = some (.int .i64 a) := by rw [World.cell?_drew, World.cell?_alloc_new]; rfl
        have e2 : (wr.alloc (.cells #[.int .i64 3, .int .i64 a, .int .i64 m] 65)).drew.cell? ⟨wr.heap.size, 2, none⟩ = some (.int .i64 m) := by rw [World.cell?_drew, World.cell?_alloc_new]; rfl
        generalize (wr.alloc (.cells #[.int .i64 3, .int .i64 a, .int .i64 m] 65)) = wb at *
        refine wp_region_still_tail 10 (by kernel_rfl) (by kernel_rfl) ?_
        have hwd : ({ wb with drawn := wb.drawn + 1 } : World) = wb.drew := rfl
        simp only [hwd]
        have HGB := Lib.hid (hgb.drew)
        clear hwd hgb
        generalize wb.drew = wc at *
        simp only [List.take_succ_cons, List.take_zero, List.drop_succ_cons, List.drop_zero]
        still_step
        still_step
        still_step
        refine wpStill_step (fun K hK => ?_)
        go_simp
        refine ⟨_, k1 _, hK _ ?_⟩
        clear hK K k1
        still_step
        still_step
        refine wpStill_step (fun K hK => ?_)
        go_simp
        refine ⟨_, k2 _, hK _ ?_⟩
        clear hK K k2
        still_step
        still_step
        refine wpStill_step (fun K hK => ?_)
        go_simp
        refine ⟨_, k3 _, hK _ ?_⟩
        clear hK K k3
        refine wpStill_nil ?_
        go_wp2_with (go_at_call 16; refine (setRoot_s (HSb.out _ HGB.out) (pickK a 8) _ _ (by omega) (by omega) (by omega)).mono ?_; rintro e w10 ⟨rfl, hs10, hf10⟩; have HS10 := Lib.hid hs10; have HF10 := Lib.hid hf10; clear hs10 hf10)
        refine ⟨⟨i + 1, M', by omega, by go_num, ?_, ?_⟩, by simp [intOf]; omega⟩
        · rw [hstep.out _ (stepK_3 sv ci a m)]
          exact HS10.out.mono (by omega)
        · exact HF.out.trans ((PgF.of_gr _ _ _ HGB.out).trans HF10.out)
      by_cases q4 : q = 4
      · subst q4
        go_wp2_with (first
          | (go_at_call 10; refine (pick_k _ _ (by omega) _).mono ?_; rintro e w9 ⟨rfl, rfl⟩)
          | (go_at_call 25; refine (rollback_s (HSb.out _ ((Gr.refl _).alloc _))).mono ?_; rintro e w10 ⟨rfl, M10, hs10, hf10⟩; have HS10 := Lib.hid hs10; have HF10 := Lib.hid hf10; clear hs10 hf10))
        refine ⟨⟨i + 1, M10, by omega, by go_num, ?_, ?_⟩, by simp [intOf]; omega⟩
        · rw [hstep.out _ (stepK_4 sv ci a m)]
          exact HS10.out.mono (by omega)
        · exact HF.out.trans ((PgF.of_gr _ _ _ ((Gr.refl _).alloc _)).trans HF10.out)
      have h5 := Lib.hid (stepK_5 sv ci q a m q0 q1 q2 q3 q4)
      have b0 : (q == 0) = false := beq_eq_false_iff_ne.2 q0
      have b1 : (q == 1) = false := beq_eq_false_iff_ne.2 q1
      have b2 : (q == 2) = false := beq_eq_false_iff_ne.2 q2
      have b3 : (q == 3) = false := beq_eq_false_iff_ne.2 q3
      have b4 : (q == 4) = false := beq_eq_false_iff_ne.2 q4
      clear q0 q1 q2 q3 q4
      go_wp2_with (first
        | (go_at_call 10; refine (pick_k _ _ (by omega) _).mono ?_; rintro e w9 ⟨rfl, rfl⟩))
      refine ⟨⟨i + 1, M', by omega, by go_num, ?_, ?_⟩, by simp [intOf]; omega⟩
      · rw [hstep.out _ h5.out]
        exact (HSb.out _ ((Gr.refl _).alloc _)).mono (by omega)
      · exact HF.out.trans (PgF.of_gr _ _ _ ((Gr.refl _).alloc _))
    · obtain rfl : i = xs.length := by omega
      have HS := Lib.hid hs
      have HF := Lib.hid hf
      clear hs hf
      go_wp2_with fail
      refine bodyPost_end (v := .tuple #[]) (by simp [results, Tryd.results6, go_sem]) rfl ?_
      have := HS.out
      rw [List.take_length] at this
      exact ⟨rfl, M', this, HF.out⟩
end Go.Proofs.YtcdoeninajpbmaaDoor
