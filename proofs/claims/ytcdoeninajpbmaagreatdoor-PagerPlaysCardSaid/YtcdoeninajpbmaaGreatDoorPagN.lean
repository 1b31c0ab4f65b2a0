/-
  The contract of pager.note.
-/
import Derived.Test.YtcdoeninajpbmaaGreatDoorPagS
import Derived.Test.YtcdoeninajpbmaaGreatDoorPagT
import Derived.Deep.RegionHeld3
namespace Go.Proofs.YtcdoeninajpbmaaGreatDoor
open Go Go.RowKit

def usedOf (ps : List Nat) : Head := ⟨fun j => ps.contains j, fun _ => 0, fun _ => 0⟩
theorem usedOf_next (ps : List Nat) (i : Nat) (h : i < ps.length) : ((usedOf (ps.take i)).put ps[i] true).same (usedOf (ps.take (i + 1))) := by
  have hm : ∀ j, j ∈ ps.take (i + 1) ↔ j ∈ ps.take i ∨ j = ps[i] := fun j => by rw [List.take_succ_eq_append_getElem h, List.mem_append, List.mem_singleton]
  refine ⟨fun j _ => ?_, fun _ _ => ⟨rfl, rfl⟩⟩
  show (if j = ps[i] then true else (ps.take i).contains j) = (ps.take (i + 1)).contains j
  by_cases e : j = ps[i]
  · rw [if_pos e, eq_comm, List.contains_iff_mem, hm]
    exact .inr e
  · rw [if_neg e, Bool.eq_iff_iff, List.contains_iff_mem, List.contains_iff_mem, hm]
    exact ⟨.inl, fun h => h.elim id (fun h => absurd h e)⟩
theorem textF_take (h : Head) : (textF h).take 250 = mapF h.used := by
  unfold textF fillF
  rw [List.append_assoc, List.take_append_of_le_length (by rw [mapF_len]; exact Nat.le_refl _), List.take_of_length_le (by rw [mapF_len]; exact Nat.le_refl _)]
set_option maxRecDepth 100000 in
set_option maxHeartbeats 3200000 in
theorem note_g (ps : List Nat) (l : List ByteArray) (pv lv : Value) (w : World) (hp : RowV natV w pv ps) (hl : RowV Value.string w lv l) (hpl : ps.length ≤ 100000) (hps : ∀ i (h : i < ps.length), ps[i] < 2000) (hll : l.length ≤ 100000) (hls : ∀ i (h : i < l.length), l[i].size ≤ 1000000) :
    Calls Tryz.prog 36 #[pv, lv] w (Ret w (.string ⟨(noteF ps (datas l)).toArray⟩)) := by
  have HP := Lib.hid hp
  have HL := Lib.hid hl
  have HPS := Lib.hid hps
  have HLS := Lib.hid hls
  obtain ⟨po, pc, rfl⟩ := hp.form
  obtain ⟨lo, lc, rfl⟩ := hl.form
  clear hp hl hps hls
  go_enter Tryz.func36, Tryz.ntmps36
  go_wp2_with fail
  have z0 := head_new w
  have f0 : ∀ j, (w.alloc (.cells Tryz.zeroCells43 43)).frozen? ⟨w.heap.size, j, none⟩ = false := fun j => by simp
  have hg0 : Gr w (w.alloc (.cells Tryz.zeroCells43 43)) := (Gr.refl w).alloc _
  generalize (w.alloc (.cells Tryz.zeroCells43 43)) = w0 at *
  go_loopw [11] (fun kv w' => ∃ i : Nat, i ≤ ps.length ∧ kv = .int .i64 i ∧ HeadAt w' w.heap.size 0 (usedOf (ps.take i)) ∧ (∀ j, w'.frozen? ⟨w.heap.size, j, none⟩ = false) ∧ Gr w w') (fun kv _ => ps.length - (intOf kv).toNat)
  case atStart => exact ⟨0, Nat.zero_le _, rfl, z0.same ⟨fun j _ => by simp [usedOf, head0], fun _ _ => ⟨rfl, rfl⟩⟩, f0, hg0⟩
  case round =>
    obtain ⟨i, hi, rfl, ha, hf, hg⟩ := hrel
    by_cases hlt : i < ps.length
    · obtain ⟨b, off, rfl, hc⟩ := (HP.out.gr hg).at hlt
      have c0 := hc i hlt
      have hk := HPS.out i hlt
      have HNX := Lib.hid (usedOf_next ps i hlt)
      clear hc
      generalize ps[i] = k at *
      unfold natV at c0
      have d0 := ha.used k hk
      have d1 := hf k
      rw [Nat.zero_add] at d0
      go_wp2_with fail
      refine ⟨⟨i + 1, by omega, by go_num, ?_, fun j => by simpa using hf j, hg.setCell (by simp) _⟩, by simp [intOf]; omega⟩
      have := ha.put hk true
      rw [Nat.zero_add] at this
      exact this.same HNX.out
    · obtain rfl : i = ps.length := by omega
      rw [List.take_length] at ha
      have htx := text_g (usedOf ps)
      have htw := two_g (ps.length : Int)
      have hrg := ha.range
      have hld : ∀ W, (∃ p : Regrown, W = Sort.grow (redrawn wr p.d) p.os) → W.rangeAt w.heap.size 0 (usedOf ps).cells := fun W h => (ha.gr (gr_regrown h)).range
      have HLD := Lib.hid hld
      clear hld
      have hadd := add_bytes (two8 (ps.length : Int)) (mapF (usedOf ps).used) (by rw [mapF_len]; simp [two8])
      have hsl : (⟨(textF (usedOf ps)).toArray⟩ : ByteArray).size = 1024 := by rw [ba_len, textF_len]
      have hex : (⟨(textF (usedOf ps)).toArray⟩ : ByteArray).extract 0 250 = ⟨(mapF (usedOf ps).used).toArray⟩ := by
        apply data_ext
        rw [Lib.extract_data, ba_eta, ba_eta, List.drop_zero, textF_take]
      go_wp2_with fail
      have hnh : Hid (noteHead ps = two8 (ps.length : Int) ++ mapF (usedOf ps).used) := Lib.hid rfl
      generalize two8 (ps.length : Int) = t0 at *
      generalize mapF (usedOf ps).used = t1 at *
      generalize (⟨(textF (usedOf ps)).toArray⟩ : ByteArray) = tx at *
      clear hrg
      refine wp_region_quiet_below (by kernel_rfl) (by kernel_rfl) ?_
      repeat (first
        | (go_big_quiet_want; refine quiet_load_mid 43 _ rfl w.heap.size 0 rfl _ _ HLD.out Tryz.underlying43 rfl (by rw [info_head, Head.cells_len]) ?_; (try simp only [Act.put, List.setIfInBounds_toArray, List.set_cons_zero, List.set_cons_succ]); go_big_quiet_on)
        | go_big_quiet_step (first | (go_at_call 51; exact Ret.regrown (htw _)) | (go_at_call 34; exact Ret.regrown (htx _))))
      refine wpQuiet_nil ?_
      intro w3 hw3
      have hg3 := hg.trans (gr_regrown hw3)
      have HL3 := Lib.hid ((HL.out.gr hg3).gr ((Gr.refl w3).alloc (.cells #[.string ⟨(t0 ++ t1).toArray⟩] 9)))
      have HO3 := Lib.hid (ownV_box Value.string w3 ⟨(t0 ++ t1).toArray⟩ 9)
      clear hw3 HLD
      have hla : (t0 ++ t1).length = 252 := by rw [← hnh.out, noteHead_len]
      have HSM : Hid (∀ (v' : Value) (w' : World), OwnV Value.string 9 w3 w' v' ([⟨(t0 ++ t1).toArray⟩] ++ l) → Calls Tryz.prog 52 #[v'] w' (Ret w' (.string ⟨(sumF ((t0 ++ t1) :: datas l)).toArray⟩))) := Lib.hid fun v' w' ho => by
        have := sum_g ([⟨(t0 ++ t1).toArray⟩] ++ l) v' w' ho.row (by simp; omega) (fun i hi => by
          cases i with
          | zero =>
            show (⟨(t0 ++ t1).toArray⟩ : ByteArray).size ≤ _
            rw [ba_len, hla]
            omega
          | succ i =>
            have := HLS.out i (by simpa using hi)
            simpa using this)
        have e : datas ([⟨(t0 ++ t1).toArray⟩] ++ l) = (t0 ++ t1) :: datas l := by
          show (⟨(t0 ++ t1).toArray⟩ : ByteArray).data.toList :: datas l = _
          rw [ba_eta]
        rw [e] at this
        exact this
      have hsl8 : (sumF ((t0 ++ t1) :: datas l)).length = 8 := low8_len _ 8
      have hnf : Hid (noteF ps (datas l) = fillF ((t0 ++ t1) ++ sumF ((t0 ++ t1) :: datas l))) := Lib.hid (by rw [← hnh.out]; rfl)
      generalize sumF ((t0 ++ t1) :: datas l) = sm at *
      have hadd2 := add_bytes (t0 ++ t1) sm (by omega)
      have hfl := fill_g ⟨((t0 ++ t1) ++ sm).toArray⟩ (by rw [ba_len, List.length_append]; omega)
      rw [ba_eta, ← hnf.out] at hfl
      generalize (⟨((t0 ++ t1) ++ sm).toArray⟩ : ByteArray) = u2 at *
      generalize (⟨(t0 ++ t1).toArray⟩ : ByteArray) = u1 at *
      go_wp2_with (at_builtin; refine append_row (a0 := w3) rfl _ _ 68 9 (.string ⟨#[]⟩) 16 Tryz.underlying68 info_str rfl (fun _ => rfl) (by omega) rfl _ [u1] rfl HO3.out _ l rfl HL3.out (by simp; omega) ((Gr.refl w3).alloc _) ?_)
      intro v' w4 ho4 hg4 _
      go_wp2_with fail
      refine (HSM.out v' w4 ho4).mono ?_
      rintro e w5 ⟨rfl, hg5⟩
      go_wp2_with fail
      refine (hfl _).mono ?_
      rintro e w6 ⟨rfl, hg6⟩
      go_wp2_with fail
      go_ret
      exact Ret.mk rfl (((hg3.trans hg4).trans hg5).trans hg6)
end Go.Proofs.YtcdoeninajpbmaaGreatDoor
