/-
  The walk of the law DiskTears: it returns true.
-/
import Derived.Test.YthenhglpljdhfaaDoorTearW
import Derived.Test.YthenhglpljdhfaaDoorPostLaw
import Derived.Deep.RegionHeld3
import Derived.Maps.RangeWalk
namespace Go.Proofs.YthenhglpljdhfaaDoor
open Go Go.RowKit Go.Maps

def I64 (n : Int) : Prop := -9223372036854775808 ≤ n ∧ n ≤ 9223372036854775807
def IntsAt (w : World) (b off : Nat) (xs : List Int) : Prop := ∀ i (h : i < xs.length), w.cell? ⟨b, off + i, none⟩ = some (.int .i64 xs[i])
theorem IntsAt.gr {w w' : World} {b off : Nat} {xs : List Int} (h : IntsAt w b off xs) (g : Gr w w') : IntsAt w' b off xs := fun i hi => g.keeps (h i hi)
theorem tear_zero {s old : ByteArray} : tearS s old 0 = old := by
  apply data_ext
  show (tearB s old 0).toArray.toList = _
  unfold tearB
  simp
/-- What is behind the torn part is the old one's. -/
theorem tear_drop {s old : ByteArray} {n m : Nat} (hs : s.size = 1024) (_ho : old.size = 1024) (hn : n ≤ m) (hm : m ≤ 1024) : (tearS s old n).extract m 1024 = old.extract m 1024 := by
  have ht : (tearS s old n).data.toList = s.data.toList.take n ++ old.data.toList.drop n := by
    show (tearB s old n).toArray.toList = _
    unfold tearB
    simp
  apply data_ext
  rw [Lib.extract_data, Lib.extract_data, ht, List.drop_append, List.drop_of_length_le (l := List.take n _) (by rw [List.length_take, ← size_data]; omega), List.length_take, ← size_data, hs, List.drop_drop, List.nil_append]
  congr 2
  omega
/-- Ahead of where it was torn stands the new one. -/
theorem tear_at {s old : ByteArray} {n m : Nat} (hs : s.size = 1024) (ho : old.size = 1024) (hm : m < n) (hn : n ≤ 1024) (h1 : m < (tearS s old n).size) (h2 : m < s.size) : (tearS s old n)[m] = s[m] := by
  rw [get_data _ _ h1, get_data _ _ h2]
  have ht : (tearS s old n).data.toList = s.data.toList.take n ++ old.data.toList.drop n := by
    show (tearB s old n).toArray.toList = _
    unfold tearB
    simp
  simp only [ht]
  rw [List.getElem_append_left (by rw [List.length_take, ← size_data]; omega), List.getElem_take]
/-- What is written to a page, and what it leaves. -/
theorem tear_write {pg : Nat → ByteArray} {cut : Bool} {left torn : Int} (B : Nat) (k : Nat) (hk : k < 4001) (s : ByteArray) (hs : s.size = 1024) (hsz : ∀ k : Nat, k < 4001 → (pgGet pg k).size = 1024) (hl : -1000000 < left ∧ left ≤ 9223372036854775807) :
    ∃ (err : Value) (n : Int) (pg' : Nat → ByteArray) (left' torn' : Int),
      (∀ w, DiskAt w B pg cut left torn → Calls Tryd.prog 35 #[.pointer (some ⟨B, 0, none⟩), .int .i64 k, .string s] w fun e w' => e = .returned err ∧ DiskAt w' B pg' cut left' torn' ∧ w.grownBy w' (some B)) ∧
      (∀ w, ErrIs w err n (-1)) ∧ (∀ i : Nat, i < 4001 → (pgGet pg' i).size = 1024) ∧ (∀ i : Nat, i ≠ k → pgGet pg' i = pgGet pg i) ∧ left - 1 ≤ left' ∧ left' ≤ left ∧
      ((n = 0 ∧ pgGet pg' k = s ∧ torn' = torn) ∨ (n = 14 ∧ onB cut left' = false ∧ pgGet pg' k = tearS s (pgGet pg k) (clampT torn) ∧ clampT torn' = 0)) := by
  cases hb : onB cut left
  · have hn : clampT torn ≤ 1024 := by unfold clampT; omega
    have hts := tearS_size (n := clampT torn) hs (hsz k hk) hn
    refine ⟨_, 14, _, left, 0, fun w hd => write_off B pg cut left torn k hk s hs hb (hsz k hk) w hd, fun w => .inr (.inl ⟨rfl, rfl⟩), fun i hi => ?_, fun i hi => ?_, by omega, by omega, .inr ⟨rfl, hb, ?_, rfl⟩⟩
    · rw [pgGet_put hts]; split
      · exact hts
      · exact hsz i hi
    · rw [pgGet_put hts, if_neg hi]
    · rw [pgGet_put hts, if_pos rfl]
  · refine ⟨_, 0, _, left - 1, torn, fun w hd => write_on B pg cut left torn k hk s hs hb (by omega) w hd, fun w => .inl ⟨rfl, rfl, rfl⟩, fun i hi => ?_, fun i hi => ?_, by omega, by omega, .inl ⟨rfl, ?_, rfl⟩⟩
    · rw [pgGet_put hs]; split
      · exact hs
      · exact hsz i hi
    · rw [pgGet_put hs, if_neg hi]
    · rw [pgGet_put hs, if_pos rfl]

set_option maxRecDepth 100000 in
set_option maxHeartbeats 4000000 in
theorem diskTears_walk (xs ys : List Int) (b off c : Nat) (ao : Option Addr) (hao : 0 < xs.length → ao = some ⟨b, off, none⟩) (hl : xs.length ≤ 9223372036854775807)
    (b' off' c' : Nat) (ao' : Option Addr) (hao' : 0 < ys.length → ao' = some ⟨b', off', none⟩) (hl' : ys.length ≤ 9223372036854775807) (q t : Int)
    (hr : ∀ i (h : i < xs.length), I64 xs[i]) (hr' : ∀ i (h : i < ys.length), I64 ys[i]) (hq : I64 q) (w : World) (hc : IntsAt w b off xs) (hc' : IntsAt w b' off' ys) (he : ErrTypeAt w) :
    Calls Tryd.prog 6 #[.slice ao xs.length c, .slice ao' ys.length c', .int .i64 q, .int .i64 t] w (Ret w (.bool true)) := by
  have HE := Lib.hid he
  have HC := Lib.hid hc
  have HA := Lib.hid hao
  have HR := Lib.hid hr
  have HC' := Lib.hid hc'
  have HA' := Lib.hid hao'
  have HR' := Lib.hid hr'
  clear hc hao he hr hc' hao' hr'
  by_cases h40 : xs.length ≤ 40 ∧ ys.length ≤ 40
  · obtain ⟨hx40, hy40⟩ := h40
    have g1 : decide ((40 : Int) < (xs.length : Int)) = false := by simp; omega
    have g2 : decide ((40 : Int) < (ys.length : Int)) = false := by simp; omega
    have hmm := fun w => run_makeMap (P := Tryd.prog) 56 w
    go_enter Tryd.func6, Tryd.ntmps6
    go_wp2_with fail
    refine (written_t w HE.out).mono ?_
    rintro e w0 ⟨rfl, hg0⟩
    go_wp2_with fail
    have hgd : Gr w (w0.alloc (.cells Tryd.zeroCells54 54)) := hg0.alloc _
    have hd0 := disk_new w0
    have hBl : w0.heap.size < (w0.alloc (.cells Tryd.zeroCells54 54)).heap.size := by simp
    have hwB := hg0.size
    generalize (w0.alloc (.cells Tryd.zeroCells54 54)) = W1 at *
    generalize w0.heap.size = B at *
    refine (cut_d B _ false 0 0 q t W1 hd0).mono ?_
    rintro e w2 ⟨rfl, hd2, hgr2⟩
    have hg2 := (GrX.of_grown (S := fun i => i = B) hgr2 rfl).gr hgd (fun i hi => by rw [hi]; exact hwB)
    have hs2 := hgr2.size
    have hlb : 0 ≤ max q 0 ∧ max q 0 ≤ 9223372036854775807 := by unfold I64 at hq; omega
    generalize decide (0 ≤ q) = cut at hd2
    generalize max q 0 = left0 at hd2 hlb
    have HD2 := Lib.hid hd2
    clear hd2 hgr2 hd0 hgd hg0
    go_wp2_with fail
    have hgm : Gr w2 (w2.alloc (.map #[] 0)) := (Gr.refl w2).alloc _
    have hma := MapAt.made w2
    have hM2 : w2.heap.size < (w2.alloc (.map #[] 0)).heap.size := by simp
    have HD3 := Lib.hid (HD2.out.gr hgm)
    have hg3 := hg2.trans hgm
    generalize (w2.alloc (.map #[] 0)) = W3 at *
    have hBM : B ≠ w2.heap.size := by omega
    have hwM : w.heap.size ≤ w2.heap.size := hg2.size
    generalize w2.heap.size = M at *
    have HMA := Lib.hid hma
    clear hma hgm hg2
    go_loopw [12, 11] (fun i bk w' => ∃ (j brk : Nat) (pg : Nat → ByteArray) (left torn : Int) (F : Int → Option ByteArray) (m : Nat), j ≤ xs.length ∧ j ≤ ys.length ∧ i = .int .i64 j ∧ bk = .int .i64 brk ∧ Gr w w' ∧ DiskAt w' B pg cut left torn ∧ MapAt w' M m F ∧
      (∀ k : Nat, k < 4001 → (pgGet pg k).size = 1024) ∧ (∀ (k : Int) (s : ByteArray), F k = some s → ∃ kk : Nat, k = kk ∧ kk < 9 ∧ pgGet pg kk = s) ∧ (brk = 0 ∨ (brk = 1 ∧ clampT torn = 0)) ∧ m ≤ j ∧ -(j : Int) ≤ left ∧ left ≤ 9223372036854775807) (fun i _ _ => xs.length - (intOf i).toNat)
    case atStart =>
      refine ⟨0, 0, _, _, _, _, 0, Nat.zero_le _, Nat.zero_le _, rfl, rfl, hg3, HD3.out, HMA.out, ?_, ?_, .inl rfl, Nat.le_refl _, by omega, by omega⟩
      · intro k _
        rw [pgGet_new]
        exact zerosB_size
      · intro k s h
        cases h
    case round =>
      obtain ⟨j, brk, pg, left, torn, F, m, hj, hj', rfl, rfl, hg, hd, hma, hsz, hmp, hbk, hmj, hl1, hl2⟩ := hrel
      have HD := Lib.hid hd
      have HMA := Lib.hid hma
      have HSZ := Lib.hid hsz
      have HMP := Lib.hid hmp
      clear hd hma hsz hmp
      by_cases hlt : j < xs.length ∧ j < ys.length
      · obtain ⟨hltx, hlty⟩ := hlt
        obtain rfl := HA.out (by omega)
        obtain rfl := HA'.out (by omega)
        have c0 := HC.out.gr hg j hltx
        have d0 := HC'.out.gr hg j hlty
        have hx64 := HR.out j hltx
        have hy64 := HR'.out j hlty
        have e1 : decide ((j : Int) < (xs.length : Int)) = true := by simp; omega
        have e2 : decide ((j : Int) < (ys.length : Int)) = true := by simp; omega
        generalize hxx : xs[j] = x at *
        generalize hyy : ys[j] = n at *
        have hk9 : pickN x 9 < 9 := by unfold pickN; omega
        go_wp2_with fail
        refine (pick_t x 9 (by omega) _).mono ?_
        rintro e w3 ⟨rfl, hg4⟩
        generalize pickN x 9 = kk at *
        have d1 := hg4.keeps d0
        have HD4 := Lib.hid (HD.out.gr hg4)
        have HMA4 := Lib.hid (HMA.out.gr hg4)
        have hgW := hg.trans hg4
        go_wp2_with fail
        refine (read_d B pg cut left torn kk (by omega) _ HD4.out).mono ?_
        rintro e w4 ⟨rfl, hg5⟩
        have d2 := hg5.keeps d1
        have HD5 := Lib.hid (HD4.out.gr hg5)
        have HMA5 := Lib.hid (HMA4.out.gr hg5)
        have hgX := hgW.trans hg5
        clear hg4 hg5 hgW HD4 HMA4 d1
        go_wp2_with fail
        refine (page_k n hy64 _).mono ?_
        rintro e w5 ⟨rfl, hg6⟩
        have HD6 := Lib.hid (HD5.out.gr hg6)
        have HMA6 := Lib.hid (HMA5.out.gr hg6)
        have hgY := hgX.trans hg6
        clear hg6 hgX HD5 HMA5 d2
        obtain ⟨err, nn, pg', left', torn', hdw, herr, hsz', hoth, hlo, hhi, hcase⟩ := tear_write (cut := cut) (left := left) (torn := torn) B kk (by omega) (pageB n) (pageB_size n) HSZ.out (by omega)
        go_wp2_with fail
        refine (hdw _ HD6.out).mono ?_
        rintro e w6 ⟨rfl, hd7, hgB⟩
        have hgw6 : Gr w w6 := (GrX.of_grown (S := fun i => i = B) hgB rfl).gr hgY (fun i hi => by rw [hi]; exact hwB)
        have HD7 := Lib.hid hd7
        have HMA7 := Lib.hid (HMA6.out.kept hgB (fun h => hBM (Option.some.inj h).symm))
        clear hd7 hgB HD6 HMA6 hgY
        go_wp2_with fail
        refine (tell_t err nn (-1) _ (HE.out.gr hgw6) (herr _)).mono ?_
        rintro e w7 ⟨rfl, hg8⟩
        have hgw7 := hgw6.trans hg8
        have HD8 := Lib.hid (HD7.out.gr hg8)
        have HMA8 := Lib.hid (HMA7.out.gr hg8)
        clear hg8 hgw6 HD7 HMA7
        go_wp2_with fail
        refine (read_d B pg' cut left' torn' kk (by omega) _ HD8.out).mono ?_
        rintro e w8 ⟨rfl, hg9⟩
        have hgw8 := hgw7.trans hg9
        have HD9 := Lib.hid (HD8.out.gr hg9)
        have HMA9 := Lib.hid (HMA8.out.gr hg9)
        clear hg9 hgw7 HD8 HMA8
        have d9 : w8.cell? ⟨b', off' + j, none⟩ = some (.int .i64 n) := by
          have := HC'.out.gr hgw8 j hlty
          rw [hyy] at this
          exact this
        have hold : (pgGet pg kk).size = 1024 := HSZ.out kk (by omega)
        have hnew : (pgGet pg' kk).size = 1024 := hsz' kk (by omega)
        have hmp' : ∀ (k : Int) (s : ByteArray), (if k = kk then some (pgGet pg' kk) else F k) = some s → ∃ kk' : Nat, k = kk' ∧ kk' < 9 ∧ pgGet pg' kk' = s := by
          intro k s hks
          split at hks
          · rename_i e
            exact ⟨kk, e, hk9, Option.some.inj hks⟩
          · rename_i e
            obtain ⟨k2, rfl, h9, hv⟩ := HMP.out k s hks
            exact ⟨k2, rfl, h9, by rw [hoth k2 (fun h => e (by rw [h]))]; exact hv⟩
        have HMP' := Lib.hid hmp'
        have HSZ' := Lib.hid hsz'
        clear hmp' hsz' hdw herr hoth hxx hyy
        generalize hno : pgGet pg' kk = now at *
        generalize hol : pgGet pg kk = old at *
        rcases hcase with ⟨rfl, hnow, rfl⟩ | ⟨rfl, hoff, hnow, htz⟩
        · have hpk : ∀ W : World, Calls Tryd.prog 36 #[.int .i64 n] W (Ret W (.string now)) := by rw [hnow]; exact page_k n hy64
          clear hnow
          go_wp2_with fail
          refine (hpk _).mono ?_
          rintro e w9 ⟨rfl, hg10⟩
          have hgw9 := hgw8.trans hg10
          have HD10 := Lib.hid (HD9.out.gr hg10)
          obtain ⟨w10, hupd, hma', hgB'⟩ := (HMA9.out.gr hg10).store (by omega) (k := kk) (by omega) now (by omega)
          have HU := Lib.hid hma'
          have HG := Lib.hid hgB'
          clear hma' hgB' hg10
          go_wp2_with fail
          have hx := GrX.of_grown (S := fun i => i = M) HG.out rfl
          refine ⟨⟨j + 1, brk, pg', left', torn', _, m + 1, by omega, by omega, by go_num, rfl, hx.gr hgw9 (fun i hi => by rw [hi]; exact hwM), HD10.out.keepX hx hBM, HU.out, HSZ'.out, HMP'.out, hbk, by omega, by omega, by omega⟩, by simp [intOf]; omega⟩
        · have HNOW := Lib.hid hnow
          clear hnow
          go_wp2_with fail
          refine (on_d B pg' cut left' torn' _ HD9.out).mono ?_
          rintro e w9 ⟨rfl, hg10⟩
          rw [hoff]
          have hgw9 := hgw8.trans hg10
          have HD10 := Lib.hid (HD9.out.gr hg10)
          have HMA10 := Lib.hid (HMA9.out.gr hg10)
          have d10 := hg10.keeps d9
          clear hg10
          by_cases heq : now = old
          · subst heq
            obtain ⟨w10, hupd, hma', hgB'⟩ := HMA10.out.store (by omega) (k := kk) (by omega) now (by omega)
            have HU := Lib.hid hma'
            have HG := Lib.hid hgB'
            clear hma' hgB'
            go_wp2_with fail
            have hx := GrX.of_grown (S := fun i => i = M) HG.out rfl
            refine ⟨⟨j + 1, brk, pg', left', torn', _, m + 1, by omega, by omega, by go_num, rfl, hx.gr hgw9 (fun i hi => by rw [hi]; exact hwM), HD10.out.keepX hx hBM, HU.out, HSZ'.out, HMP'.out, ?_, by omega, by omega, by omega⟩, by simp [intOf]; omega⟩
            rcases hbk with h | ⟨h, _⟩
            · exact .inl h
            · exact .inr ⟨h, htz⟩
          · have hb0 : brk = 0 := by
              rcases hbk with h | ⟨_, h⟩
              · exact h
              · exact absurd (by rw [HNOW.out, h, tear_zero]) heq
            subst hb0
            have hct : clampT torn ≤ 1024 := by unfold clampT; omega
            have hat := fun (mm : Nat) (h : mm < clampT torn) (h1 : mm < (tearS (pageB n) old (clampT torn)).size) (h2 : mm < (pageB n).size) => tear_at (pageB_size n) hold h hct h1 h2
            have hdr := fun (mm : Nat) (h : clampT torn ≤ mm) (hm : mm ≤ 1024) => tear_drop (pageB_size n) hold h hm
            rw [← HNOW.out] at hat hdr
            have HAT := Lib.hid hat
            have HDR := Lib.hid hdr
            have hps := pageB_size n
            have hpk := page_k n hy64
            generalize pageB n = pn at *
            clear hat hdr HNOW
            have hne : (now.toList == old.toList) = false := by
              rw [Bool.eq_false_iff]
              intro h
              exact heq (by rw [beq_iff_eq, ByteArray.toList_eq, ByteArray.toList_eq] at h; exact data_ext h)
            go_wp2_with fail
            go_loopw [18] (fun m' w' => ∃ mm : Nat, mm ≤ 1024 ∧ m' = .int .i64 mm ∧ Gr w9 w') (fun m' _ => 1024 - (intOf m').toNat)
            case atStart => exact ⟨0, by omega, rfl, Gr.refl _⟩
            case round =>
              obtain ⟨mm, hmm, rfl, hgi⟩ := hrel
              by_cases hlt1 : mm < 1024
              · have h1 : mm < now.size := by omega
                have h2 : mm < pn.size := by omega
                have d11 := hgi.keeps d10
                have hg1 : decide ((mm : Int) < 1024) = true := by simp; omega
                have hg2 : (mm : Int) < 1024 := by omega
                by_cases heq2 : now[mm] = pn[mm]
                · have hcm : (((now[mm].toNat : Nat) : Int) == ((pn[mm].toNat : Nat) : Int)) = true := by rw [heq2]; simp
                  have f1 := fun d os => cell_regrown d11 d os
                  go_wp2_with fail
                  refine wp_region_quiet_below (by kernel_rfl) (by kernel_rfl) ?_
                  repeat (go_big_quiet_step (first | (go_at_call 36; exact Ret.regrown (hpk _))))
                  refine wpQuiet_nil ?_
                  intro wi hwi
                  have hgj := gr_regrown hwi
                  clear hwi f1
                  go_wp2_with fail
                  exact ⟨⟨mm + 1, by omega, by go_num, hgi.trans hgj⟩, by simp [intOf]; omega⟩
                · have hcm : (((now[mm].toNat : Nat) : Int) == ((pn[mm].toNat : Nat) : Int)) = false := by
                    rw [Bool.eq_false_iff]
                    intro h
                    have h3 := beq_iff_eq.1 h
                    exact heq2 (UInt8.toNat_inj.1 (by omega))
                  have hge : clampT torn ≤ mm := by
                    rcases Nat.lt_or_ge mm (clampT torn) with h | h
                    · exact absurd (HAT.out mm h h1 h2) heq2
                    · exact h
                  have hcut := HDR.out mm hge (by omega)
                  have f1 := fun d os => cell_regrown d11 d os
                  go_wp2_with fail
                  refine wp_region_quiet_below (by kernel_rfl) (by kernel_rfl) ?_
                  repeat (go_big_quiet_step (first | (go_at_call 36; exact Ret.regrown (hpk _))))
                  refine wpQuiet_nil ?_
                  intro wi hwi
                  have hgj := gr_regrown hwi
                  clear hwi f1
                  have hgk := (hgi.trans hgj).drew
                  obtain ⟨w10, hupd, hma', hgB'⟩ := (HMA10.out.gr hgk).store (by omega) (k := kk) (by omega) now (by omega)
                  have HU := Lib.hid hma'
                  have HG := Lib.hid hgB'
                  clear hma' hgB' hgj
                  go_wp2_with fail
                  go_region
                  go_wp2_with fail
                  have hx := GrX.of_grown (S := fun i => i = M) HG.out rfl
                  refine ⟨⟨j + 1, 1, pg', left', torn', _, m + 1, by omega, by omega, by go_num, rfl, hx.gr (hgw9.trans hgk) (fun i hi => by rw [hi]; exact hwM), (HD10.out.gr hgk).keepX hx hBM, HU.out, HSZ'.out, HMP'.out, .inr ⟨rfl, htz⟩, by omega, by omega, by omega⟩, by simp [intOf]; omega⟩
              · have hg1 : decide ((mm : Int) < 1024) = false := by simp; omega
                have hcut := HDR.out mm (by omega) hmm
                have hg2 : ¬ (mm : Int) < 1024 := by omega
                have d11 := hgi.keeps d10
                have f1 := fun d os => cell_regrown d11 d os
                go_wp2_with fail
                refine wp_region_quiet_below (by kernel_rfl) (by kernel_rfl) ?_
                repeat (go_big_quiet_step (first | (go_at_call 36; exact Ret.regrown (hpk _))))
                refine wpQuiet_nil ?_
                intro wi hwi
                have hgj := gr_regrown hwi
                clear hwi f1
                have hgi := (hgi.trans hgj).drew
                obtain ⟨w10, hupd, hma', hgB'⟩ := (HMA10.out.gr hgi).store (by omega) (k := kk) (by omega) now (by omega)
                have HU := Lib.hid hma'
                have HG := Lib.hid hgB'
                clear hma' hgB'
                go_wp2_with fail
                go_region
                go_wp2_with fail
                have hx := GrX.of_grown (S := fun i => i = M) HG.out rfl
                refine ⟨⟨j + 1, 1, pg', left', torn', _, m + 1, by omega, by omega, by go_num, rfl, hx.gr (hgw9.trans hgi) (fun i hi => by rw [hi]; exact hwM), (HD10.out.gr hgi).keepX hx hBM, HU.out, HSZ'.out, HMP'.out, .inr ⟨rfl, htz⟩, by omega, by omega, by omega⟩, by simp [intOf]; omega⟩
      · have hma := HMA.out
        obtain ⟨D, hown, hD⟩ := hma
        have HDD := Lib.hid hD
        clear hD
        have hBR : B < wr.heap.size := lt_of_cell HD.out.2.1
        have hwR : w.heap.size ≤ wr.heap.size := hg.size
        go_wp2_with (at_range; refine wpList_range_own _ rfl _ 56 rfl 3 9 keyI Tryd.underlying56 _ M m D rfl hown ?_; intro w0 hrg0 hg0 hs0)
        all_goals
          try simp only [show decide (j < ys.length) = false from decide_eq_false (by omega)]
          go_frame
          go_loopw [19] (fun _ wr' => ∃ (lf : Lit → Bool) (cnt : Nat), wr'.ranges Tryd.prog 3 (plainElem Tryd.prog 9) M wr.heap.size m D lf cnt ∧ Gr w wr' ∧ DiskAt wr' B pg cut left torn) (fun _ wr' => wr'.rangeLeft M wr.heap.size)
          case atStart => exact ⟨_, _, hrg0, gr_grown hg hg0 (fun k hk => by cases hk), HD.out.keepX (GrX.of_grown (S := fun i => i = wr.heap.size) (hg0.but _) rfl) (by omega)⟩
          case round =>
            obtain ⟨lf, cnt, hrg, hgr, hdr⟩ := hrel
            have HDR := Lib.hid hdr
            clear hdr
            go_wp2_with (at_next; refine wpList_next_ranges_is _ rfl _ rfl 3 9 .i64 keyI Tryd.underlying3 Tryd.underlying9 M _ m D lf cnt rfl hrg ?_ ?_)
            · intro _ _
              go_wp2_with fail
              go_ret
              exact Ret.mk rfl hgr
            · intro x c1 w1 cnt1 hwx hwc hlx hat hrg1 hlt hg1 hs1 hen
              have hgw1 : Gr w w1 := gr_grown hgr hg1 (fun k hk => by cases hk; exact hwR)
              have HD1 := Lib.hid (HDR.out.keepX (GrX.of_grown (S := fun i => B < i) hg1 hBR) (Nat.lt_irrefl B))
              obtain ⟨_, hAt⟩ := HDD.out x hwx
              cases hF : F x with
              | none =>
                rw [hF] at hAt
                have h1 := (hAt (.map [])).symm.trans (hat (.map []))
                cases h1
              | some s =>
                rw [hF] at hAt
                have h1 := (hAt (.map [])).symm.trans (hat (.map []))
                have h2 : s = c1 := by
                  apply data_ext
                  simpa using h1
                subst h2
                obtain ⟨kk, rfl, h9, hv⟩ := HMP.out x s hF
                have hrd := read_d B pg cut left torn kk (by omega) _ HD1.out
                rw [hv] at hrd
                clear hAt h1 hat hF
                go_wp2_with fail
                refine hrd.mono ?_
                rintro e w2 ⟨rfl, hg2⟩
                go_wp2_with fail
                have hrg2 := hrg1.kept (grown_of_gr hg2 none) (by simp) (by simp)
                go_roundw
                case rel =>
                  first | exact ⟨_, cnt1, hrg2, hgw1.trans hg2, HD1.out.gr hg2⟩ | exact ⟨_, _, _, _, _, _, _, _, _, _, _, _, _, _, _, _, _, _, _, _, _, _, ⟨_, cnt1, hrg2, hgw1.trans hg2, HD1.out.gr hg2⟩, rfl⟩
                case measure => rw [hrg2.left_eq, hrg.left_eq]; exact hlt
  · go_enter Tryd.func6, Tryd.ntmps6
    go_wp2_with fail
    all_goals first | omega | skip
    all_goals
      go_ret
      exact Ret.mk rfl (Gr.refl _)
end Go.Proofs.YthenhglpljdhfaaDoor
