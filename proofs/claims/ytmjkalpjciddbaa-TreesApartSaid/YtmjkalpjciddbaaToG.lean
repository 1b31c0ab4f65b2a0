/-
  (*Tree).puts in a tree with pages.
-/
import Derived.Test.YtmjkalpjciddbaaMg15
import Derived.Deep.RegionHeld3
namespace Go.Proofs.Ytmjkalpjciddbaa
open Go Go.RowKit

theorem two_isE (w : World) (k1 i1 k2 i2 : ByteArray) (p1 p2 : Nat) : IsE (w.alloc (.cells #[.string k1, .string i1, .int .i64 (p1 : Int), .string k2, .string i2, .int .i64 (p2 : Int)] 72)) (.slice (some ⟨w.heap.size, 0, none⟩) 2 2) [⟨k1, i1, p1⟩, ⟨k2, i2, p2⟩] := by
  have hc : ∀ j, (w.alloc (.cells #[.string k1, .string i1, .int .i64 (p1 : Int), .string k2, .string i2, .int .i64 (p2 : Int)] 72)).cell? ⟨w.heap.size, j, none⟩ = #[Value.string k1, .string i1, .int .i64 (p1 : Int), .string k2, .string i2, .int .i64 (p2 : Int)][j]? := fun j => by rw [World.cell?_alloc_new]
  refine .inr ⟨w.heap.size, 0, 2, rfl, by simp, fun i hi => ?_⟩
  have : i = 0 ∨ i = 1 := by simp at hi; omega
  rcases this with rfl | rfl
  · rw [hc, hc, hc]
    exact ⟨rfl, rfl, rfl⟩
  · rw [hc, hc, hc]
    exact ⟨rfl, rfl, rfl⟩
section
variable {w : World} {PB DB M : Nat} {c : Ch} {sv : Head} {t : Int} {d : Dk}
set_option maxRecDepth 100000 in
set_option maxHeartbeats 4000000 in
theorem puts_some (h : PgT w PB DB M c sv t d) {TP root : Nat} (ht : TreeAt w TP PB root) (hTn : TP ≠ PB ∧ TP ≠ DB ∧ TP ≠ M) (hr : root < 8) (key item : ByteArray) (hk : key.size ≤ 60) (hi : item.size ≤ 100) {n : Nat} {x : T n} (hx : Tr.lays c d.pg root (some ⟨n, x⟩)) :
    Calls Try.prog 23 #[.pointer (some ⟨TP, 0, none⟩), .agg #[.string key, .string item, .int .i64 0]] w fun e w' => e = .returned (errV (putsT c root (some ⟨n, x⟩) key item).2.2) ∧ PgT w' PB DB M (putsT c root (some ⟨n, x⟩) key item).1 sv t d ∧ PgF PB DB M M w w' := by
  obtain ⟨hrt, hl, ho, hn⟩ := hx
  have hus := T.lays_used hl
  have hpos := (hus _ (T.pg_mem x)).1
  have hlw := h.lt
  have htl := lt_of_cell ht.p
  have gE : Gr w (w.alloc (.cells #[.string key, .string item, .int .i64 0] 72)) := (Gr.refl w).alloc _
  have e0 : (w.alloc (.cells #[.string key, .string item, .int .i64 0] 72)).cell? ⟨w.heap.size, 0, none⟩ = some (.string key) := by rw [World.cell?_alloc_new]; rfl
  have e1 : (w.alloc (.cells #[.string key, .string item, .int .i64 0] 72)).cell? ⟨w.heap.size, 1, none⟩ = some (.string item) := by rw [World.cell?_alloc_new]; rfl
  have e2 : (w.alloc (.cells #[.string key, .string item, .int .i64 0] 72)).cell? ⟨w.heap.size, 2, none⟩ = some (.int .i64 0) := by rw [World.cell?_alloc_new]; rfl
  have hst := start_n (h.gr gE) (ht.gr gE) hr
  rw [hrt] at hst
  have HST := Lib.hid hst
  have HE := Lib.hid gE
  have hEW : w.heap.size < (w.alloc (.cells #[.string key, .string item, .int .i64 0] 72)).heap.size := by simp
  obtain ⟨PR, hPR⟩ : ∃ PR, putsT c root (some ⟨n, x⟩) key item = PR := ⟨_, rfl⟩
  rw [hPR]
  have HPR := Lib.hid hPR
  have hpo := putT_ok (pg := d.pg) hk hi h.f hl ho hn
  have hpt := fun W (g : Gr w W) => put_t hTn key item hk hi (h.gr g) (ht.gr g) hl ho hn
  rcases hpe : putT c x key item with ⟨c1, u, r⟩
  rw [hpe] at hpo
  simp only [hpe] at hpt
  have hpg : u.pg = x.pg := hpo.page
  have hlu : u.lays c1 d.pg := hpo.lays
  have hou : u.okT := hpo.fits
  have hfr1 : c1.fine := hpo.fr.fine
  have hmo := hpo.more
  have hpx : x.pg = u.pg := hpg.symm
  rw [hpx] at hpt HST hpos
  have HPT := Lib.hid hpt
  have HPE := Lib.hid hpe
  have HMO := Lib.hid hmo
  have HLU := Lib.hid hlu
  have HOU := Lib.hid hou
  clear hst gE hPR hpo hpt hpe hpg hmo hlu hou hpx hus hl ho hn hrt
  go_enter Try.func23, Try.ntmps23
  go_wp2_with fail
  obtain ⟨WE, hWE⟩ : ∃ WE, w.alloc (.cells #[.string key, .string item, .int .i64 0] 72) = WE := ⟨_, rfl⟩
  rw [hWE] at e0 e1 e2 HST HE hEW ⊢
  clear hWE
  obtain ⟨EB, hEB⟩ : ∃ EB, w.heap.size = EB := ⟨_, rfl⟩
  rw [hEB] at e0 e1 e2 hEW hlw htl ⊢
  have HEB := Lib.hid hEB
  clear hEB
  refine HST.out.mono ?_
  rintro e w1 ⟨rfl, hg1⟩
  replace e0 := hg1.keeps e0
  replace e1 := hg1.keeps e1
  replace e2 := hg1.keeps e2
  have hE1 : EB < w1.heap.size := lt_of_cell e0
  have hG1 := HE.out.trans hg1
  have HT1 := Lib.hid (ht.gr hG1)
  have HG1 := Lib.hid hG1
  have hEP : EB ≠ PB ∧ EB ≠ DB ∧ EB ≠ M := by omega
  have hp0 : ¬ (u.pg : Int) = 0 := by omega
  have hp0' : ¬ u.pg = 0 := by omega
  have hpt1 := HPT.out _ hG1
  have HPT1 := Lib.hid hpt1
  clear hg1 hG1 hpt1 HPT HST
  obtain ⟨P0, hP0⟩ : ∃ P0, u.pg = P0 := ⟨_, rfl⟩
  rw [hP0] at HPT1 hp0 hp0' hpos ⊢
  have HP0 := Lib.hid hP0
  clear hP0
  go_wp2_with fail
  refine HPT1.out.mono ?_
  rintro e w2 ⟨v, rfl, hm, hp2, hf2⟩
  have ht2 := HT1.out.pg hf2 hTn.1 hTn.2.1 hTn.2.2
  have F2 := (PgF.of_gr PB DB M HG1.out).trans hf2
  rcases r with _ | _ | m
  · obtain rfl : v = .tuple #[.pointer none, errV 12] := hm
    have hev : errV 12 = .iface 56 (.int .i64 12) := rfl
    rw [hev]
    have hpr : PR = (c1, some ⟨n, u⟩, 12) := by
      rw [← HPR.out]
      unfold putsT
      simp only [HPE.out]
    have HP := Lib.hid hpr
    have HX := Lib.hid (And.intro hp2 F2)
    clear hpr hp2 F2 hf2 ht2
    go_wp2_with fail
    go_ret
    exact ⟨by rw [HP.out]; rfl, by rw [HP.out]; exact HX.out.1, HX.out.2⟩
  · obtain rfl : v = .tuple #[.pointer none, .nilIface] := hm
    have hpr : PR = (c1, some ⟨n, u⟩, 0) := by
      rw [← HPR.out]
      unfold putsT
      simp only [HPE.out]
    have HP := Lib.hid hpr
    have HX := Lib.hid (And.intro hp2 F2)
    clear hpr hp2 F2 hf2 ht2
    go_wp2_with fail
    go_ret
    exact ⟨by rw [HP.out]; rfl, by rw [HP.out]; exact HX.out.1, HX.out.2⟩
  · obtain ⟨EC, rfl, hec, y0, y1, y2⟩ := hm
    have hN := (T.lays_iff.1 HLU.out).1
    have hO := (T.okT_iff.1 HOU.out).1
    rw [HP0.out] at hN
    have hrd := read_n hp2.s ht2 hN hO.2.2 hO.2.1
    unfold nodeV at hrd
    have hk1 := head_key HOU.out
    have hmt := HMO.out m rfl
    have hmk : m.1.size ≤ 60 := hmt.2.2.1
    have hmu := T.lays_used hmt.1 _ (T.pg_mem m.2)
    obtain ⟨K1, hK1⟩ : ∃ K1, (u.ents.head?.map En.key).getD noB = K1 := ⟨_, rfl⟩
    obtain ⟨l, hle⟩ : ∃ l, u.ents = l := ⟨_, rfl⟩
    have hEC := HEB
    have hy0 : w2.cell? ⟨EC, 0, none⟩ = some (.string m.1) := y0
    have hy1 : w2.cell? ⟨EC, 1, none⟩ = some (.string noB) := y1
    have hy2 : w2.cell? ⟨EC, 2, none⟩ = some (.int .i64 (m.2.pg : Int)) := y2
    have hoT := twoE_ok (p1 := P0) (p2 := m.2.pg) hk1 hmk hN.1.2.1 hmu.2.1
    rw [hK1] at hoT
    have HK1 := Lib.hid hK1
    rw [hle] at hrd hO hK1
    have hne := hO.1
    have HNU := Lib.hid hN.1
    have HRD := Lib.hid hrd
    have HOT := Lib.hid hoT
    have HLE := Lib.hid hle
    have hwE : EB < w2.heap.size := Nat.lt_of_lt_of_le hE1 hf2.size
    have hECl : EC < w2.heap.size := lt_of_cell hy0
    have hWE1 : EB ≤ w1.heap.size := Nat.le_of_lt hE1
    have hECP : EC ≠ PB ∧ EC ≠ DB ∧ EC ≠ M := by omega
    have HP2 := Lib.hid hp2
    have HT2 := Lib.hid ht2
    have HF2 := Lib.hid F2
    have hew : EB ≤ w2.heap.size := Nat.le_of_lt hwE
    have hW1E : w1.heap.size ≤ EC := hec
    clear hN hO hrd hk1 hmt hmk hoT hle hp2 ht2 F2 hf2 y0 y1 y2 hEC hmu e0 e1 e2
    have hl1 : 0 < l.length := List.length_pos_iff.2 hne
    have hk0 : (l[0]'hl1).key = K1 := by
      rw [← hK1]
      cases l with
      | nil => exact absurd rfl hne
      | cons a r => rfl
    clear hK1
    go_wp2_with fail
    refine HRD.out.mono ?_
    rintro e w3 ⟨s3, rfl, ho3, hg3⟩
    rcases ho3.at' with ⟨_, e2⟩ | ⟨B, cap, rfl, h2, h3, h4, h5, h6⟩
    · rw [e2] at hl1
      exact absurd hl1 (by simp)
    obtain ⟨b0, _, _⟩ := h5 0 hl1
    rw [hk0] at b0
    simp only [Nat.zero_mul, Nat.zero_add] at b0
    have gN : Gr w3 (w3.alloc (.cells #[.int .i64 (P0 : Int), .bool (isLeaf n), .slice (some ⟨B, 0, none⟩) l.length cap] 84)) := (Gr.refl w3).alloc _
    have n2 : (w3.alloc (.cells #[.int .i64 (P0 : Int), .bool (isLeaf n), .slice (some ⟨B, 0, none⟩) l.length cap] 84)).cell? ⟨w3.heap.size, 2, none⟩ = some (.slice (some ⟨B, 0, none⟩) l.length cap) := by rw [World.cell?_alloc_new]; rfl
    replace b0 := gN.keeps b0
    replace hy0 := gN.keeps (hg3.keeps hy0)
    replace hy1 := gN.keeps (hg3.keeps hy1)
    replace hy2 := gN.keeps (hg3.keeps hy2)
    have hal := alloc_t (HP2.out.gr (hg3.trans gN))
    have HAL := Lib.hid hal
    have ht4 := HT2.out.gr (hg3.trans gN)
    have tp := ht4.p
    have HT4 := Lib.hid ht4
    have HF4 := Lib.hid (HF2.out.trans (PgF.of_gr PB DB M (hg3.trans gN)))
    have hNB : w2.heap.size ≤ w3.heap.size := hg3.size
    have hl1i : (0 : Int) < (l.length : Int) := by omega
    clear h5 h6 ho3 hal ht4
    go_wp2_with fail
    obtain ⟨NB, hNBe⟩ : ∃ NB, w3.heap.size = NB := ⟨_, rfl⟩
    rw [hNBe] at n2 hNB ⊢
    clear hNBe
    generalize w3.alloc (.cells #[.int .i64 (P0 : Int), .bool (isLeaf n), .slice (some ⟨B, 0, none⟩) l.length cap] 84) = w4 at *
    cases ha : allocF c1.h with
    | none =>
      have hav : allocV c1 = .tuple #[.int .i64 0, .iface 56 (.int .i64 12)] := by
        unfold allocV
        rw [ha]
      have hce : c1.alloc = c1 := by
        unfold Ch.alloc
        rw [ha]
      rw [hav, hce] at HAL
      have hpr : PR = (c1, some ⟨n, u⟩, 12) := by
        rw [← HPR.out]
        unfold putsT
        simp only [HPE.out, ha]
      have HP := Lib.hid hpr
      clear hav hce ha hpr
      refine HAL.out.mono ?_
      rintro e w5 ⟨rfl, hp5, hf5⟩
      have HX := Lib.hid (And.intro hp5 (HF4.out.trans hf5))
      clear hp5 hf5
      go_wp2_with fail
      go_ret
      exact ⟨by rw [HP.out]; rfl, by rw [HP.out]; exact HX.out.1, HX.out.2⟩
    | some k =>
      have hav : allocV c1 = .tuple #[.int .i64 (k : Int), .nilIface] := by
        unfold allocV
        rw [ha]
      rw [hav] at HAL
      obtain ⟨f1, u1, n1, k1, k2⟩ := alloc_fr (pg := d.pg) hfr1 ha
      obtain ⟨f2, u2, _⟩ := write_fr (pg := d.pg) f1.fine u1 (pageE_size HOT.out.2.2 HOT.out.2.1)
      have hpr : PR = ((c1.alloc.write (k : Nat) (pageE false (twoE K1 P0 m.1 m.2.pg))).root root (k : Nat), some ⟨n + 1, (k, [(K1, u), m])⟩, 0) := by
        rw [← HPR.out]
        unfold putsT
        simp only [HPE.out, ha, HK1.out, HP0.out]
        rfl
      have hss := setS_zero f2.fine hr (k : Nat)
      have HP := Lib.hid hpr
      have HSS := Lib.hid hss
      have HU1 := Lib.hid u1
      clear hav ha hpr hss u1 u2 f1 f2 n1
      refine HAL.out.mono ?_
      rintro e w5 ⟨rfl, hp5, hf5⟩
      have hNP : NB ≠ PB ∧ NB ≠ DB ∧ NB ≠ M := by omega
      have hBP : B ≠ PB ∧ B ≠ DB ∧ B ≠ M := by omega
      replace n2 := hf5.keeps hNP.1 hNP.2.1 hNP.2.2 n2
      replace b0 := hf5.keeps hBP.1 hBP.2.1 hBP.2.2 b0
      replace hy0 := hf5.keeps hECP.1 hECP.2.1 hECP.2.2 hy0
      replace hy1 := hf5.keeps hECP.1 hECP.2.1 hECP.2.2 hy1
      replace hy2 := hf5.keeps hECP.1 hECP.2.1 hECP.2.2 hy2
      have ht5 := HT4.out.pg hf5 hTn.1 hTn.2.1 hTn.2.2
      have gA := fun W : World => (Gr.refl W).alloc (.cells #[.string K1, .string noB, .int .i64 (P0 : Int), .string m.1, .string noB, .int .i64 (m.2.pg : Int)] 72)
      have hwr := fun W (g : Gr w5 W) => write_n (hp5.gr (g.trans (gA W))) (ht5.gr (g.trans (gA W))) (p := k) (two_isE W K1 noB m.1 noB P0 m.2.pg) HOT.out.2.2 HOT.out.2.1 HU1.out
      unfold nodeV at hwr
      have HWR := Lib.hid hwr
      have HT5 := Lib.hid ht5
      have HF5 := Lib.hid (HF4.out.trans hf5)
      have HGA := Lib.hid gA
      obtain ⟨mk, hmk⟩ : ∃ mk, m.1 = mk := ⟨_, rfl⟩
      obtain ⟨mp, hmp⟩ : ∃ mp, (m.2.pg : Int) = mp := ⟨_, rfl⟩
      have hnb : noB = (⟨#[]⟩ : ByteArray) := rfl
      rw [hmk] at hy0
      rw [hmp] at hy2
      rw [hmk, hmp] at HWR HGA
      rw [hnb] at hy1 HWR HGA
      clear hp5 hf5 ht5 gA hwr hnb
      go_wp2_with fail
      have Gc : Gr w5 w5.drew := (Gr.refl w5).drew
      have ga := HGA.out w5.drew
      have Y1 : w5.drew.cell? ⟨NB, 2, none⟩ = some (.slice (some ⟨B, 0, none⟩) l.length cap) := n2
      have Y2 : w5.drew.cell? ⟨B, 0, none⟩ = some (.string K1) := b0
      have Y3 : w5.drew.cell? ⟨EC, 0, none⟩ = some (.string mk) := hy0
      have Y4 : w5.drew.cell? ⟨EC, 1, none⟩ = some (.string ⟨#[]⟩) := hy1
      have Y5 : w5.drew.cell? ⟨EC, 2, none⟩ = some (.int .i64 mp) := hy2
      have Z1 := ga.keeps Y1
      have Z2 := ga.keeps Y2
      have Z3 := ga.keeps Y3
      have Z4 := ga.keeps Y4
      have Z5 := ga.keeps Y5
      have kf : ∀ W W' : World, PgF PB DB M M W W' → (W.cell? ⟨NB, 2, none⟩ = some (.slice (some ⟨B, 0, none⟩) l.length cap) ∧ W.cell? ⟨B, 0, none⟩ = some (.string K1) ∧ W.cell? ⟨EC, 0, none⟩ = some (.string mk) ∧ W.cell? ⟨EC, 1, none⟩ = some (.string ⟨#[]⟩) ∧ W.cell? ⟨EC, 2, none⟩ = some (.int .i64 mp)) → (W'.cell? ⟨NB, 2, none⟩ = some (.slice (some ⟨B, 0, none⟩) l.length cap) ∧ W'.cell? ⟨B, 0, none⟩ = some (.string K1) ∧ W'.cell? ⟨EC, 0, none⟩ = some (.string mk) ∧ W'.cell? ⟨EC, 1, none⟩ = some (.string ⟨#[]⟩) ∧ W'.cell? ⟨EC, 2, none⟩ = some (.int .i64 mp)) := fun W W' f ⟨a1, a2, a3, a4, a5⟩ => ⟨f.keeps hNP.1 hNP.2.1 hNP.2.2 a1, f.keeps hBP.1 hBP.2.1 hBP.2.2 a2, f.keeps hECP.1 hECP.2.1 hECP.2.2 a3, f.keeps hECP.1 hECP.2.1 hECP.2.2 a4, f.keeps hECP.1 hECP.2.1 hECP.2.2 a5⟩
      have KF := Lib.hid kf
      clear kf ga
      go_region_held3 (fun w' => w'.cell? ⟨NB, 2, none⟩ = some (.slice (some ⟨B, 0, none⟩) l.length cap) ∧ w'.cell? ⟨B, 0, none⟩ = some (.string K1) ∧ w'.cell? ⟨EC, 0, none⟩ = some (.string mk) ∧ w'.cell? ⟨EC, 1, none⟩ = some (.string ⟨#[]⟩) ∧ w'.cell? ⟨EC, 2, none⟩ = some (.int .i64 mp)) (first | exact ⟨Y1, Y2, Y3, Y4, Y5⟩ | exact ⟨Z1, Z2, Z3, Z4, Z5⟩ | exact ⟨V1, V2, V3, V4, V5⟩ | exact ⟨n2, b0, hy0, hy1, hy2⟩) (first | (go_at_call 40; refine (HWR.out _ Gc).mono ?_; rintro e w6 ⟨rfl, hp6, hf6⟩; obtain ⟨V1, V2, V3, V4, V5⟩ := KF.out _ _ hf6 ⟨Z1, Z2, Z3, Z4, Z5⟩))
      all_goals
        have hfw := (PgF.of_gr PB DB M (Gc.trans (HGA.out w5.drew))).trans hf6
        have hst := set_n hp6 (HT5.out.pg hfw hTn.1 hTn.2.1 hTn.2.2) hTn hr (p := (k : Int)) (more := 0) (by omega) (by omega)
        have HST6 := Lib.hid hst
        have HFW := Lib.hid (HF5.out.trans hfw)
        clear hfw hp6 hf6 hst
        go_wp2_with fail
        refine HST6.out.mono ?_
        rintro e w7 ⟨rfl, hp7, hf7⟩
        have hs7 : setS (c1.alloc.write (k : Nat) (pageE false [⟨K1, ⟨#[]⟩, P0⟩, ⟨mk, ⟨#[]⟩, m.2.pg⟩])) root (k : Nat) 0 = ((c1.alloc.write (k : Nat) (pageE false (twoE K1 P0 m.1 m.2.pg))).root root (k : Nat), 0) := by
          rw [← hmk]
          exact HSS.out
        have HX := Lib.hid (And.intro hp7 (HFW.out.trans hf7))
        rw [hs7] at HX ⊢
        clear hp7 hf7 hs7
        have hev : errV 0 = .nilIface := rfl
        rw [hev]
        go_wp2_with fail
        go_ret
        exact ⟨by rw [HP.out]; rfl, by rw [HP.out]; exact HX.out.1, HX.out.2⟩
end
end Go.Proofs.Ytmjkalpjciddbaa
