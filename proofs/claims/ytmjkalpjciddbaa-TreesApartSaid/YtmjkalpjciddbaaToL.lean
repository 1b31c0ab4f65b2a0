/-
  (*Tree).Clear.
-/
import Derived.Test.YtmjkalpjciddbaaMg13
import Derived.Test.YtmjkalpjciddbaaMg17
namespace Go.Proofs.Ytmjkalpjciddbaa
open Go Go.RowKit

theorem fold_clear {pg : Nat → ByteArray} {d : Nat} : ∀ (m : List (ByteArray × T d)) (c : Ch), c.fine → (∀ x ∈ m, x.2.lays c pg) → (m.flatMap fun y => y.2.pages).Nodup → Fr pg (m.flatMap fun y => y.2.pages) c (m.foldl (fun c (x : ByteArray × T d) => clearT c x.2) c)
  | [], c, hc, _, _ => Fr.refl hc _
  | x :: m, c, hc, hx, hnd => by
    rw [List.flatMap_cons] at hnd
    obtain ⟨a1, a2, a3⟩ := List.nodup_append.1 hnd
    have h1 := clearT_ok (pg := pg) hc (hx x List.mem_cons_self) a1
    have h2 := fold_clear m (clearT c x.2) h1.fine (fun y hy => T.lays_fr h1 (hx y (List.mem_cons_of_mem _ hy)) fun k hk hm => a3 k hm k (List.mem_flatMap.2 ⟨y, hy, hk⟩) rfl) a2
    rw [List.foldl_cons, List.flatMap_cons]
    exact (h1.wide fun k hk => .inl (List.mem_append_left _ hk)).trans h2 fun k hk => .inl (List.mem_append_right _ hk)
section
variable {PB DB M : Nat} {sv : Head} {t : Int} {dk : Dk}
theorem clr_t {TP root FT FW : Nat} (hTn : TP ≠ PB ∧ TP ≠ DB ∧ TP ≠ M) (hFT : FT ≠ PB ∧ FT ≠ DB ∧ FT ≠ M) (hFW : FW ≠ PB ∧ FW ≠ DB ∧ FW ≠ M) : ∀ {n : Nat} {c : Ch} {x : T n} {w : World}, PgT w PB DB M c sv t dk → TreeAt w TP PB root → ClS w FT FW TP → x.lays c dk.pg → x.okT → x.pages.Nodup →
    Calls Try.prog 29 #[.int .i64 (x.pg : Int), .pointer (some ⟨FT, 0, none⟩), .pointer (some ⟨FW, 0, none⟩)] w fun e w' => e = .returned .nilIface ∧ PgT w' PB DB M (clearT c x) sv t dk ∧ PgF PB DB M M w w'
  | 0, c, x, w, h, ht, hw, hl, ho, hn => by
    obtain ⟨p, l⟩ : Nat × List (ByteArray × ByteArray) := x
    exact clr_leaf h ht (p := p) (l := l.map enL) hl ho.2.2 ho.2.1 ho.1 hw
  | n + 1, c, x, w, h, ht, hw, hl, ho, hn => by
    obtain ⟨p, l⟩ : Nat × List (ByteArray × T n) := x
    have hlx : ∀ y ∈ l, y.2.lays c dk.pg := hl.2
    have hox : ∀ y ∈ l, y.2.okT := ho.2
    have hnd : (p :: l.flatMap fun y => y.2.pages).Nodup := hn
    obtain ⟨n1, n2⟩ := List.nodup_cons.1 hnd
    have hpre : ∀ j, Fr dk.pg ((l.take j).flatMap fun y => y.2.pages) c ((l.take j).foldl (fun c (x : ByteArray × T n) => clearT c x.2) c) := fun j => by
      refine fold_clear (l.take j) c h.f (fun x hx => hlx x (List.mem_of_mem_take hx)) ?_
      have : ((l.take j).flatMap fun y => y.2.pages).Sublist (l.flatMap fun y => y.2.pages) := by
        have h1 : l.flatMap (fun y => y.2.pages) = (l.take j).flatMap (fun y => y.2.pages) ++ (l.drop j).flatMap (fun y => y.2.pages) := by
          rw [← List.flatMap_append, List.take_append_drop]
        rw [h1]
        exact List.sublist_append_left _ _
      exact n2.sublist this
    have e0 : clearT (d := n + 1) c (p, l) = (l.foldl (fun c (x : ByteArray × T n) => clearT c x.2) c).free (p : Nat) := rfl
    have hall := hpre l.length
    rw [List.take_length] at hall
    have hnode := clr_node h ht (p := p) (l := l.map enN) hl.1 ho.1.2.2 ho.1.2.1 ho.1.1 hw hTn hFT hFW (cs := fun j => (l.take j).foldl (fun c (x : ByteArray × T n) => clearT c x.2) c) (by simp) (by
      show InU ((l.take (l.map enN).length).foldl (fun c (x : ByteArray × T n) => clearT c x.2) c) p
      rw [List.length_map, List.take_length]
      exact hall.inU hl.1.1 n1) (fun j hj W q1 q2 q3 => by
      have hj2 : j < l.length := by rw [List.length_map] at hj; exact hj
      have hm : l[j] ∈ l := List.getElem_mem hj2
      have hpe : (((l.map enN)[j]).page : Int) = (l[j].2.pg : Int) := by rw [List.getElem_map]; rfl
      rw [hpe]
      have hsplit : l = l.take j ++ (l[j] :: l.drop (j + 1)) := by
        rw [← List.drop_eq_getElem_cons hj2, List.take_append_drop]
      have hdis : ∀ k ∈ l[j].2.pages, k ∉ (l.take j).flatMap fun y => y.2.pages := fun k h1 h2 => by
        have h3 := n2
        rw [hsplit, List.flatMap_append, List.flatMap_cons] at h3
        exact (List.nodup_append.1 h3).2.2 k h2 k (List.mem_append_left _ h1) rfl
      have hndj : l[j].2.pages.Nodup := by
        have h3 := n2
        rw [hsplit, List.flatMap_append, List.flatMap_cons] at h3
        exact (List.nodup_append.1 (List.nodup_append.1 h3).2.1).1
      have ih := clr_t hTn hFT hFW q1 q2 q3 (T.lays_fr (hpre j) (hlx _ hm) hdis) (hox _ hm) hndj
      have e2 : (l.take (j + 1)).foldl (fun c (x : ByteArray × T n) => clearT c x.2) c = clearT ((l.take j).foldl (fun c (x : ByteArray × T n) => clearT c x.2) c) l[j].2 := by
        rw [List.take_succ_eq_append_getElem hj2, List.foldl_append]
        rfl
      show Calls _ _ _ _ fun e w' => e = .returned .nilIface ∧ PgT w' PB DB M ((l.take (j + 1)).foldl (fun c (x : ByteArray × T n) => clearT c x.2) c) sv t dk ∧ PgF PB DB M M W w'
      rw [e2]
      exact ih)
    have e3 : (l.take (l.map enN).length).foldl (fun c (x : ByteArray × T n) => clearT c x.2) c = l.foldl (fun c (x : ByteArray × T n) => clearT c x.2) c := by
      rw [List.length_map, List.take_length]
    simp only [e3] at hnode
    rw [e0]
    exact hnode
end
section
variable {w : World} {PB DB M : Nat} {c : Ch} {sv : Head} {t : Int} {d : Dk}
theorem setRoot_zero {w : World} {PB DB M : Nat} {c : Ch} {sv : Head} {t : Int} {d : Dk} (h : PgT w PB DB M c sv t d) {i : Nat} (hi : i < 8) : Calls Try.prog 32 #[.pointer (some ⟨PB, 0, none⟩), .int .i64 i, .int .i64 0, .int .i64 0] w fun e w' =>
    e = .returned .nilIface ∧ PgT w' PB DB M ⟨c.h.setRoot i 0 0, c.F⟩ sv t d ∧ PgF PB DB M M w w' := by
  refine (setRoot_t h hi (k := 0) (m := 0) (by omega)).mono ?_
  intro e w' hh
  simp only [if_pos (show (0 : Int) ≤ 0 ∧ (0 : Int) < 65536 by omega)] at hh
  exact hh
set_option maxRecDepth 100000 in
set_option maxHeartbeats 4000000 in
theorem clear_n (h : PgT w PB DB M c sv t d) {TP root : Nat} (ht : TreeAt w TP PB root) (hTn : TP ≠ PB ∧ TP ≠ DB ∧ TP ≠ M) (hr : root < 8) {tr : Tr} (hl : tr.lays c d.pg root) :
    Calls Try.prog 12 #[.pointer (some ⟨TP, 0, none⟩)] w fun e w' => e = .returned .nilIface ∧ PgT w' PB DB M (clearR c root tr) sv t d ∧ PgF PB DB M M w w' := by
  have hlw := h.lt
  have htl := lt_of_cell ht.p
  have gT : Gr w (w.alloc (.cells #[.pointer (some ⟨TP, 0, none⟩)] 33)) := (Gr.refl w).alloc _
  have b0 := box_new w (.pointer (some ⟨TP, 0, none⟩)) 33
  have hdn := down_t (h.gr gT)
  have HDN := Lib.hid hdn
  have htp := (ht.gr gT).p
  have HGT := Lib.hid gT
  have HH := Lib.hid (And.intro h ht)
  have HL := Lib.hid hl
  clear hdn gT h ht hl
  go_enter Try.func12, Try.ntmps12
  go_wp2_with fail
  obtain ⟨W1, hW1⟩ : ∃ W1, w.alloc (.cells #[.pointer (some ⟨TP, 0, none⟩)] 33) = W1 := ⟨_, rfl⟩
  rw [hW1] at b0 htp HDN HGT ⊢
  clear hW1
  obtain ⟨FT, hFT⟩ : ∃ FT, w.heap.size = FT := ⟨_, rfl⟩
  rw [hFT] at b0 hlw htl ⊢
  have HFT := Lib.hid hFT
  clear hFT
  refine HDN.out.mono ?_
  rintro e w1 ⟨rfl, hg1⟩
  replace b0 := hg1.keeps b0
  have hFTl : FT < w1.heap.size := lt_of_cell b0
  have gB : Gr w1 (w1.alloc (.cells #[.func (.func 29) #[] #[.pointer (some ⟨FT, 0, none⟩), .pointer (some ⟨w1.heap.size, 0, none⟩)]] 81)) := (Gr.refl w1).alloc _
  have z1 := box_new w1 (.func (.func 29) #[] #[.pointer (some ⟨FT, 0, none⟩), .pointer (some ⟨w1.heap.size, 0, none⟩)]) 81
  replace b0 := gB.keeps b0
  have hGW := (HGT.out.trans hg1).trans gB
  have hst := start_n (HH.out.1.gr hGW) (HH.out.2.gr hGW) hr
  have HST := Lib.hid hst
  have HGW := Lib.hid hGW
  clear hst gB hg1 hGW htp
  go_wp2_with fail
  obtain ⟨FW, hFW⟩ : ∃ FW, w1.heap.size = FW := ⟨_, rfl⟩
  rw [hFW] at z1 b0 HST HGW hFTl ⊢
  clear hFW
  generalize w1.alloc (.cells #[.func (.func 29) #[] #[.pointer (some ⟨FT, 0, none⟩), .pointer (some ⟨FW, 0, none⟩)]] 81) = W5 at *
  refine HST.out.mono ?_
  rintro e w6 ⟨rfl, hg6⟩
  replace b0 := hg6.keeps b0
  replace z1 := hg6.keeps z1
  have HG6 := Lib.hid (HGW.out.trans hg6)
  have hFTP : FT ≠ PB ∧ FT ≠ DB ∧ FT ≠ M := by omega
  have hFWP : FW ≠ PB ∧ FW ≠ DB ∧ FW ≠ M := by omega
  clear hg6
  cases tr with
  | none =>
    have hr0 : c.h.roots root = 0 := HL.out
    have HPC := Lib.hid (HH.out.1.gr HG6.out)
    have HTC := Lib.hid (HH.out.2.gr HG6.out)
    have HFC := Lib.hid (PgF.of_gr PB DB M HG6.out)
    have hsr := fun W (g : Gr w6 W) => setRoot_zero (HPC.out.gr g) hr
    have HSR := Lib.hid hsr
    have tp := HTC.out.p
    have tr := HTC.out.r
    clear hsr
    go_wp2_with fail
    go_region_with (go_at_call 32; refine (HSR.out _ ?_).mono ?_; (with_reducible exact (Gr.refl _).drew); rintro e w9 ⟨rfl, hp9, hf9⟩)
    all_goals
      have HX := Lib.hid (And.intro hp9 (HFC.out.trans ((PgF.of_gr PB DB M (Gr.refl w6).drew).trans hf9)))
      clear hp9 hf9
      go_wp2_with fail
      go_ret
      exact ⟨rfl, HX.out⟩
  | some x =>
    obtain ⟨q1, q2, q3, q4⟩ := HL.out
    have hp1 := (T.lays_used q2 _ (T.pg_mem x.2)).1
    have hpp : (0 : Int) < c.h.roots root := by omega
    have hct := clr_t hTn hFTP hFWP (HH.out.1.gr HG6.out) (HH.out.2.gr HG6.out) ⟨b0, z1⟩ q2 q3 q4
    have HCT := Lib.hid hct
    clear hct q2 q3 q4
    go_wp2_with fail
    refine HCT.out.mono ?_
    rintro e w7 ⟨rfl, hp7, hf7⟩
    replace b0 := hf7.keeps hFTP.1 hFTP.2.1 hFTP.2.2 b0
    have HPC := Lib.hid hp7
    have HTC := Lib.hid ((HH.out.2.gr HG6.out).pg hf7 hTn.1 hTn.2.1 hTn.2.2)
    have HFC := Lib.hid ((PgF.of_gr PB DB M HG6.out).trans hf7)
    clear hp7 hf7
    have hsr := fun W (g : Gr w7 W) => setRoot_zero (HPC.out.gr g) hr
    have HSR := Lib.hid hsr
    have tp := HTC.out.p
    have tr := HTC.out.r
    clear hsr
    go_wp2_with fail
    go_region_with (go_at_call 32; refine (HSR.out _ ?_).mono ?_; (with_reducible exact (Gr.refl _).drew); rintro e w9 ⟨rfl, hp9, hf9⟩)
    all_goals
      have HX := Lib.hid (And.intro hp9 (HFC.out.trans ((PgF.of_gr PB DB M (Gr.refl w7).drew).trans hf9)))
      clear hp9 hf9
      go_wp2_with fail
      go_ret
      exact ⟨rfl, HX.out⟩
end
end Go.Proofs.Ytmjkalpjciddbaa
