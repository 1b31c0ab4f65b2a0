/-
  A disk on which nothing is left to do: what a commit makes of it, and an opening.
-/
import Derived.Test.YtmjkalpjciddbaaMg10
import Derived.Test.YtmjkalpjciddbaaToL
namespace Go.Proofs.Ytmjkalpjciddbaa
open Go Go.RowKit

/-- A new disk. -/
def dk0 : Dk := ⟨fun _ => ⟨#[]⟩, false, 0, 0⟩
/-- What a new disk's pager has. -/
def headZ : Head := ⟨fun i => i == 0, fun _ => 0, fun _ => 0⟩
theorem headZ_fine : headZ.fine := ⟨rfl, fun _ _ => ⟨by show (0 : Int) ≤ 0; omega, by show (0 : Int) < 2000; omega⟩, fun _ _ => ⟨by show (0 : Int) ≤ 0; omega, by show (0 : Int) < 65536; omega⟩⟩
theorem pgGet_empty (k : Nat) : pgGet dk0.pg k = zerosB := by
  unfold pgGet
  rw [if_pos]
  rw [ByteArray.toList_eq]
  rfl
theorem headD_zero : headD dk0.pg = headZ := by
  unfold headD
  rw [pgGet_empty]
  unfold readsF headZ fromF
  congr 1
  · funext i
    rw [zeros_getD]
    simp
  · funext i
    rw [zeros_getD, zeros_getD]
    rfl
  · funext i
    rw [zeros_getD, zeros_getD]
    rfl
/-- Nothing is left to do: the log is empty, and the head stands in its place. -/
structure Clean (d : Dk) (sv : Head) : Prop where
  whole : d.whole
  log : pgGet d.pg 2000 = zerosB
  head : (headD d.pg).same sv
  fine : sv.fine
theorem clean0 : Clean dk0 headZ := ⟨fun k _ => by rw [pgGet_empty]; exact zerosB_sz, pgGet_empty _, by rw [headD_zero]; exact Head.same.refl _, headZ_fine⟩
theorem Clean.openE {d : Dk} {sv : Head} (h : Clean d sv) : openE d.pg = [] := by
  unfold Go.Proofs.Ytmjkalpjciddbaa.openE
  rw [if_pos (logged_zeros h.log)]
set_option maxRecDepth 100000 in
theorem Clean.commit {d : Dk} {sv : Head} (h : Clean d sv) {c : Ch} (hc : c.fine) (ok : (wrsD d (commitE c.h c.F)).1 = true) :
    Clean (wrsD d (commitE c.h c.F)).2 c.h ∧ ∀ k : Nat, 1 ≤ k → k < 2000 → pgGet (wrsD d (commitE c.h c.F)).2.pg k = pageNow d.pg c.F k := by
  obtain ⟨h1, h2⟩ := (commit_crash (commit_cm hc.dirty) h.log).1 ok
  have hn := commit_new hc.dirty d.pg
  have e0 : pgGet (wrsD d (commitE c.h c.F)).2.pg 0 = textB c.h := (h1.2 0 (by omega)).trans hn.1
  exact ⟨⟨wrsD_whole _ h.whole (commitE_ok hc.dirty c.h), h2, head_same hc.head e0, hc.head⟩, fun k k1 k2 => (h1.2 k k2).trans (hn.2 k k1 k2)⟩
set_option maxRecDepth 100000 in
theorem Clean.commit0 {d : Dk} {sv : Head} (h : Clean d sv) {c : Ch} (hc : c.fine) (ok : (wrsD d (commitE c.h c.F)).1 = true) : pgGet (wrsD d (commitE c.h c.F)).2.pg 0 = textB c.h := by
  obtain ⟨h1, h2⟩ := (commit_crash (commit_cm hc.dirty) h.log).1 ok
  exact (h1.2 0 (by omega)).trans (commit_new hc.dirty d.pg).1
set_option maxRecDepth 100000 in
theorem wrsD_power {d : Dk} (h : d.cut = false) (l : List (Nat × ByteArray)) : (wrsD d l).1 = true ∧ (wrsD d l).2.cut = false ∧ (wrsD d l).2.left = d.left - l.length := by
  rw [wrsD_on l h]
  exact ⟨rfl, h, rfl⟩
set_option maxRecDepth 100000 in
theorem usedN_put (h : Head) (k : Nat) (hk : h.used k = false) : ∀ n, usedN (h.put k true) n = usedN h n + if k < n then 1 else 0
  | 0 => rfl
  | n + 1 => by
    have e0 : (h.put k true).used n = if n = k then true else h.used n := rfl
    unfold usedN
    rw [usedN_put h k hk n, e0]
    by_cases e : n = k
    · subst e
      simp [hk]
    · by_cases e2 : k < n
      · have e3 : k < n + 1 := by omega
        simp only [if_pos e2, if_pos e3, if_neg e]
        omega
      · have e3 : ¬ k < n + 1 := by omega
        simp only [if_neg e2, if_neg e3, if_neg e]
        omega
theorem usedN_zero : ∀ n, usedN headZ (n + 1) = 1
  | 0 => rfl
  | n + 1 => by
    have e0 : headZ.used (n + 1) = false := rfl
    have ih := usedN_zero n
    rw [usedN, ih, e0]
    rfl
theorem inUse_nat (h : Head) {k : Nat} (h1 : 1 ≤ k) (h2 : k < 2000) : inUse h (k : Int) = h.used k := by
  unfold inUse
  rw [decide_eq_true (by omega), decide_eq_true (by omega)]
  simp
end Go.Proofs.Ytmjkalpjciddbaa

/-
  A new disk, and an opening where nothing is left to do.
-/
namespace Go.Proofs.Ytmjkalpjciddbaa
open Go Go.RowKit

theorem PgF.gr {PB DB M M' : Nat} {w0 w w' : World} (h : PgF PB DB M M' w w') (g0 : Gr w0 w) (h1 : w0.heap.size ≤ PB) (h2 : w0.heap.size ≤ DB) (h3 : w0.heap.size ≤ M) : Gr w0 w' ∧ w0.heap.size ≤ M' := by
  refine ⟨h.2.gr g0 fun k e => ?_, ?_⟩
  · rcases e with rfl | rfl | rfl <;> assumption
  · have := g0.size
    rcases h.1 with e | e <;> omega
theorem zero_disk : Try.zeroCells32 = Array.replicate 4001 (.string ⟨#[]⟩) ++ #[.bool false, .int .i64 0, .int .i64 0] := by kernel_rfl
/-- A disk that has just been made. -/
theorem disk_made (w : World) : DkAt (w.alloc (.cells Try.zeroCells32 32)) w.heap.size dk0 := by
  rw [zero_disk]
  refine ⟨fun k hk => ?_, ?_, ?_, ?_, fun o => by simp⟩
  · rw [World.cell?_alloc_new, Array.getElem?_append_left (by simpa using hk)]
    simp [hk, dk0]
  all_goals
    rw [World.cell?_alloc_new, Array.getElem?_append_right (by simp)]
    simp [dk0]
set_option maxRecDepth 100000 in
/-- An opening, where nothing is left to do. -/
theorem open_s (DB : Nat) (d : Dk) (sv : Head) (w : World) (hd : DkAt w DB d) (hc : Clean d sv) (hl : -890000 ≤ d.left ∧ d.left ≤ 1000000) :
    Calls Try.prog 5 #[.pointer (some ⟨DB, 0, none⟩)] w fun e w' => ∃ PB M, e = .returned (.tuple #[.pointer (some ⟨PB, 0, none⟩), .nilIface]) ∧ PgS w' PB DB M 0 (.new (headD d.pg)) (headD d.pg) 0 d ∧ w.heap.size ≤ PB ∧ w.heap.size ≤ M ∧ GrX (fun b => b = DB) w w' := by
  have hlt := hd.lt
  refine (open_g DB d w hd hc.whole hl).mono ?_
  rintro e w' ⟨h1, h2, h3⟩
  rw [hc.openE] at h1 h3
  rw [wrsD_nil] at h1 h3
  rw [if_pos rfl] at h3
  obtain ⟨PB, M, rfl, h4, h5, h6⟩ := h3
  exact ⟨PB, M, rfl, ⟨⟨0, Nat.le_refl _, h4⟩, h1, by omega, by omega⟩, h5, h6, h2⟩
end Go.Proofs.Ytmjkalpjciddbaa

/-
  tree.At; pairs.
-/
namespace Go.Proofs.Ytmjkalpjciddbaa
open Go Go.RowKit

section
variable {w : World} {PB DB M : Nat} {c : Ch} {sv : Head} {t : Int} {d : Dk}
set_option maxRecDepth 100000 in
set_option maxHeartbeats 4000000 in
theorem at_n (h : PgT w PB DB M c sv t d) {root : Nat} (hr : root < 8) :
    Calls Try.prog 6 #[.pointer (some ⟨PB, 0, none⟩), .int .i64 (root : Int)] w fun e w' => ∃ TP, e = .returned (.tuple #[.pointer (some ⟨TP, 0, none⟩), .nilIface]) ∧ TreeAt w' TP PB root ∧ w.heap.size ≤ TP ∧ Gr w w' := by
  have hrt := root_s h.s root hr
  have HRT := Lib.hid hrt
  clear hrt
  go_enter Try.func6, Try.ntmps6
  go_wp2_with fail
  refine HRT.out.mono ?_
  rintro e w1 ⟨rfl, hg1⟩
  have gA : Gr w1 (w1.alloc (.cells #[.pointer (some ⟨PB, 0, none⟩), .int .i64 (root : Int)] 69)) := (Gr.refl w1).alloc _
  have k0 : (w1.alloc (.cells #[.pointer (some ⟨PB, 0, none⟩), .int .i64 (root : Int)] 69)).cell? ⟨w1.heap.size, 0, none⟩ = some (.pointer (some ⟨PB, 0, none⟩)) := by rw [World.cell?_alloc_new]; rfl
  have k1 : (w1.alloc (.cells #[.pointer (some ⟨PB, 0, none⟩), .int .i64 (root : Int)] 69)).cell? ⟨w1.heap.size, 1, none⟩ = some (.int .i64 (root : Int)) := by rw [World.cell?_alloc_new]; rfl
  have HX := Lib.hid (And.intro (TreeAt.mk k0 k1) (And.intro hg1.size (hg1.trans gA)))
  clear gA k0 k1 hg1
  go_wp2_with fail
  go_ret2
  exact ⟨_, rfl, HX.out.1, HX.out.2.1, HX.out.2.2⟩
end
/-- A pair as text, behind another text. -/
def oneB (n : Nat) : ByteArray := ⟨#[n.toUInt8]⟩
def pairB (s : ByteArray) (x : GPair) : ByteArray := s ++ (((oneB x.1.size ++ x.1) ++ oneB x.2.size) ++ x.2)
def pairsB (l : List GPair) : ByteArray := l.foldl pairB noB
theorem pairsB_size : ∀ (l : List GPair) (s : ByteArray), (∀ y ∈ l, y.1.size ≤ 60 ∧ y.2.size ≤ 100) → (l.foldl pairB s).size ≤ s.size + 170 * l.length
  | [], s, _ => by simp
  | x :: l, s, h => by
    have h1 := pairsB_size l (pairB s x) fun y hy => h y (List.mem_cons_of_mem _ hy)
    have h2 := h x List.mem_cons_self
    have h3 : (pairB s x).size = s.size + (((1 + x.1.size) + 1) + x.2.size) := by
      unfold pairB oneB
      simp only [ByteArray.size_append]
      rfl
    rw [List.foldl_cons, List.length_cons]
    omega
theorem walk_small (s : ByteArray) : ∀ {d : Nat} {x : T d}, x.okT → ∀ y ∈ walkT s x, y.1.size ≤ 60 ∧ y.2.size ≤ 100
  | 0, x, h, y, hy => by
    obtain ⟨p, l⟩ : Nat × List (ByteArray × ByteArray) := x
    have hy : y ∈ l.drop (searchE (l.map Prod.fst) s) := hy
    have hm : enL y ∈ l.map enL := List.mem_map_of_mem (List.mem_of_mem_drop hy)
    have ho := h.2.2 (enL y) hm
    exact ⟨ho.key, ho.item⟩
  | d + 1, x, h, y, hy => by
    obtain ⟨p, l⟩ : Nat × List (ByteArray × T d) := x
    have hy : y ∈ (l.drop (downE (l.map Prod.fst) s)).flatMap fun z => walkT s z.2 := hy
    obtain ⟨z, hz, hy⟩ := List.mem_flatMap.1 hy
    exact walk_small s (h.2 z (List.mem_of_mem_drop hz)) y hy
theorem walkR_small {c : Ch} {pg : Nat → ByteArray} {i : Nat} {tr : Tr} (hl : tr.lays c pg i) (s : ByteArray) : (∀ y ∈ walkR tr s, y.1.size ≤ 60 ∧ y.2.size ≤ 100) ∧ (walkR tr s).length ≤ 1200000 := by
  cases tr with
  | none => exact ⟨(fun y hy => by cases hy), by show (0 : Nat) ≤ 1200000; omega⟩
  | some x =>
    refine ⟨walk_small s hl.2.2.1, ?_⟩
    have h1 := walkT_len s hl.2.2.1
    have h2 := nodup_lt 2000 x.2.pages hl.2.2.2 fun k hk => (T.lays_used hl.2.1 k hk).2.1
    show (walkT s x.2).length ≤ _
    omega
theorem own_one (w : World) (a : UInt8) {W : World} (g : Gr (w.alloc (.cells #[.int .u8 (a.toNat : Int)] 5)) W) : (convert 79 9 (.slice (some ⟨w.heap.size, 0, none⟩) 1 1)).run Try.prog W = .ok (.string ⟨#[a]⟩) W :=
  own_string (a0 := w) (l := [a]) (ownsRow_gr (World.ownsRow_lit w #[.int .u8 (a.toNat : Int)] 1 (Nat.le_refl _) (by decide) rfl) g)
theorem u8_wrap (n : Nat) : IntKind.u8.wrap (n : Int) = ((n.toUInt8).toNat : Int) := by
  show (n : Int) % 256 = _
  simp
section
variable {w : World} {PB DB M : Nat} {c : Ch} {sv : Head} {t : Int} {d : Dk}
set_option maxRecDepth 100000 in
set_option maxHeartbeats 4000000 in
theorem pairs_n (h : PgT w PB DB M c sv t d) {TP root : Nat} (ht : TreeAt w TP PB root) (hr : root < 8) {tr : Tr} (hl : tr.lays c d.pg root) :
    Calls Try.prog 10 #[.pointer (some ⟨TP, 0, none⟩)] w (Ret w (.string (pairsB (walkR tr noB)))) := by
  have hwk := walk_n h ht hr noB hl
  have hsm := walkR_small hl noB
  obtain ⟨L, hL⟩ : ∃ L, walkR tr noB = L := ⟨_, rfl⟩
  rw [hL] at hwk hsm ⊢
  obtain ⟨hsm, hLl⟩ := hsm
  have HSM := Lib.hid hsm
  obtain ⟨RS, hRS⟩ : ∃ RS, pairsB L = RS := ⟨_, rfl⟩
  rw [hRS]
  have HRS := Lib.hid hRS
  have HWK := Lib.hid hwk
  have hnb : noB = (⟨#[]⟩ : ByteArray) := rfl
  rw [hnb] at HWK
  clear hRS hL hwk hl h ht hnb hsm
  go_enter Try.func10, Try.ntmps10
  go_wp2_with fail
  refine HWK.out.mono ?_
  rintro e w1 ⟨v, rfl, ho, hg1⟩
  obtain ⟨ao, ca, rfl⟩ := ho.form
  have HO := Lib.hid ho
  have HG1 := Lib.hid hg1
  clear ho hg1
  go_wp2_with fail
  go_loopw [5, 6] (fun s5 iv w' => ∃ i : Nat, i ≤ L.length ∧ iv = .int .i64 i ∧ s5 = .string (pairsB (L.take i)) ∧ Gr w1 w') (fun _ iv _ => L.length - (RowKit.intOf iv).toNat)
  case atStart => exact ⟨0, Nat.zero_le _, rfl, rfl, Gr.refl _⟩
  case round =>
    obtain ⟨i, hi, rfl, rfl, hg⟩ := hrel
    by_cases hlt : i < L.length
    · have hlti : (i : Int) < (L.length : Int) := by omega
      rcases HO.out.at' with ⟨_, e2⟩ | ⟨B, cap, e3, h2, h3, h4, h5, h6⟩
      · rw [e2] at hlt
        exact absurd hlt (by simp)
      obtain ⟨rfl, rfl⟩ : ao = some ⟨B, 0, none⟩ ∧ ca = cap := by
        injection e3 with e1 e2 e3
        exact ⟨e1, e3⟩
      obtain ⟨b0, b1⟩ := h5 i hlt
      replace b0 := hg.keeps b0
      replace b1 := hg.keeps b1
      have hst : pairsB (L.take (i + 1)) = pairB (pairsB (L.take i)) L[i] := by
        rw [List.take_succ_eq_append_getElem hlt]
        unfold pairsB
        rw [List.foldl_append]
        rfl
      have HST := Lib.hid hst
      have HG := Lib.hid hg
      have hSz : (pairsB (L.take i)).size ≤ 300000000 := by
        have h1 := pairsB_size (L.take i) noB fun y hy => HSM.out y (List.mem_of_mem_take hy)
        have h2 : noB.size = 0 := rfl
        have h3 : (L.take i).length ≤ 1200000 := by rw [List.length_take]; omega
        unfold pairsB
        omega
      have hxs := HSM.out L[i] (List.getElem_mem hlt)
      generalize pairsB (L.take i) = S at *
      generalize L[i] = x at *
      obtain ⟨kx, ix⟩ := x
      have hk60 : kx.size ≤ 60 := hxs.1
      have hi100 : ix.size ≤ 100 := hxs.2
      have HST2 : Hid (pairsB (L.take (i + 1)) = S ++ (((⟨#[kx.size.toUInt8]⟩ ++ kx) ++ ⟨#[ix.size.toUInt8]⟩) ++ ix)) := HST
      have hu1 := u8_wrap kx.size
      have hu2 := u8_wrap ix.size
      generalize kx.size.toUInt8 = a at *
      generalize ix.size.toUInt8 = b at *
      clear HST hxs
      clear h5 h6 e3 hst hg
      go_wp2_with fail
      have kb : ∀ W, Gr wr W → W.cell? ⟨B, i * 2, none⟩ = some (.string kx) ∧ W.cell? ⟨B, i * 2 + 1, none⟩ = some (.string ix) := fun W g => ⟨g.keeps b0, g.keeps b1⟩
      have KB := Lib.hid kb
      clear kb
      have gA := fun (W : World) (o : Obj) => (Gr.refl W).alloc o
      have s1 : ∀ (W : World) (o : Obj), (W.alloc o).heap.size = W.heap.size + 1 := fun W o => by simp
      have c1 := own_one wr a (W := (wr.alloc (.cells #[.int .u8 (a.toNat : Int)] 5)).drew) (Gr.refl _).drew
      have c2 := own_one wr b (W := (wr.alloc (.cells #[.int .u8 (b.toNat : Int)] 5)).drew) (Gr.refl _).drew
      have c3 := own_one wr a (W := ((wr.alloc (.cells #[.int .u8 (a.toNat : Int)] 5)).alloc (.cells #[.int .u8 (b.toNat : Int)] 5)).drew) (gA _ _).drew
      have c4 := own_one wr b (W := ((wr.alloc (.cells #[.int .u8 (b.toNat : Int)] 5)).alloc (.cells #[.int .u8 (a.toNat : Int)] 5)).drew) (gA _ _).drew
      have c5 := own_one (wr.alloc (.cells #[.int .u8 (a.toNat : Int)] 5)) b (W := ((wr.alloc (.cells #[.int .u8 (a.toNat : Int)] 5)).alloc (.cells #[.int .u8 (b.toNat : Int)] 5)).drew) (Gr.refl _).drew
      have c6 := own_one (wr.alloc (.cells #[.int .u8 (b.toNat : Int)] 5)) a (W := ((wr.alloc (.cells #[.int .u8 (b.toNat : Int)] 5)).alloc (.cells #[.int .u8 (a.toNat : Int)] 5)).drew) (Gr.refl _).drew
      rw [s1] at c5 c6
      have n1 : (⟨#[a]⟩ : ByteArray).size = 1 := rfl
      have n2 : (⟨#[b]⟩ : ByteArray).size = 1 := rfl
      have q1 : ∀ W, (Op.stringOp .add (⟨#[a]⟩ : ByteArray) kx).run Try.prog W = .ok (.string (⟨#[a]⟩ ++ kx)) W := fun W => run_string_add_sum W _ _ (by rw [n1]; omega)
      have z1 : ((⟨#[a]⟩ : ByteArray) ++ kx).size = 1 + kx.size := by rw [ByteArray.size_append, n1]
      generalize ((⟨#[a]⟩ : ByteArray) ++ kx) = t1 at *
      have q2 : ∀ W, (Op.stringOp .add t1 (⟨#[b]⟩ : ByteArray)).run Try.prog W = .ok (.string (t1 ++ ⟨#[b]⟩)) W := fun W => run_string_add_sum W _ _ (by rw [n2]; omega)
      have z2 : (t1 ++ (⟨#[b]⟩ : ByteArray)).size = 1 + kx.size + 1 := by rw [ByteArray.size_append, n2, z1]
      generalize (t1 ++ (⟨#[b]⟩ : ByteArray)) = t2 at *
      have q3 : ∀ W, (Op.stringOp .add t2 ix).run Try.prog W = .ok (.string (t2 ++ ix)) W := fun W => run_string_add_sum W _ _ (by omega)
      have z3 : (t2 ++ ix).size = 1 + kx.size + 1 + ix.size := by rw [ByteArray.size_append, z2]
      generalize (t2 ++ ix) = t3 at *
      have q4 : ∀ W, (Op.stringOp .add S t3).run Try.prog W = .ok (.string (S ++ t3)) W := fun W => run_string_add_sum W _ _ (by omega)
      generalize S ++ t3 = S2 at *
      clear z1 z2 z3 n1 n2 gA s1 hSz hk60 hi100
      go_region_held (fun w' => w'.cell? ⟨B, i * 2, none⟩ = some (.string kx) ∧ w'.cell? ⟨B, i * 2 + 1, none⟩ = some (.string ix)) (exact KB.out _ (by repeat (with_reducible first | exact Gr.refl _ | refine Gr.drew ?_ | refine Gr.alloc ?_ _))) (fail)
      all_goals
        clear q1 q2 q3 q4 c1 c2 c3 c4 c5 c6 hu1 hu2 b0 b1
        go_wp2_with fail
        exact ⟨⟨i + 1, by omega, by go_num, by rw [HST2.out], HG.out.trans (by repeat (with_reducible first | exact Gr.refl _ | refine Gr.drew ?_ | refine Gr.alloc ?_ _))⟩, by simp [RowKit.intOf]; omega⟩
    · have hlti : ¬ (i : Int) < (L.length : Int) := by omega
      have hie : L.take i = L := List.take_of_length_le (by omega)
      have HX : Hid (Ret w (.string RS) (.returned (.string (pairsB (L.take i)))) wr) := Lib.hid (by
        rw [hie, HRS.out]
        exact Ret.mk rfl (HG1.out.trans hg))
      clear hie hg
      generalize pairsB (L.take i) = S at *
      go_wp2_with fail
      go_ret
      exact HX.out
end
end Go.Proofs.Ytmjkalpjciddbaa
