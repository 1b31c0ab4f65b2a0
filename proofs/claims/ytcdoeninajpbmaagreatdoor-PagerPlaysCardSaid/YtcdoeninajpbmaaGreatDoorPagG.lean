/-
  The keys of a map from numbers to texts, sorted; a map's copy.
-/
import Derived.Test.YtcdoeninajpbmaaGreatDoorPGen
import Derived.Test.YtcdoeninajpbmaaGreatDoorPagK
import Derived.Test.YtcdoeninajpbmaaGreatDoorMapD
namespace Go.Proofs.YtcdoeninajpbmaaGreatDoor
open Go Go.RowKit Go.Maps Go.Sort Go.Shelf

theorem MapAt.keys {w : World} {M n : Nat} {F : Int → Option ByteArray} (h : MapAt w M n F) (hF : fineF F) :
    ∃ D : DataW Unit, w.ownsMap Tryz.prog 3 (plainElem Tryz.prog 9) M n D ∧ ((ksF F).map fun (k : Nat) => (k : Int)).Perm (intKeys D) := by
  obtain ⟨D, h1, h2⟩ := h
  refine ⟨D, h1, ?_⟩
  obtain ⟨es, hD, hpw, _⟩ := h1.entries keyI
  obtain ⟨es', hD', hko⟩ := h1.keysOf
  obtain rfl : es = es' := by rw [hD] at hD'; simpa using hD'
  subst hD
  have hint : ∀ p ∈ es, ∃ x : Int, p.1 = .int .i64 x ∧ (Lit.int .i64 x).wf = true := fun p hp => by
    obtain ⟨v, hv⟩ := hko p hp
    obtain ⟨x, _, hx, hw⟩ := Maps.keyOf_i64 Tryz.underlying3 hv
    exact ⟨x, hx, hw⟩
  have hnd : ((ksF F).map fun (k : Nat) => (k : Int)).Nodup := by
    show List.Pairwise _ _
    rw [List.pairwise_map]
    refine List.Pairwise.imp (fun {a b} (hab : a ≠ b) => ?_) (List.Pairwise.filter _ List.nodup_range)
    show (a : Int) ≠ (b : Int)
    omega
  refine perm_intKeys hpw (fun p hp => by obtain ⟨x, hx, _⟩ := hint p hp; exact ⟨x, hx⟩) hnd fun x => ?_
  constructor
  · intro hx
    obtain ⟨k, hk, rfl⟩ := List.mem_map.1 hx
    obtain ⟨hk1, hk2⟩ := ksF_mem.1 hk
    rw [(h2 (k : Int) (wfI (by omega))).1]
    exact hk2
  · intro hx
    have hx2 := hx
    rw [has_eq, List.any_eq_true] at hx2
    obtain ⟨p, hp, hs⟩ := hx2
    obtain ⟨a, ha, hw⟩ := hint p hp
    rw [ha] at hs
    have hax : x = a := by simpa [Lit.sameKey, eq_comm] using hs
    subst hax
    rw [(h2 x hw).1] at hx
    obtain ⟨s, hs⟩ := Option.isSome_iff_exists.1 hx
    obtain ⟨f1, f2, _⟩ := hF _ _ hs
    refine List.mem_map.2 ⟨x.toNat, ksF_mem.2 ⟨by omega, ?_⟩, by omega⟩
    rw [show ((x.toNat : Nat) : Int) = x by omega, hs]
    rfl
theorem ksF_sorted (F : Int → Option ByteArray) : ((ksF F).map fun (k : Nat) => (k : Int)).mergeSort (fun x y => decide (x ≤ y)) = (ksF F).map fun (k : Nat) => (k : Int) := by
  apply List.mergeSort_of_pairwise
  rw [List.pairwise_map]
  refine List.Pairwise.imp (fun {a b} (hab : a < b) => ?_) (List.Pairwise.filter _ List.pairwise_lt_range)
  simp
  omega
theorem sorts_i (m : Nat) : AnyZI.SortsIn Tryz.prog Tryz.sortedI_ren Fence.wide m :=
  ⟨fun blk off cap ss W hH hblk hsz => callsIn_wide.2 (AnyM.slices_Sort_int Tryz.sortI blk off cap ss W hH hblk hsz),
   fun p cap W => callsIn_wide.2 (AnyM.slices_Sort_int_none Tryz.sortI p cap W)⟩
theorem slice_inj {a b : Option Addr} {n m c d : Nat} (h : Value.slice a n c = Value.slice b m d) : a = b := by injection h
/-- 'maps.Keys(m)'. -/
theorem keys_c (mb : Option Nat) (W : World) : Calls Tryz.prog 33 #[.map mb] W fun e w' => e = .returned (.func (.func 49) #[] #[.pointer (some ⟨W.heap.size, 0, none⟩)]) ∧ w' = W.alloc (.cells #[.map mb] 34) :=
  callsIn_wide.1 (AnyZI.keys_in Tryz.keysI Fence.wide 5 trivial rfl mb W)
/-- 'slices.Sorted(maps.Keys(m))'. -/
theorem sorted_c {M n Bm : Nat} {F : Int → Option ByteArray} {W : World} (hm : W.cell? ⟨Bm, 0, none⟩ = some (.map (some M))) (h : MapAt W M n F) (hF : fineF F) :
    Calls Tryz.prog 32 #[.func (.func 49) #[] #[.pointer (some ⟨Bm, 0, none⟩)]] W fun e w' => ∃ v, e = .returned v ∧ RowV natV w' v (ksF F) ∧ Gr W w' ∧ ∀ b off n c, v = .slice (some ⟨b, off, none⟩) n c → W.heap.size ≤ b := by
  obtain ⟨D, hown, hperm⟩ := h.keys hF
  have hsz : Maps.size D = (ksF F).length := by
    obtain ⟨es, rfl, _⟩ := hown.entries keyI
    have := hperm.length_eq
    simp only [intKeys, List.length_map] at this
    exact this.symm
  have hl := ksF_len F
  have hseq : SeqGives Fence.wide 2 Tryz.prog 49 #[.pointer (some ⟨Bm, 0, none⟩)] encZ (fun ss => ss.Perm (intKeys D)) (Maps.size D) W :=
    AnyZI.keys_gives (ρ := Tryz.keysI_ren) { Tryz.keysI with } Fence.wide _ trivial rfl (by omega) Bm M n D W (lt_of_cell hm) hm hown
  have cS := AnyZI.sorted_in Tryz.sortedI Fence.wide 5 trivial trivial trivial trivial rfl (by omega) (sorts_i _) (enters_of Tryz.func48 (by kernel_rfl) rfl) 49 #[.pointer (some ⟨Bm, 0, none⟩)] trivial (enters_of Tryz.func49 (by kernel_rfl) rfl) _ _ (by rw [hsz]; unfold maxLen; omega) (by rw [hsz]; omega) _ hseq
  refine (callsIn_wide.1 cS).mono ?_
  rintro e w' ⟨v, ss, rfl, hS, hrow, _, hb⟩
  have e1 : ss.mergeSort (fun x y => decide (x ≤ y)) = (ksF F).map fun (k : Nat) => (k : Int) := by
    rw [← ksF_sorted F]
    exact mergeSort_of_perm_i (hS.trans hperm.symm)
  have e2 : ss.length = (ksF F).length := by
    have h0 := (hS.trans hperm.symm).length_eq
    rw [List.length_map] at h0
    exact h0
  rw [e1, e2, List.map_map] at hrow
  have ho : OwnV natV 3 W w' v (ksF F) := hrow
  refine ⟨v, rfl, ho.row, hb, fun b off n c hv => ?_⟩
  rcases hrow.2 with ⟨h0, _⟩ | ⟨b', cap, cur, hv', hb', _⟩
  · rw [hv] at h0
    cases h0
  · rw [hv] at hv'
    rw [show b = b' from congrArg Addr.block (Option.some.inj (slice_inj hv'))]
    exact hb'
end Go.Proofs.YtcdoeninajpbmaaGreatDoor
