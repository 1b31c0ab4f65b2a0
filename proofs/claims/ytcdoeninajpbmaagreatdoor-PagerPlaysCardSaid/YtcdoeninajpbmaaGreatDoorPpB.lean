/-
  The document's pages in memory; the least page that is not in use.
-/
import Derived.Test.YtcdoeninajpbmaaGreatDoorPpA
import Derived.Deep.RegionWith
namespace Go.Proofs.YtcdoeninajpbmaaGreatDoor
open Go Go.RowKit Go.Maps

/-- A struct Pages in block B; its map in block M. -/
structure RpAt (w : World) (B M n : Nat) (G : Int → Option ByteArray) (R : Nat → Int × Int) : Prop where
  rng : w.rangeAt B 0 (rp M R)
  free : ∀ o, w.frozen? ⟨B, o, none⟩ = false
  map : MapAt w M n G
  ne : B ≠ M
theorem zerosB_sz' : zerosB.size = 1024 := by
  show (List.toArray _).size = 1024
  rw [List.size_toArray, Lib.repeatL_length]
  rfl
theorem RpAt.cell {w : World} {B M n : Nat} {G : Int → Option ByteArray} {R : Nat → Int × Int} (h : RpAt w B M n G R) : w.cell? ⟨B, 0, none⟩ = some (.map (some M)) := by
  have := h.rng 0 _ rfl
  rwa [Nat.add_zero] at this
theorem RpAt.lt {w : World} {B M n : Nat} {G : Int → Option ByteArray} {R : Nat → Int × Int} (h : RpAt w B M n G R) : B < w.heap.size := lt_of_cell h.cell
theorem RpAt.keepX {S : Nat → Prop} {w w' : World} {B M n : Nat} {G : Int → Option ByteArray} {R : Nat → Int × Int} (h : RpAt w B M n G R) (g : GrX S w w') (h1 : ¬ S B) (h2 : ¬ S M) : RpAt w' B M n G R :=
  ⟨fun j v hv => g.keeps h1 (h.rng j v hv), fun o => (g.frozen o h.lt h1).trans (h.free o), h.map.keepX g h2, h.ne⟩
theorem RpAt.gr {w w' : World} {B M n : Nat} {G : Int → Option ByteArray} {R : Nat → Int × Int} (h : RpAt w B M n G R) (g : Gr w w') : RpAt w' B M n G R := h.keepX (S := fun _ => False) (GrX.of_gr g) id id
theorem RpAt.remap {w w' : World} {B M n n' : Nat} {G G' : Int → Option ByteArray} {R : Nat → Int × Int} (h : RpAt w B M n G R) (g : w.grownBy w' (some M)) (hm : MapAt w' M n' G') : RpAt w' B M n' G' R := by
  have gx : GrX (fun k => k = M) w w' := GrX.of_grown g rfl
  exact ⟨fun j v hv => gx.keeps h.ne (h.rng j v hv), fun o => (gx.frozen o h.lt h.ne).trans (h.free o), hm, h.ne⟩
theorem RpAt.there {w : World} {B M n : Nat} {G : Int → Option ByteArray} {R : Nat → Int × Int} (h : RpAt w B M n G R) : w.there B 0 17 := fun j hj =>
  ⟨World.rangeAt.isSome h.rng j (by rw [rp_len]; exact hj), h.free _⟩
set_option maxRecDepth 100000 in
set_option maxHeartbeats 1600000 in
theorem alloc_r (B M n : Nat) (G : Int → Option ByteArray) (R : Nat → Int × Int) (k : Nat) (w : World) (h : RpAt w B M n G R) (hn : n < 1000000) (hk : 1 ≤ k ∧ k < 2000) (h0 : G k = none) (h1 : ∀ j : Nat, 1 ≤ j → j < k → (G j).isSome = true) :
    Calls Tryz.prog 9 #[.pointer (some ⟨B, 0, none⟩)] w fun e w' => e = .returned (.int .i64 k) ∧ RpAt w' B M (n + 1) (setF G k (some zerosB)) R ∧ GrX (fun b => b = M) w w' := by
  have H := Lib.hid h
  have H0 := Lib.hid h0
  have H1 := Lib.hid h1
  have cb := h.cell
  clear h h0 h1
  go_enter Tryz.func9, Tryz.ntmps9
  go_wp2_with fail
  go_loopw [3] (fun kv w' => ∃ i : Nat, 1 ≤ i ∧ i ≤ k ∧ kv = .int .i64 i ∧ w' = w) (fun kv _ => k - (intOf kv).toNat)
  case atStart => exact ⟨1, Nat.le_refl _, by omega, rfl, rfl⟩
  case round =>
    obtain ⟨i, hi1, hi2, rfl, rfl⟩ := hrel
    have hl := H.out.map.look (k := (i : Int)) (by omega)
    by_cases hlt : i < k
    · obtain ⟨s, hs⟩ := Option.isSome_iff_exists.1 (H1.out i hi1 hlt)
      rw [hs] at hl
      simp only [Option.isSome_some, Option.getD_some] at hl
      clear hs
      go_wp2_with fail
      refine ⟨⟨i + 1, by omega, by omega, by go_num, trivial⟩, by simp [intOf]; omega⟩
    · obtain rfl : i = k := by omega
      rw [H0.out] at hl
      simp only [Option.isSome_none, Option.getD_none] at hl
      have c1 := (Gr.refl wr).drew.keeps cb
      have hst := fun w2 (hg : Gr wr.drew w2) => ((H.out.gr (Gr.refl wr).drew).gr hg).map.storeF hn (k := (i : Int)) (by omega) zerosB (by rw [zerosB_sz']; omega)
      go_wp2_with fail
      go_region_with (first
        | (go_at_call 30; refine (repeat_zero _).mono ?_; rintro e w2 ⟨rfl, hg2⟩; have k0 := hg2.keeps c1; obtain ⟨w5, hmu, hM5, hg5⟩ := hst w2 hg2; have HM5 := Lib.hid hM5; have HG2 := Lib.hid hg2; clear hM5))
      all_goals
        go_wp2_with fail
        go_ret
        exact ⟨rfl, ((H.out.gr (Gr.refl wr).drew).gr HG2.out).remap hg5 HM5.out, ((GrX.drew _).trans (GrX.of_gr HG2.out)).trans (GrX.of_grown hg5 rfl)⟩
end Go.Proofs.YtcdoeninajpbmaaGreatDoor
