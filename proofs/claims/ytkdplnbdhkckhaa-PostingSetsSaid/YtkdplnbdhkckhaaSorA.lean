/-
  What is asked of the two functions that a sort is given; insertionSort_func, reverseRange_func.
-/
import Derived.Test.YtkdplnbdhkckhaaGrXX
import Derived.Sort.WalkB3
import Derived.Sort.LotA
import Derived.Sort.LotB
import Derived.Deep.LoopGhost
import Derived.Shelf.GgSortFunc.Insertion
namespace Go.Proofs.Ytkdplnbdhkckhaa
open Go Go.RowKit Go.Sort

/-- What is asked of 'less' (function g, bound to lb) and of 'swap' (function sf, bound to sb): R w d says that the row in block B holds d. 'less' may lay blocks; 'swap' turns the row alone. -/
structure SortBy (P : Program) {α : Type} [Inhabited α] (lt : α → α → Bool) (R : World → Array α → Prop) (B size g : Nat) (lb : Array Value) (sf : Nat) (sb : Array Value) : Prop where
  enter : ∀ args w, (callFunc g args).run P w = .ok (.enter g args) w
  gr : ∀ {w w' : World} {d : Array α}, R w d → Gr w w' → R w' d
  blt : ∀ {w : World} {d : Array α}, R w d → B < w.heap.size
  sz : ∀ {w : World} {d : Array α}, R w d → d.size = size
  less : ∀ {w : World} {d : Array α}, R w d → ∀ i j : Nat, i < size → j < size → Calls P g (#[.int .i64 i, .int .i64 j] ++ lb) w fun e w' => e = .returned (.bool (lt d[i]! d[j]!)) ∧ Gr w w'
  swap : ∀ {w : World} {d : Array α}, R w d → ∀ i j : Nat, i < size → j < size → ∃ w', (callFunc sf (#[.int .i64 i, .int .i64 j] ++ sb)).run P w = .ok (.value (.tuple #[])) w' ∧ R w' (swp d i j) ∧ GrX (fun b => b = B) w w'
  lim : size < 4611686018427387904
  far : ∃ N : Nat, (∀ {w : World} {d : Array α}, R w d → N ≤ w.heap.size) ∧ ∀ {w w' : World} {d : Array α}, R w d → GrX (fun b => N ≤ b) w w' → R w' d
/-- The row holds d, and nothing else has changed since w0. -/
def SoAt {α : Type} (R : World → Array α → Prop) (B : Nat) (w0 : World) (d : Array α) (w : World) : Prop := R w d ∧ GrX (fun b => b = B) w0 w
section
variable {P : Program} {α : Type} [Inhabited α] {lt : α → α → Bool} {R : World → Array α → Prop} {B size g : Nat} {lb : Array Value} {sf : Nat} {sb : Array Value} {w0 w w' : World} {d d' : Array α}
omit [Inhabited α] in
theorem SoAt.start (h : R w d) : SoAt R B w d w := ⟨h, GrX.refl _ _⟩
theorem SoAt.gr (S : SortBy P lt R B size g lb sf sb) (h : SoAt R B w0 d w) (hg : Gr w w') : SoAt R B w0 d w' := ⟨S.gr h.1 hg, h.2.trans (GrX.of_gr hg)⟩
omit [Inhabited α] in
theorem SoAt.step (h : SoAt R B w0 d w) (h2 : SoAt R B w d' w') : SoAt R B w0 d' w' := ⟨h2.1, h.2.trans h2.2⟩
omit [Inhabited α] in
theorem SoAt.keeps (h : SoAt R B w0 d w) {b o : Nat} {v : Value} (hb : b ≠ B) (hc : w0.cell? ⟨b, o, none⟩ = some v) : w.cell? ⟨b, o, none⟩ = some v := h.2.keeps hb hc
theorem SoAt.less (S : SortBy P lt R B size g lb sf sb) (h : SoAt R B w0 d w) (i j : Nat) (hi : i < size) (hj : j < size) : Calls P g (#[.int .i64 i, .int .i64 j] ++ lb) w fun e w' => e = .returned (.bool (lt d[i]! d[j]!)) ∧ SoAt R B w0 d w' :=
  (S.less h.1 i j hi hj).mono fun _ _ ⟨he, hg⟩ => ⟨he, h.gr S hg⟩
theorem SoAt.swap (S : SortBy P lt R B size g lb sf sb) (h : SoAt R B w0 d w) (i j : Nat) (hi : i < size) (hj : j < size) : ∃ w', (callFunc sf (#[.int .i64 i, .int .i64 j] ++ sb)).run P w = .ok (.value (.tuple #[])) w' ∧ SoAt R B w0 (swp d i j) w' := by
  obtain ⟨w', h1, h2, h3⟩ := S.swap h.1 i j hi hj
  exact ⟨w', h1, h2, h.2.trans h3⟩
theorem SoAt.lessI (S : SortBy P lt R B size g lb sf sb) (h : SoAt R B w0 d w) {x y : Int} (i j : Nat) (hi : i < size) (hj : j < size) (hx : x = i) (hy : y = j) : Calls P g (#[.int .i64 x, .int .i64 y] ++ lb) w fun e w' => e = .returned (.bool (lt d[i]! d[j]!)) ∧ SoAt R B w0 d w' := by
  subst hx hy
  exact h.less S i j hi hj
theorem SoAt.swapI (S : SortBy P lt R B size g lb sf sb) (h : SoAt R B w0 d w) (x y : Int) (i j : Nat) (hi : i < size) (hj : j < size) (hx : x = i) (hy : y = j) : ∃ w', (callFunc sf (#[.int .i64 x, .int .i64 y] ++ sb)).run P w = .ok (.value (.tuple #[])) w' ∧ SoAt R B w0 (swp d i j) w' := by
  subst hx hy
  exact h.swap S i j hi hj
end
/-- What the sort's functions are given first. -/
def dataV (g : Nat) (lb : Array Value) (sf : Nat) (sb : Array Value) : Value := .agg #[.func (.func g) #[] lb, .func (.func sf) #[] sb]
end Go.Proofs.Ytkdplnbdhkckhaa
