/- A row of pieces (two ints each) that is written at a block that is there. -/
import Derived.Test.YtdefjnefkdemiaaGreatDoorStPlain
import Derived.Test.YtdefjnefkdemiaaGreatDoorRecs
import Derived.Test.YtdefjnefkdemiaaGreatDoorMeasure
import Derived.Shelf.SlSortCmp.QuietGrown
import Derived.BigRegion
set_option linter.unusedVariables false
namespace Go.Proofs.YtdefjnefkdemiaaGreatDoor
open Go.RowKit Go.Sort

abbrev Pc : Type := Int × Int
/-- W is w0 with new blocks and writes to block g, which holds the pieces d -/
structure PrW (w0 : World) (g : Nat) (d : Array Pc) (W : World) : Prop where
  lt : g < w0.heap.size
  gr : w0.grownBy W (some g)
  c0 : ∀ i, i < d.size → W.cell? ⟨g, i * 2, none⟩ = some (.int .i64 d[i]!.1)
  c1 : ∀ i, i < d.size → W.cell? ⟨g, i * 2 + 1, none⟩ = some (.int .i64 d[i]!.2)
  f0 : ∀ i, i < d.size → W.frozen? ⟨g, i * 2, none⟩ = false
  f1 : ∀ i, i < d.size → W.frozen? ⟨g, i * 2 + 1, none⟩ = false
section
variable {w0 W W' : World} {g : Nat} {d : Array Pc}
theorem PrW.cx (h : PrW w0 g d W) {x : Pc} (i : Nat) (hi : i < d.size) (hx : d[i]! = x) : W.cell? ⟨g, i * 2, none⟩ = some (.int .i64 x.1) := by rw [← hx]; exact h.c0 i hi
theorem PrW.cy (h : PrW w0 g d W) {x : Pc} (i : Nat) (hi : i < d.size) (hx : d[i]! = x) : W.cell? ⟨g, i * 2 + 1, none⟩ = some (.int .i64 x.2) := by rw [← hx]; exact h.c1 i hi
theorem PrW.gl (h : PrW w0 g d W) : g < W.heap.size := Nat.lt_of_lt_of_le h.lt h.gr.size
theorem PrW.below (h : PrW w0 g d W) (hb : Below W.heap.size W W') : PrW w0 g d W' :=
  ⟨h.lt, grown_trans h.gr (grown_of_below hb _), fun i hi => (hb.cell (p := ⟨g, _, none⟩) h.gl).trans (h.c0 i hi), fun i hi => (hb.cell (p := ⟨g, _, none⟩) h.gl).trans (h.c1 i hi), fun i hi => (hb.frozen (p := ⟨g, _, none⟩) h.gl).trans (h.f0 i hi), fun i hi => (hb.frozen (p := ⟨g, _, none⟩) h.gl).trans (h.f1 i hi)⟩
theorem PrW.drew (h : PrW w0 g d W) : PrW w0 g d W.drew := ⟨h.lt, ⟨h.gr.os, h.gr.tape, h.gr.output, h.gr.size, h.gr.block⟩, h.c0, h.c1, h.f0, h.f1⟩
theorem PrW.grow (h : PrW w0 g d W) (n : Nat) (os : Array Obj) : PrW w0 g d (grow (W.drewN n) os) := by
  refine h.below ⟨rfl, rfl, rfl, by rw [size_grow]; exact Nat.le_add_right _ _, fun i hi => ?_⟩
  show (W.heap ++ os)[i]? = W.heap[i]?
  exact Array.getElem?_append_left hi
theorem grow_of_allocs (w : World) (a b : Obj) : ∃ q os, (w.alloc a).alloc b = grow (w.drewN q) os := ⟨0, #[a, b], by rw [World.drewN_zero, alloc_eq_grow, alloc_eq_grow, grow_grow]; rfl⟩
/-- two cells of a row written -/
theorem PrW.put (h : PrW w0 g d W) (j : Nat) (hj : j < d.size) (x : Pc) : PrW w0 g (d.setIfInBounds j x) ((W.setCell ⟨g, j * 2, none⟩ (.int .i64 x.1)).setCell ⟨g, j * 2 + 1, none⟩ (.int .i64 x.2)) := by
  have hs : (d.setIfInBounds j x).size = d.size := by simp
  have ha : ∀ i, i < d.size → (d.setIfInBounds j x)[i]! = if i = j then x else d[i]! := fun i hi => by
    rw [getElem!_pos (d.setIfInBounds j x) i (by simpa using hi), getElem!_pos d i hi, Array.getElem_setIfInBounds]
    by_cases e : j = i
    · subst e; simp
    · rw [if_neg e, if_neg (fun e2 => e e2.symm)]
  have hne : ∀ a b : Nat, a ≠ b → (⟨g, a, none⟩ : Addr) ≠ ⟨g, b, none⟩ := fun a b hab e => by injection e with _ e2; exact hab e2
  refine ⟨h.lt, ?_, fun i hi => ?_, fun i hi => ?_, fun i hi => ?_, fun i hi => ?_⟩
  · have hgr := h.gr
    refine ⟨hgr.os, hgr.tape, hgr.output, by simpa [World.setCell] using hgr.size, fun k hk hne' => ?_⟩
    have e1 : k ≠ g := fun e => hne' (by rw [e])
    rw [Below.heap_setCell _ ⟨g, j * 2 + 1, none⟩ _ k e1, Below.heap_setCell _ ⟨g, j * 2, none⟩ _ k e1]
    exact hgr.block k hk hne'
  · rw [hs] at hi
    rw [ha i hi, World.cell?_setCell_other _ ⟨g, j * 2 + 1, none⟩ _ _ (hne _ _ (by omega))]
    by_cases e : i = j
    · subst e
      rw [if_pos rfl]
      exact World.cell?_setCell_same _ _ _ (h.c0 i hi)
    · rw [if_neg e, World.cell?_setCell_other _ ⟨g, j * 2, none⟩ _ _ (hne _ _ (by omega))]
      exact h.c0 i hi
  · rw [hs] at hi
    rw [ha i hi]
    by_cases e : i = j
    · subst e
      rw [if_pos rfl]
      exact World.cell?_setCell_same _ _ _ ((World.cell?_setCell_other _ ⟨g, i * 2, none⟩ _ _ (hne _ _ (by omega))).trans (h.c1 i hi))
    · rw [if_neg e, World.cell?_setCell_other _ ⟨g, j * 2 + 1, none⟩ _ _ (hne _ _ (by omega)), World.cell?_setCell_other _ ⟨g, j * 2, none⟩ _ _ (hne _ _ (by omega))]
      exact h.c1 i hi
  · rw [hs] at hi
    rw [World.frozen?_setCell, World.frozen?_setCell]
    exact h.f0 i hi
  · rw [hs] at hi
    rw [World.frozen?_setCell, World.frozen?_setCell]
    exact h.f1 i hi
theorem PrW.swap (h : PrW w0 g d W) (i j : Nat) (hi : i < d.size) (hj : j < d.size) :
    PrW w0 g (swp d i j) ((((W.setCell ⟨g, i * 2, none⟩ (.int .i64 d[j]!.1)).setCell ⟨g, i * 2 + 1, none⟩ (.int .i64 d[j]!.2)).setCell ⟨g, j * 2, none⟩ (.int .i64 d[i]!.1)).setCell ⟨g, j * 2 + 1, none⟩ (.int .i64 d[i]!.2)) :=
  (h.put i hi d[j]!).put j (by simpa using hj) d[i]!
end
/-- fewer cents -/
def ltP (x y : Pc) : Bool := decide (y.2 < x.2)
end Go.Proofs.YtdefjnefkdemiaaGreatDoor
