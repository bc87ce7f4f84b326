/- A row of ints that lies whole in one block and may be written. -/
import Derived.Test.YtdnikegakcdcnaaInts
set_option linter.unusedVariables false
namespace Go.Proofs.Ytdnikegakcdcnaa
open Go.RowKit

/-- block g holds the numbers f 0, .., f (n - 1), and none of them is frozen -/
structure RowF (w : World) (g n : Nat) (f : Nat → Int) : Prop where
  lt : g < w.heap.size
  cell : ∀ j, j < n → w.cell? ⟨g, j, none⟩ = some (.int .i64 (f j))
  free : ∀ j, j < n → w.frozen? ⟨g, j, none⟩ = false

section
variable {w w' : World} {g n : Nat} {f f' : Nat → Int}
theorem RowF.congr (h : RowF w g n f) (hf : ∀ j, j < n → f j = f' j) : RowF w g n f' :=
  ⟨h.lt, fun j hj => by rw [← hf j hj]; exact h.cell j hj, h.free⟩
theorem RowF.below (h : RowF w g n f) (hb : Below w.heap.size w w') : RowF w' g n f :=
  ⟨Nat.lt_of_lt_of_le h.lt hb.size, fun j hj => (hb.cell (p := ⟨g, j, none⟩) h.lt).trans (h.cell j hj), fun j hj => (hb.frozen (p := ⟨g, j, none⟩) h.lt).trans (h.free j hj)⟩
theorem RowF.alloc (h : RowF w g n f) (o : Obj) : RowF (w.alloc o) g n f := h.below ((Below.refl _ _).alloc (Nat.le_refl _) o)
theorem RowF.drewN (h : RowF w g n f) (k : Nat) : RowF (w.drewN k) g n f := ⟨h.lt, h.cell, h.free⟩
theorem RowF.drew (h : RowF w g n f) : RowF w.drew g n f := ⟨h.lt, h.cell, h.free⟩
theorem RowF.grown {row : Option Nat} (h : RowF w g n f) (hg : w.grownBy w' row) (hne : some g ≠ row) : RowF w' g n f :=
  ⟨Nat.lt_of_lt_of_le h.lt hg.size, fun j hj => (World.cell?_of_block (hg.block g h.lt hne)).trans (h.cell j hj), fun j hj => (World.frozen?_of_block (hg.block g h.lt hne)).trans (h.free j hj)⟩
theorem RowF.far (h : RowF w g n f) {p : Addr} (hp : g ≠ p.block) (u : Value) : RowF (w.setCell p u) g n f :=
  ⟨by simpa [World.setCell] using h.lt, fun j hj => (World.cell?_of_block (a := ⟨g, j, none⟩) (Below.heap_setCell w p u g hp)).trans (h.cell j hj),
    fun j hj => (World.frozen?_of_block (a := ⟨g, j, none⟩) (Below.heap_setCell w p u g hp)).trans (h.free j hj)⟩
theorem frozen_setCell (w : World) (p q : Addr) (u : Value) : (w.setCell p u).frozen? q = w.frozen? q := by
  simp
theorem RowF.set (h : RowF w g n f) (k : Nat) (hk : k < n) (v : Int) : RowF (w.setCell ⟨g, k, none⟩ (.int .i64 v)) g n (fun j => if j = k then v else f j) := by
  refine ⟨by simpa [World.setCell] using h.lt, fun j hj => ?_, fun j hj => ?_⟩
  · by_cases e : j = k
    · subst e
      rw [if_pos rfl]
      exact World.cell?_setCell_same _ _ _ (h.cell j hj)
    · rw [if_neg e]
      exact (World.cell?_setCell_other w _ _ _ (by intro h'; injection h' with _ h2; exact e h2.symm)).trans (h.cell j hj)
  · rw [frozen_setCell]; exact h.free j hj
theorem RowF.of_own {base : Nat} {t : TypeId} {cap : Nat} {zs : List Int} (h : w.ownsRow base t 1 (.slice (some ⟨g, 0, none⟩) n cap) n (zs.map (Value.int .i64))) : RowF w g n (fun j => zs.getD j 0) := by
  have hl : zs.length = n := by simpa using h.1
  refine ⟨(h.lt g (by simp [Value.ownBlock])).2, fun j hj => ?_, fun j _ => h.frozenAt j⟩
  exact (h.cellAt j (by omega)).trans (by simp [hl, hj])
theorem RowF.ints (h : RowF w g n f) {zs : List Int} (hl : zs.length = n) (hz : ∀ j (hj : j < zs.length), zs[j] = f j) : IntsAt w (some ⟨g, 0, none⟩) zs := by
  intro j hj
  refine ⟨g, 0, rfl, h.lt, ?_⟩
  rw [hz j hj, Nat.zero_add]
  exact h.cell j (by omega)
end
end Go.Proofs.Ytdnikegakcdcnaa
