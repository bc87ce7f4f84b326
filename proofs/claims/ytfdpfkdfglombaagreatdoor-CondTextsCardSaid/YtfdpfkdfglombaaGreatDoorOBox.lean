/- A struct variable of one's own that is written: block q holds its cells. -/
import Derived.Test.YtfdpfkdfglombaaGreatDoorRecs
import Derived.Test.YtfdpfkdfglombaaGreatDoorLists
set_option linter.unusedVariables false
namespace Go.Proofs.YtfdpfkdfglombaaGreatDoor
open Go.RowKit

/-- block q holds the cells cs, all writable -/
def OB (w : World) (q : Nat) (cs : List Value) (t : TypeId) : Prop := w.heap[q]? = some (.cells cs.toArray t (0, 0))
section
variable {w w' : World} {q : Nat} {cs : List Value} {t : TypeId}
theorem OB.new (w : World) (cs : List Value) (t : TypeId) : OB (w.alloc (.cells cs.toArray t)) w.heap.size cs t := heap_alloc_new w _
theorem OB.lt (h : OB w q cs t) : q < w.heap.size := (Array.getElem?_eq_some_iff.1 h).1
theorem OB.cell (h : OB w q cs t) (i : Nat) (v : Value) (hv : cs[i]? = some v) : w.cell? ⟨q, i, none⟩ = some v := by
  unfold OB at h
  simp only [World.cell?, h, List.getElem?_toArray]
  rw [hv]
  rfl
theorem OB.free (h : OB w q cs t) (i : Nat) : w.frozen? ⟨q, i, none⟩ = false := by
  unfold OB at h
  simp [World.frozen?, h]
theorem OB.xb (h : OB w q cs t) : XB w q cs := ⟨h.lt, fun i v hv => h.cell i v hv⟩
theorem OB.below (h : OB w q cs t) (hb : Below w.heap.size w w') : OB w' q cs t := (hb.block q h.lt).trans h
theorem OB.grown {row : Option Nat} (h : OB w q cs t) (hb : w.grownBy w' row) (hr : row ≠ some q) : OB w' q cs t := (hb.block q h.lt (fun e => hr e.symm)).trans h
theorem OB.alloc (h : OB w q cs t) (o : Obj) : OB (w.alloc o) q cs t := h.below ((Below.refl _ _).alloc (Nat.le_refl _) o)
theorem OB.drewN (h : OB w q cs t) (n : Nat) : OB (w.drewN n) q cs t := h
theorem OB.set (h : OB w q cs t) (i : Nat) (v : Value) : OB (w.setCell ⟨q, i, none⟩ v) q (cs.set i v) t := by
  unfold OB at *
  have hq := (Array.getElem?_eq_some_iff.1 h).1
  simp only [World.setCell]
  rw [Array.getElem?_modify, if_pos rfl, h]
  simp
theorem OB.put {cs' : List Value} (h : OB w q cs t) (i : Nat) (v : Value) (e : cs' = cs.set i v) : OB (w.setCell ⟨q, i, none⟩ v) q cs' t := by
  rw [e]
  exact h.set i v
end
end Go.Proofs.YtfdpfkdfglombaaGreatDoor
