/- Slices of ints that are read: what is told of them, and what keeps it. -/
import Derived.Test.YtfdpfkdfglombaaGreatDoorMem
set_option linter.unusedVariables false
namespace Go.Proofs.YtfdpfkdfglombaaGreatDoor
open Go.RowKit

/-- the slice at a reads as the numbers zs -/
def IntsAt (w : World) (a : Option Addr) (zs : List Int) : Prop :=
  ∀ j (hj : j < zs.length), ∃ h off, a = some ⟨h, off, none⟩ ∧ h < w.heap.size ∧ w.cell? ⟨h, off + j, none⟩ = some (.int .i64 zs[j])

theorem IntsAt.nil (w : World) (a : Option Addr) : IntsAt w a [] := fun j hj => by simp at hj
theorem IntsAt.below {w w' : World} {a : Option Addr} {zs : List Int} (h : IntsAt w a zs) (hb : Below w.heap.size w w') : IntsAt w' a zs := by
  intro j hj
  obtain ⟨p, off, h1, h2, h3⟩ := h j hj
  exact ⟨p, off, h1, Nat.lt_of_lt_of_le h2 hb.size, (hb.cell (p := ⟨p, off + j, none⟩) h2).trans h3⟩
theorem IntsAt.grown {w w' : World} {a : Option Addr} {zs : List Int} {g : Nat} (h : IntsAt w a zs) (hb : w.grownBy w' (some g)) (hg : ∀ p off, a = some ⟨p, off, none⟩ → p ≠ g) : IntsAt w' a zs := by
  intro j hj
  obtain ⟨p, off, h1, h2, h3⟩ := h j hj
  exact ⟨p, off, h1, Nat.lt_of_lt_of_le h2 hb.size, hb.cell h3 (by have := hg p off h1; simpa using this)⟩
theorem IntsAt.alloc {w : World} {a : Option Addr} {zs : List Int} (h : IntsAt w a zs) (o : Obj) : IntsAt (w.alloc o) a zs := h.below ((Below.refl _ _).alloc (Nat.le_refl _) o)
theorem IntsAt.drewN {w : World} {a : Option Addr} {zs : List Int} (h : IntsAt w a zs) (n : Nat) : IntsAt (w.drewN n) a zs := h
theorem IntsAt.block {w : World} {p : Nat} {zs : List Int} {t : TypeId} (h : w.heap[p]? = some (.cells (zs.map (Value.int .i64)).toArray t (0, 0))) : IntsAt w (some ⟨p, 0, none⟩) zs := by
  intro j hj
  refine ⟨p, 0, rfl, ?_, by simp [World.cell?, h, hj]⟩
  rcases Nat.lt_or_ge p w.heap.size with h' | h'
  · exact h'
  · rw [Array.getElem?_eq_none h'] at h; cases h
/-- what one round of a loop over the slice is told -/
theorem IntsAt.at_ {w : World} {a : Option Addr} {zs : List Int} (h : IntsAt w a zs) {k : Nat} (hk : k < zs.length) :
    ∃ p off, a = some ⟨p, off, none⟩ ∧ p < w.heap.size ∧ w.cell? ⟨p, off + k, none⟩ = some (.int .i64 zs[k]) := h k hk
theorem IntsAt.of_own {w : World} {base : Nat} {t : TypeId} {a : Option Addr} {n c : Nat} {zs : List Int} (h : w.ownsRow base t 1 (.slice a n c) n (zs.map (Value.int .i64))) : IntsAt w a zs := by
  intro j hj
  have hl : zs.length = n := by simpa using h.1
  obtain ⟨g, cap, hv, _, hlt⟩ := h.form (by omega)
  have hA : a = some ⟨g, 0, none⟩ := by injection hv
  subst hA
  obtain rfl : c = cap := by injection hv
  exact ⟨g, 0, rfl, hlt, by rw [Nat.zero_add]; exact (h.cellAt j (by omega)).trans (by simp [hj])⟩
theorem IntsAt.take {w : World} {a : Option Addr} {zs : List Int} (h : IntsAt w a zs) (n : Nat) : IntsAt w a (zs.take n) := by
  intro j hj
  have hj' : j < zs.length := by simp at hj; omega
  obtain ⟨p, off, h1, h2, h3⟩ := h j hj'
  exact ⟨p, off, h1, h2, by rw [h3]; simp⟩

theorem take_snoc_int (l : List Int) (k : Nat) (h : k < l.length) : l.take (k + 1) = l.take k ++ [l[k]] := by
  rw [List.take_succ_eq_append_getElem h]
theorem sum_snoc (l : List Int) (k : Nat) (h : k < l.length) : (l.take (k + 1)).sum = (l.take k).sum + l[k] := by
  rw [take_snoc_int l k h, List.sum_append]; simp

theorem sum_bd (l : List Int) (M : Int) (h : ∀ z ∈ l, 0 ≤ z ∧ z ≤ M) : 0 ≤ l.sum ∧ l.sum ≤ M * l.length := by
  induction l with
  | nil => simp
  | cons x l ih =>
    obtain ⟨h1, h2⟩ := h x (by simp)
    obtain ⟨h3, h4⟩ := ih (fun z hz => h z (by simp [hz]))
    simp only [List.sum_cons, List.length_cons]
    have : M * ((l.length + 1 : Nat) : Int) = M * l.length + M := by rw [Int.natCast_add, Int.mul_add]; simp
    omega
end Go.Proofs.YtfdpfkdfglombaaGreatDoor
