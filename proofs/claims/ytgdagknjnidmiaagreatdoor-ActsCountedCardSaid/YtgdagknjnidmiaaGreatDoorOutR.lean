/- A square table of one's own: rows of ints, each in a block of its own. -/
import Derived.Test.YtgdagknjnidmiaaGreatDoorRowG
import Derived.Test.YtgdagknjnidmiaaGreatDoorM1
set_option linter.unusedVariables false
namespace Go.Proofs.YtgdagknjnidmiaaGreatDoor
open Go.RowKit

theorem grownO_same (w : World) (r : Option Nat) : w.grownBy w r := ⟨rfl, rfl, rfl, Nat.le_refl _, fun _ _ _ => rfl⟩
/-- block go holds n slices; the first m are rows of n ints, row i in block rb i -/
structure OutR (w : World) (go n m : Nat) (rb : Nat → Nat) (f : Nat → Nat → Nat) : Prop where
  tab : RowG w go n (fun i => if i < m then .slice (some ⟨rb i, 0, none⟩) n n else .slice none 0 0)
  row : ∀ i, i < m → RowG w (rb i) n (fun j => .int .i64 (f i j : Int))
  lo : ∀ i, i < m → go < rb i
  inj : ∀ i j, i < m → j < m → rb i = rb j → i = j
section
variable {w w' : World} {go n m : Nat} {rb : Nat → Nat} {f : Nat → Nat → Nat}
theorem OutR.start (h : RowG w go n (fun _ => .slice none 0 0)) (rb : Nat → Nat) (f : Nat → Nat → Nat) : OutR w go n 0 rb f :=
  ⟨h.congr fun j _ => (if_neg (Nat.not_lt_zero _)).symm, fun i hi => absurd hi (Nat.not_lt_zero _), fun i hi => absurd hi (Nat.not_lt_zero _), fun i j hi => absurd hi (Nat.not_lt_zero _)⟩
theorem OutR.grown {row : Option Nat} (h : OutR w go n m rb f) (k : w.grownBy w' row) (hr : ∀ g, row = some g → g < go) : OutR w' go n m rb f :=
  ⟨h.tab.grown k (fun e => by have := hr go e.symm; omega), fun i hi => (h.row i hi).grown k (fun e => by have := hr _ e.symm; have := h.lo i hi; omega), h.lo, h.inj⟩
theorem OutR.below (h : OutR w go n m rb f) (k : w.grownBy w' none) : OutR w' go n m rb f := h.grown k (fun g e => by cases e)
/-- blocks that came in behind the table may be written too -/
theorem OutR.apart {row : Option Nat} (h : OutR w go n m rb f) (k : w.grownBy w' row) (h1 : row ≠ some go) (h2 : ∀ i, i < m → row ≠ some (rb i)) : OutR w' go n m rb f :=
  ⟨h.tab.grown k (fun e => h1 e.symm), fun i hi => (h.row i hi).grown k (fun e => h2 i hi e.symm), h.lo, h.inj⟩
theorem OutR.alloc (h : OutR w go n m rb f) (o : Obj) : OutR (w.alloc o) go n m rb f := h.below (World.grownBy_alloc _ _ _)
theorem OutR.drewN (h : OutR w go n m rb f) (k : Nat) : OutR (w.drewN k) go n m rb f := ⟨h.tab.drewN k, fun i hi => (h.row i hi).drewN k, h.lo, h.inj⟩
/-- one row more -/
theorem OutR.more (h : OutR w go n m rb f) (hm : m < n) {q : Nat} (hq : w.heap.size = q) (hr : RowG w' q n (fun _ => .int .i64 0)) (k : w.grownBy w' none) (hf : ∀ j, f m j = 0) :
    OutR (w'.setCell ⟨go, m, none⟩ (.slice (some ⟨q, 0, none⟩) n n)) go n (m + 1) (fun i => if i = m then q else rb i) f := by
  have hgo := h.tab.lt
  have hlt : ∀ i, i < m → rb i < q := fun i hi => by have := (h.row i hi).lt; omega
  refine ⟨((h.tab.grown k (by simp)).set m hm _).congr fun j hj => ?_, fun i hi => ?_, fun i hi => ?_, fun i j hi hj e => ?_⟩
  · by_cases e : j = m
    · subst e
      rw [if_pos rfl, if_pos (by omega), if_pos rfl]
    · rw [if_neg e]
      by_cases e2 : j < m
      · rw [if_pos e2, if_pos (by omega), if_neg e]
      · rw [if_neg e2, if_neg (by omega)]
  · by_cases e : i = m
    · subst e
      rw [if_pos rfl]
      exact (hr.far (p := ⟨go, i, none⟩) (by show q ≠ go; omega) _).congr fun j _ => by rw [hf j]; rfl
    · rw [if_neg e]
      have := hlt i (by omega)
      have h2 := h.lo i (by omega)
      exact ((h.row i (by omega)).grown k (by simp)).far (p := ⟨go, m, none⟩) (by show rb i ≠ go; omega) _
  · show go < (if i = m then q else rb i)
    split
    · omega
    · exact h.lo i (by omega)
  · have e' : (if i = m then q else rb i) = (if j = m then q else rb j) := e
    by_cases e1 : i = m <;> by_cases e2 : j = m
    · omega
    · rw [if_pos e1, if_neg e2] at e'
      have := hlt j (by omega); omega
    · rw [if_neg e1, if_pos e2] at e'
      have := hlt i (by omega); omega
    · rw [if_neg e1, if_neg e2] at e'
      exact h.inj i j (by omega) (by omega) e'
/-- one count more -/
theorem OutR.inc (h : OutR w go n m rb f) {i0 j0 : Nat} (hi : i0 < m) (hj : j0 < n) (f' : Nat → Nat → Nat) (hf : ∀ i j, i < m → j < n → f' i j = if i = i0 ∧ j = j0 then f i0 j0 + 1 else f i j) :
    OutR (w.setCell ⟨rb i0, j0, none⟩ (.int .i64 ((f i0 j0 : Int) + 1))) go n m rb f' := by
  have hlo := h.lo i0 hi
  refine ⟨h.tab.far (p := ⟨rb i0, j0, none⟩) (by show go ≠ rb i0; omega) _, fun i hi' => ?_, h.lo, h.inj⟩
  by_cases e : i = i0
  · subst e
    refine ((h.row i hi').set j0 hj _).congr fun j hj' => ?_
    rw [hf i j hi' hj']
    by_cases e2 : j = j0
    · subst e2
      rw [if_pos rfl, if_pos ⟨rfl, rfl⟩]; rfl
    · rw [if_neg e2, if_neg (fun h => e2 h.2)]
  · have hne : rb i ≠ rb i0 := fun e' => e (h.inj i i0 hi' hi e')
    exact ((h.row i hi').far (p := ⟨rb i0, j0, none⟩) hne _).congr fun j hj' => by rw [hf i j hi' hj', if_neg (fun h => e h.1)]
theorem OutR.congr {f' : Nat → Nat → Nat} (h : OutR w go n m rb f) (hf : ∀ i j, i < m → j < n → f i j = f' i j) : OutR w go n m rb f' :=
  ⟨h.tab, fun i hi => (h.row i hi).congr fun j hj => by rw [hf i j hi hj], h.lo, h.inj⟩
end
/-- what both hand back -/
def TabIs (w : World) (v : Value) (n : Nat) (f : Nat → Nat → Nat) : Prop := ∃ go rb, v = .slice (some ⟨go, 0, none⟩) n n ∧ OutR w go n n rb f
end Go.Proofs.YtgdagknjnidmiaaGreatDoor
