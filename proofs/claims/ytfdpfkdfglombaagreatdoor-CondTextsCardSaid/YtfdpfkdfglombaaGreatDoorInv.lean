/- A region that draws its order, by an invariant: what holds of the slots that it writes and of the world, whichever operations have come up. -/
import Derived.Test.YtfdpfkdfglombaaGreatDoorStream
import Derived.RegionTactic
import Derived.Deep.DrawnRows
set_option linter.unusedVariables false
namespace Go.Proofs.YtfdpfkdfglombaaGreatDoor
open Go.RowKit

section
variable {P : Program} {md : Region.Mode} {ops : Array Oper} {Q : Exit → Act → World → Prop}
/-- the frame a0 with the slots ds as v says -/
def setAll (a0 : Act) (ds : List Nat) (v : Nat → Value) : Act := ds.foldl (fun a d => a.put (some d) (v d)) a0
def upd (v : Nat → Value) (d : Nat) (x : Value) : Nat → Value := fun e => if e = d then x else v e

theorem wpAny_run (I : Nat → Array Bool → Act → World → Prop) (h0 : ∀ listed a w, I 0 listed a w → wpAny P md ops Q 0 listed a w)
    (hs : ∀ fuel listed a w, I (fuel + 1) listed a w → wpAny P md ops Q (fuel + 1) listed a w ∨ (Region.ready md ops listed ≠ [] ∧ ∀ i ∈ Region.ready md ops listed, wpOp P ops Q i (fun a' w' => I fuel (listed.setIfInBounds i true) a' w') a w)) :
    ∀ fuel listed a w, I fuel listed a w → wpAny P md ops Q fuel listed a w
  | 0, listed, a, w, h => h0 listed a w h
  | fuel + 1, listed, a, w, h => by
    rcases hs fuel listed a w h with h1 | ⟨h1, h2⟩
    · exact h1
    · exact ⟨fun h3 => absurd h3 h1, fun i hi => wpOp_mono (fun a' w' h' => wpAny_run I h0 hs fuel _ a' w' h') (h2 i hi)⟩

/-- an operation that is not guarded -/
theorem wpOp_plain {i : Nat} {o : Oper} {K : Act → World → Prop} {a : Act} {w : World} (hi : ops[i]? = some o) (hg : o.guard = none) (h : Oper.wp P o a w K Q) : wpOp P ops Q i K a w := by
  unfold Go.wpOp
  simp only [hi]
  rw [if_pos (by simp [Region.wanted, hg])]
  exact .inl h

theorem upd_same {v : Nat → Value} {d : Nat} {x : Value} (h : v d = x) : upd v d x = v := by
  funext e
  unfold upd
  split
  · rename_i he; rw [he, h]
  · rfl

/-- by an invariant over the slots ds -/
theorem wpAny_inv {a0 : Act} {w0 : World} {fuel0 : Nat} {listed0 : Array Bool} (ds : List Nat) (v0 : Nat → Value) (J : Nat → Array Bool → (Nat → Value) → World → Prop) (ha : a0 = setAll a0 ds v0) (hst : J fuel0 listed0 v0 w0)
    (hs : ∀ fuel listed v w, J fuel listed v w → wpAny P md ops Q fuel listed (setAll a0 ds v) w ∨
      ∃ f, fuel = f + 1 ∧ Region.ready md ops listed ≠ [] ∧ ∀ i ∈ Region.ready md ops listed, wpOp P ops Q i (fun a' w' => ∃ v', a' = setAll a0 ds v' ∧ J f (listed.setIfInBounds i true) v' w') (setAll a0 ds v) w) :
    wpAny P md ops Q fuel0 listed0 a0 w0 := by
  refine wpAny_run (fun fuel listed a w => ∃ v, a = setAll a0 ds v ∧ J fuel listed v w) ?_ ?_ fuel0 listed0 a0 w0 ⟨v0, ha, hst⟩
  · rintro listed a w ⟨v, rfl, h⟩
    rcases hs 0 listed v w h with h1 | ⟨f, hf, _⟩
    · exact h1
    · omega
  · rintro fuel listed a w ⟨v, rfl, h⟩
    rcases hs (fuel + 1) listed v w h with h1 | ⟨f, hf, h2, h3⟩
    · exact .inl h1
    · obtain rfl : fuel = f := by omega
      exact .inr ⟨h2, h3⟩
end
/-- an operation that is not guarded, and that does not panic -/
theorem wpOp_calm {P : Program} {ops : Array Oper} {Q : Exit → Act → World → Prop} {i : Nat} {o : Oper} {K : Act → World → Prop} {a : Act} {w : World} (hi : ops[i]? = some o) (hg : o.guard = none)
    (h : ∀ (K' : Act → World → Prop) (Q' : Exit → Act → World → Prop), (∀ a' w', K a' w' → K' a' w') → Oper.wp P o a w K' Q') : wpOp P ops Q i K a w :=
  wpOp_plain hi hg (h K Q fun _ _ h => h)
end Go.Proofs.YtfdpfkdfglombaaGreatDoor
