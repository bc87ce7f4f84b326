/- Contracts of measure.checkWeights and of the reference weightsFault. -/
import Derived.Test.YtgdagknjnidmiaaGreatDoorM2
import Derived.Test.YtgdagknjnidmiaaGreatDoorSums
import Derived.Test.YtgdagknjnidmiaaGreatDoorMeasure
set_option linter.unusedVariables false
namespace Go.Proofs.YtgdagknjnidmiaaGreatDoor
open Go.RowKit Deal

/-- what is wrong with weights -/
def wE (zs : List Int) : Int := if 12 < zs.length then 2 else if okL 1000000 zs = false then 1 else if zeroL zs = true then 8 else 0

theorem okL_bd {zs : List Int} (h : okL 1000000 zs = true) : ∀ z ∈ zs, 0 ≤ z ∧ z ≤ 1000000000000 := fun z hz => by
  have := okL_mem h hz
  omega
theorem sum_of_ok {M : Int} {zs : List Int} (h : okL M zs = true) : zs.sum = (((zs.map Int.toNat).sum : Nat) : Int) := by
  rw [← sum_cast, ws_cast h]

end Go.Proofs.YtgdagknjnidmiaaGreatDoor
