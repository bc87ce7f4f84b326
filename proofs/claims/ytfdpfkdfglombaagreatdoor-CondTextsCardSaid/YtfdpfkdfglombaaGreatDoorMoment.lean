/- Moments: measure.isMoment, handref1.Moment. -/
import Derived.Test.YtfdpfkdfglombaaGreatDoorMeasure
set_option linter.unusedVariables false
namespace Go.Proofs.YtfdpfkdfglombaaGreatDoor
open Go.RowKit

def momB (n : Int) : Bool := decide (0 ≤ n ∧ n ≤ 4321439)
end Go.Proofs.YtfdpfkdfglombaaGreatDoor
