/- Moments: measure.isMoment, handref1.Moment. -/
import Derived.Test.YtdiioecpponnmaaGreatDoorMeasure
set_option linter.unusedVariables false
namespace Go.Proofs.YtdiioecpponnmaaGreatDoor
open Go.RowKit

def momB (n : Int) : Bool := decide (0 ≤ n ∧ n ≤ 4321439)
end Go.Proofs.YtdiioecpponnmaaGreatDoor
