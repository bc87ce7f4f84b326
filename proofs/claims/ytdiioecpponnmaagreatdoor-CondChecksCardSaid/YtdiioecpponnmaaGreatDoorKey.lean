/- Stream.key and Stream.One: one of some strings, seldom a wrong one. -/
import Derived.Test.YtdiioecpponnmaaGreatDoorOne
import Derived.Test.YtdiioecpponnmaaGreatDoorFlip
set_option linter.unusedVariables false
namespace Go.Proofs.YtdiioecpponnmaaGreatDoor
open Go.RowKit

end Go.Proofs.YtdiioecpponnmaaGreatDoor
