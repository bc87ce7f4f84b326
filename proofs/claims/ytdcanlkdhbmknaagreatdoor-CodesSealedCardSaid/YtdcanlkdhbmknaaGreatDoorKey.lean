/- Stream.key and Stream.One: one of some strings, seldom a wrong one. -/
import Derived.Test.YtdcanlkdhbmknaaGreatDoorOne
import Derived.Test.YtdcanlkdhbmknaaGreatDoorFlip
set_option linter.unusedVariables false
namespace Go.Proofs.YtdcanlkdhbmknaaGreatDoor
open Go.RowKit

end Go.Proofs.YtdcanlkdhbmknaaGreatDoor
