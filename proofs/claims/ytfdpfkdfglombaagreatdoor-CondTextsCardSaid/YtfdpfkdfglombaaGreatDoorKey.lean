/- Stream.key and Stream.One: one of some strings, seldom a wrong one. -/
import Derived.Test.YtfdpfkdfglombaaGreatDoorOne
import Derived.Test.YtfdpfkdfglombaaGreatDoorFlip
set_option linter.unusedVariables false
namespace Go.Proofs.YtfdpfkdfglombaaGreatDoor
open Go.RowKit

end Go.Proofs.YtfdpfkdfglombaaGreatDoor
