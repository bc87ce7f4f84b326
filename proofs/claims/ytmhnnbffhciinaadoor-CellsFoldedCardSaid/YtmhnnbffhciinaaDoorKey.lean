/- Stream.key and Stream.One: one of some strings, seldom a wrong one. -/
import Derived.Test.YtmhnnbffhciinaaDoorOne
import Derived.Test.YtmhnnbffhciinaaDoorFlip
set_option linter.unusedVariables false
namespace Go.Proofs.YtmhnnbffhciinaaDoor
open Go.RowKit

end Go.Proofs.YtmhnnbffhciinaaDoor
