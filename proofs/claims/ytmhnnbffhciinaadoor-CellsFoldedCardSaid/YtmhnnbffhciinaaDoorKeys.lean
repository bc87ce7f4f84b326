/- The maker of keys: Stream.Keys. -/
import Derived.Test.YtmhnnbffhciinaaDoorRecs
import Derived.Test.YtmhnnbffhciinaaDoorKey
import Derived.Test.YtmhnnbffhciinaaDoorSentList
set_option linter.unusedVariables false
namespace Go.Proofs.YtmhnnbffhciinaaDoor
open Go.RowKit

theorem infoStr : (Tryd.prog.info? 9).map (fun i => (i.zero, i.size, i.bytes)) = some (some (.string ⟨#[]⟩), 1, 16) := by kernel_rfl
/-- a string's cell -/
def sCell (s : ByteArray) : List Value := [.string s]

end Go.Proofs.YtmhnnbffhciinaaDoor
