/- The maker of keys: Stream.Keys. -/
import Derived.Test.YtfdpfkdfglombaaGreatDoorRecs
import Derived.Test.YtfdpfkdfglombaaGreatDoorKey
import Derived.Test.YtfdpfkdfglombaaGreatDoorSentList
set_option linter.unusedVariables false
namespace Go.Proofs.YtfdpfkdfglombaaGreatDoor
open Go.RowKit

theorem infoStr : (Tryz.prog.info? 9).map (fun i => (i.zero, i.size, i.bytes)) = some (some (.string ⟨#[]⟩), 1, 16) := by kernel_rfl
/-- a string's cell -/
def sCell (s : ByteArray) : List Value := [.string s]

end Go.Proofs.YtfdpfkdfglombaaGreatDoor
