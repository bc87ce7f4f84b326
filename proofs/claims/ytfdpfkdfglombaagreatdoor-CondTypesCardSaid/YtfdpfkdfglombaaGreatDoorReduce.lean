/- Contracts of measure.Reduce, measure.isRight and of the references that answer to them. -/
import Derived.Test.YtfdpfkdfglombaaGreatDoorMeasure
import Derived.StillTailTactics
import Derived.Deep.RegionHeld3
import Derived.Deep.RegionWith
namespace Go.Proofs.YtfdpfkdfglombaaGreatDoor
open Go.RowKit

/-- what Reduce answers: a fraction, an error -/
def redV (n d : Int) : Int × Int × Int :=
  if n < -4611686018427387904 ∨ 4611686018427387904 < n ∨ d < -4611686018427387904 ∨ 4611686018427387904 < d then (0, 0, 1)
  else if d = 0 then (0, 0, 8) else (Frac.redN n d, Frac.redD n d, 0)
def Red (n d : Int) (w : World) (e : Ending) (w' : World) : Prop :=
  e = .returned (.tuple #[.agg #[.int .i64 (redV n d).1, .int .i64 (redV n d).2.1], .int .i64 (redV n d).2.2]) ∧ Below w.heap.size w w'

end Go.Proofs.YtfdpfkdfglombaaGreatDoor
