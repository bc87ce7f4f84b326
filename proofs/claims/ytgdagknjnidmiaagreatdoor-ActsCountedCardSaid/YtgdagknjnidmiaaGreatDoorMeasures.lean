/- The contract of the statements' own look at package measure. -/
import Derived.Test.YtgdagknjnidmiaaGreatDoorReduce
import Derived.Test.YtgdagknjnidmiaaGreatDoorFrEq
namespace Go.Proofs.YtgdagknjnidmiaaGreatDoor
open Go.RowKit

set_option maxHeartbeats 400000 in
theorem measures_any (w : World) : Calls Tryz.prog 18 #[] w fun e w' => e = .returned (.bool true) ∧ Below w.heap.size w w' := by
  have H := Lib.hid (show redV 2 4 = (1, 2, 0) by decide)
  have hq := fun (w : World) => fr_eql 1 2 1 2 w
  have hg := fr_guard .eql
  go_enter Tryz.func18, Tryz.ntmps18
  go_wp2_with fail
  with_reducible refine (Reduce_any _ _ _).mono ?_
  rintro e w' ⟨rfl, hb⟩
  rw [H.out]
  go_wp2
  go_ret
  exact ⟨rfl, hb.alloc hb.size _⟩
end Go.Proofs.YtgdagknjnidmiaaGreatDoor
