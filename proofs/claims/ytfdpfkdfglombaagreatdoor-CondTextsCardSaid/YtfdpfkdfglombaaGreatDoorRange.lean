/- Stream.Range. -/
import Derived.Test.YtfdpfkdfglombaaGreatDoorStream
set_option linter.unusedVariables false
namespace Go.Proofs.YtfdpfkdfglombaaGreatDoor
open Go.RowKit

theorem range_any (S : SC) (K : Nat) (lo hi : Int) (w : World) (hs : Strm w S K) (hK : K ≤ 1000000) (h1 : lo ≤ hi) (h2 : -1000000 ≤ lo) (h3 : hi ≤ 1000000) :
    Calls Tryz.prog 31 #[S.p, .int .i64 lo, .int .i64 hi] w (GenI S (K + 1) w fun r => lo ≤ r ∧ r ≤ hi) := by
  go_enter Tryz.func31, Tryz.ntmps31
  go_wp2_with fail
  with_reducible refine (next_any S _ _ _ hs (by omega) (by omega)).mono ?_
  rintro e w1 ⟨r, ⟨hm0, hm1, -⟩, rfl, k1, s1⟩
  have hm2 := hm1 (by omega)
  clear hm1
  go_wp2
  go_ret
  exact ⟨_, ⟨by omega, by omega⟩, rfl, k1, s1⟩
end Go.Proofs.YtfdpfkdfglombaaGreatDoor
