/- Flip: true once in n times. -/
import Derived.Test.YtfdpfkdfglombaaGreatDoorStream
namespace Go.Proofs.YtfdpfkdfglombaaGreatDoor
open Go.RowKit

/-- what a call that draws a bool from the stream leaves -/
def GenB (S : SC) (K : Nat) (w : World) (e : Ending) (w' : World) : Prop :=
  ∃ r : Bool, e = .returned (.bool r) ∧ w.grownBy w' (some S.g) ∧ Strm w' S K

theorem flip_any (S : SC) (K : Nat) (n : Int) (w : World) (hs : Strm w S K) (hK : K ≤ 1099511627776) (hn' : n ≤ 9223372036854775807) :
    Calls Tryz.prog 26 #[S.p, .int .i64 n] w (GenB S (K + 1) w) := by
  go_enter Tryz.func26, Tryz.ntmps26
  go_wp2_with fail
  with_reducible refine (next_any S K _ _ hs hK (by omega)).mono ?_
  rintro e w' ⟨r, ⟨h0, h1, h2⟩, rfl, hgr, hs'⟩
  clear h1
  go_wp2
  go_ret
  exact ⟨_, rfl, hgr, hs'⟩
end Go.Proofs.YtfdpfkdfglombaaGreatDoor
