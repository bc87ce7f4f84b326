/- Contracts of the makers of fractions: Part, Fraction. -/
import Derived.Test.YtdnikegakcdcnaaDoorPick
import Derived.Test.YtdnikegakcdcnaaDoorFlip
import Derived.Test.YtdnikegakcdcnaaDoorMeasure
set_option linter.unusedVariables false
namespace Go.Proofs.YtdnikegakcdcnaaDoor
open Go.RowKit

def I64 (n : Int) : Prop := -9223372036854775808 ≤ n ∧ n ≤ 9223372036854775807

theorem part_any (S : SC) (K : Nat) (w : World) (hs : Strm w S K) (hK : K + 1 ≤ 1099511627776) :
    Calls Tryd.prog 168 #[S.p] w (GenI S (K + 2) w I64) := by
  go_enter Tryd.func168, Tryd.ntmps168
  go_wp2_with fail
  with_reducible refine (next_any S K _ _ hs (by omega) (by omega)).mono ?_
  rintro e w1 ⟨r, ⟨h0, h1, h2⟩, rfl, hgr, hs1⟩
  have h3 := h1 (by omega)
  clear h1 h2
  go_wp2_with fail
  have hs2 := strm_alloc hs1 (.cells #[.int .i64 0, .int .i64 1, .int .i64 (-1), .int .i64 2, .int .i64 3, .int .i64 6, .int .i64 (-4), .int .i64 100, .int .i64 4611686018427387904, .int .i64 (-4611686018427387904), .int .i64 4611686018427387905, .int .i64 (-4611686018427387905), .int .i64 2305843009213693953, .int .i64 999999937, .int .i64 1000000, .int .i64 9223372036854775807, .int .i64 (-9223372036854775808), .int .i64 (r - 500)] 3)
  with_reducible refine (pick_any S (K + 1) _ [0, 1, -1, 2, 3, 6, -4, 100, 4611686018427387904, -4611686018427387904, 4611686018427387905, -4611686018427387905, 2305843009213693953, 999999937, 1000000, 9223372036854775807, -9223372036854775808, r - 500] 18 _ _ hs2 (by omega) rfl (by omega) (by omega) ?hb ?hg).mono ?_
  case hb => exact heap_alloc_new _ _
  case hg => have := strm_lt hs1; omega
  rintro e w2 ⟨z, hz, rfl, hgr2, hs3⟩
  have hzz : I64 z := by
    simp only [List.mem_cons, List.mem_nil_iff, or_false] at hz
    unfold I64
    omega
  clear hz
  go_wp2
  go_ret
  exact ⟨z, hzz, rfl, grown_trans (grown_alloc hgr _) hgr2, hs3⟩
end Go.Proofs.YtdnikegakcdcnaaDoor
