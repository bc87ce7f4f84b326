/- Moments: measure.isMoment, handref1.Moment. -/
import Derived.Test.YtdnikegakcdcnaaDoorMeasure
set_option linter.unusedVariables false
namespace Go.Proofs.YtdnikegakcdcnaaDoor
open Go.RowKit

def momB (n : Int) : Bool := decide (0 ≤ n ∧ n ≤ 4321439)
theorem isMoment_any (n : Int) (w : World) : Calls Tryd.prog 93 #[.int .i64 n] w fun e w' => e = .returned (.bool (momB n)) ∧ w = w' := by
  by_cases h : 0 ≤ n ∧ n ≤ 4321439
  · have HB := Lib.hid (show momB n = true from decide_eq_true h)
    obtain ⟨h1, h2⟩ := h
    go_enter Tryd.func93, Tryd.ntmps93
    go_wp2_with fail
    with_reducible refine (within_yes _ _ _ _ h1 h2).mono ?_
    rintro e w1 ⟨rfl, rfl⟩
    go_wp2
    go_ret
    exact ⟨ret_bool HB.out.symm, rfl⟩
  · have HB := Lib.hid (show momB n = false from decide_eq_false h)
    have h' : n < 0 ∨ 4321439 < n := by omega
    clear h
    go_enter Tryd.func93, Tryd.ntmps93
    go_wp2_with fail
    with_reducible refine (within_no _ _ _ _ h').mono ?_
    rintro e w1 ⟨rfl, rfl⟩
    go_wp2
    go_ret
    exact ⟨ret_bool HB.out.symm, rfl⟩
theorem moment_any (n : Int) (w : World) : Calls Tryd.prog 54 #[.int .i64 n] w fun e w' => e = .returned (.bool (momB n)) ∧ w = w' := by
  by_cases h : 0 ≤ n ∧ n ≤ 4321439
  · have HB := Lib.hid (show momB n = true from decide_eq_true h)
    obtain ⟨h1, h2⟩ := h
    have h3 : n < 4321440 := by omega
    go_enter Tryd.func54, Tryd.ntmps54
    go_wp2
    go_ret
    exact ⟨ret_bool HB.out.symm, rfl⟩
  · have HB := Lib.hid (show momB n = false from decide_eq_false h)
    by_cases h1 : 0 ≤ n
    · have h3 : ¬ n < 4321440 := by omega
      clear h
      go_enter Tryd.func54, Tryd.ntmps54
      go_wp2
      go_ret
      exact ⟨ret_bool HB.out.symm, rfl⟩
    · clear h
      go_enter Tryd.func54, Tryd.ntmps54
      go_wp2
      go_ret
      exact ⟨ret_bool HB.out.symm, rfl⟩
end Go.Proofs.YtdnikegakcdcnaaDoor
