/- Contracts of the references ReduceOf and FractionOf. -/
import Derived.Test.YtdnikegakcdcnaaDoorRef
import Derived.Test.YtdnikegakcdcnaaDoorFrEq
set_option linter.unusedVariables false
namespace Go.Proofs.YtdnikegakcdcnaaDoor
open Go.RowKit

set_option maxHeartbeats 400000 in
theorem FractionOf_bad (n d : Int) (w : World) (h : ¬ (1 ≤ d ∧ d ≤ 4611686018427387904 ∧ -4611686018427387904 ≤ n ∧ n ≤ 4611686018427387904)) :
    Calls Tryd.prog 176 #[.agg #[.int .i64 n, .int .i64 d]] w fun e w' => e = .returned (.bool (Frac.rightB n d)) ∧ Below w.heap.size w w' := by
  have H := Lib.hid (show Frac.rightB n d = false by unfold Frac.rightB; rw [decide_eq_false]; omega)
  by_cases h1 : d < 1
  · have e1 : decide (1 ≤ d) = false := by simp; omega
    clear h
    go_enter Tryd.func176, Tryd.ntmps176
    go_wp2_with fail
    go_quiet (fail)
    go_wp2
    go_ret
    exact ⟨ret_bool H.out.symm, below_drewN (by go_grown) _⟩
  · by_cases h2 : 4611686018427387904 < d
    · have e1 : decide (d ≤ 4611686018427387904) = false := by simp; omega
      have e2 : 1 ≤ d := by omega
      clear h
      go_enter Tryd.func176, Tryd.ntmps176
      go_wp2_with fail
      go_quiet (fail)
      go_wp2
      go_ret
      exact ⟨ret_bool H.out.symm, below_drewN (by go_grown) _⟩
    · by_cases h3 : n < -4611686018427387904
      · have e1 : decide (-4611686018427387904 ≤ n) = false := by simp; omega
        have e2 : 1 ≤ d := by omega
        have e3 : d ≤ 4611686018427387904 := by omega
        clear h
        go_enter Tryd.func176, Tryd.ntmps176
        go_wp2_with fail
        go_quiet (fail)
        go_wp2
        go_ret
        exact ⟨ret_bool H.out.symm, below_drewN (by go_grown) _⟩
      · have h4 : 4611686018427387904 < n := by omega
        have e1 : decide (n ≤ 4611686018427387904) = false := by simp; omega
        have e2 : 1 ≤ d := by omega
        have e3 : d ≤ 4611686018427387904 := by omega
        have e4 : -4611686018427387904 ≤ n := by omega
        clear h
        go_enter Tryd.func176, Tryd.ntmps176
        go_wp2_with fail
        go_quiet (fail)
        go_wp2
        go_ret
        exact ⟨ret_bool H.out.symm, below_drewN (by go_grown) _⟩
set_option maxHeartbeats 800000 in
theorem FractionOf_good (n d : Int) (w : World) (h1 : 1 ≤ d) (h2 : d ≤ 4611686018427387904) (h3 : -4611686018427387904 ≤ n) (h4 : n ≤ 4611686018427387904) :
    Calls Tryd.prog 176 #[.agg #[.int .i64 n, .int .i64 d]] w fun e w' => e = .returned (.bool (Frac.rightB n d)) ∧ Below w.heap.size w w' := by
  have hne : d ≠ 0 := by omega
  have H := Lib.hid (show Frac.rightB n d = (Frac.redN n d == n && Frac.redD n d == d) by
    unfold Frac.rightB; rw [Bool.eq_iff_iff]; simp [Frac.red_same n d h1]; omega)
  have hq := fun (w : World) => fr_eql (Frac.redN n d) (Frac.redD n d) n d w
  have hg := fr_guard .eql
  go_enter Tryd.func176, Tryd.ntmps176
  go_wp2_with fail
  go_region_held3 (fun w' => w'.cell? ⟨w.heap.size, 0, none⟩ = some (.int .i64 n) ∧ w'.cell? ⟨w.heap.size, 1, none⟩ = some (.int .i64 d))
    (first | go_keep | (refine ⟨(hb.cell (p := ⟨w.heap.size, 0, none⟩) (by simp)).trans (by simp), (hb.cell (p := ⟨w.heap.size, 1, none⟩) (by simp)).trans (by simp)⟩))
    (first | (go_at_call 216; refine (reduced_any n d _ hne (by omega) h2 h3 h4).mono ?_; rintro e w' ⟨rfl, hb⟩))
  go_wp2
  go_ret
  exact ⟨ret_bool H.out.symm, (((Below.refl _ _).alloc (Nat.le_refl _) _).drew).trans (hb.mono (by simp))⟩
theorem FractionOf_any (n d : Int) (w : World) :
    Calls Tryd.prog 176 #[.agg #[.int .i64 n, .int .i64 d]] w fun e w' => e = .returned (.bool (Frac.rightB n d)) ∧ Below w.heap.size w w' := by
  by_cases h : 1 ≤ d ∧ d ≤ 4611686018427387904 ∧ -4611686018427387904 ≤ n ∧ n ≤ 4611686018427387904
  · exact FractionOf_good n d w h.1 h.2.1 h.2.2.1 h.2.2.2
  · exact FractionOf_bad n d w h
end Go.Proofs.YtdnikegakcdcnaaDoor
