/- The contract of measure.isRight. -/
import Derived.Test.YtdnikegakcdcnaaDoorReduce
namespace Go.Proofs.YtdnikegakcdcnaaDoor
open Go.RowKit

theorem quiet_left {P : Program} {f : FuncId} {args : Array Value} {w : World} {n : Nat} {v : Value}
    (h : Calls P f args (w.drewN n) fun e w' => e = .returned v ∧ w.drewN n = w') : Calls P f args (w.drewN n) fun e w'' => e = .returned v ∧ ∃ m, w'' = w.drewN m :=
  h.mono fun _ _ ⟨he, hm⟩ => ⟨he, n, hm.symm⟩

set_option maxHeartbeats 400000 in
theorem isRight_any (n d : Int) (w : World) (hn1 : -9223372036854775808 ≤ n) (hn2 : n ≤ 9223372036854775807) (hd1 : -9223372036854775808 ≤ d) (hd2 : d ≤ 9223372036854775807) :
    Calls Tryd.prog 169 #[.agg #[.int .i64 n, .int .i64 d]] w fun e w' => e = .returned (.bool (Frac.rightB n d)) ∧ Below w.heap.size w w' := by
  by_cases h1 : n < -4611686018427387904 ∨ 4611686018427387904 < n
  · have H := Lib.hid (show Frac.rightB n d = false by unfold Frac.rightB; rw [decide_eq_false]; omega)
    go_enter Tryd.func169, Tryd.ntmps169
    go_wp2_with fail
    go_quiet ((go_at_call 97; exact quiet_left (within_no _ _ _ _ h1)))
    go_wp2
    go_ret
    exact ⟨ret_bool H.out.symm, by go_grown; exact below_drewN (by go_grown) _⟩
  · by_cases h2 : d < 1 ∨ 4611686018427387904 < d
    · have H := Lib.hid (show Frac.rightB n d = false by unfold Frac.rightB; rw [decide_eq_false]; omega)
      go_enter Tryd.func169, Tryd.ntmps169
      go_wp2_with fail
      go_quiet ((go_at_call 97; first | exact quiet_left (within_no _ _ _ _ h2) | exact quiet_left (within_yes _ _ _ _ (by omega) (by omega))))
      go_wp2
      go_ret
      exact ⟨ret_bool H.out.symm, by go_grown; exact below_drewN (by go_grown) _⟩
    · have H := Lib.hid (show Frac.rightB n d = ((Nat.gcd n.natAbs d.natAbs : Nat) == (1 : Int)) by
        unfold Frac.rightB Frac.gg; rw [Bool.eq_iff_iff]; simp; omega)
      go_enter Tryd.func169, Tryd.ntmps169
      go_wp2_with fail
      go_quiet ((first | (go_at_call 97; exact quiet_left (within_yes _ _ _ _ (by omega) (by omega))) | (go_at_call 171; exact quiet_left (size_any _ _ (by omega) (by omega))) | (go_at_call 206; exact Calls.quiet_of (divisor_any _ _ _ (by omega) (by omega)))))
      go_wp2
      go_ret
      trace_state
      exact ⟨ret_bool H.out.symm, by go_grown; exact below_drewN (by go_grown) _⟩
end Go.Proofs.YtdnikegakcdcnaaDoor
