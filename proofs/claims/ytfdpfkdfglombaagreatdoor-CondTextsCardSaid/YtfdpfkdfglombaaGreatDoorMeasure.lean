/- Contracts of measure's arithmetic of fractions: divisor, size, within, reduce, isRight, cmp's Compare. -/
import Derived.Test.YtfdpfkdfglombaaGreatDoorStream
import Derived.Test.YtfdpfkdfglombaaGreatDoorFrac
import Derived.Handy
namespace Go.Proofs.YtfdpfkdfglombaaGreatDoor
open Go.RowKit

/-- a call that returns v and leaves the world but for draws -/
def Drw (v : Value) (w : World) (e : Ending) (w' : World) : Prop := e = .returned v ∧ ∃ n, w' = w.drewN n

theorem below_drewN {B : Nat} {a w : World} (h : Below B a w) (n : Nat) : Below B a (w.drewN n) := ⟨h.os, h.tape, h.output, h.size, h.block⟩

/-- the value of a fraction -/
def fr (n d : Int) : Value := .agg #[.int .i64 n, .int .i64 d]
theorem isNaN_int (n : Int) (w : World) : Calls Tryz.prog 120 #[.int .i64 n] w fun e w' => e = .returned (.bool false) ∧ w = w' := by
  go_enter Tryz.func120, Tryz.ntmps120
  go_wp2
  go_ret
  exact ⟨rfl, rfl⟩
theorem compare_int (x y : Int) (w : World) : Calls Tryz.prog 66 #[.int .i64 x, .int .i64 y] w fun e w' => e = .returned (.int .i64 (Frac.cmpI x y)) ∧ w = w' := by
  rcases Frac.cmpI_cases x y with ⟨h, k⟩ | ⟨h, k⟩ | ⟨h, k⟩
  · rw [k]; clear k
    go_enter Tryz.func66, Tryz.ntmps66
    go_wp2_with (go_at_call 120; refine (isNaN_int _ _).mono ?_; rintro e w' ⟨rfl, rfl⟩)
    go_ret
    exact ⟨rfl, rfl⟩
  · rw [k]; clear k; subst h
    go_enter Tryz.func66, Tryz.ntmps66
    go_wp2_with (go_at_call 120; refine (isNaN_int _ _).mono ?_; rintro e w' ⟨rfl, rfl⟩)
    go_ret
    exact ⟨rfl, rfl⟩
  · rw [k]; clear k
    have h2 : ¬ x < y := by omega
    go_enter Tryz.func66, Tryz.ntmps66
    go_wp2_with (go_at_call 120; refine (isNaN_int _ _).mono ?_; rintro e w' ⟨rfl, rfl⟩)
    go_ret
    exact ⟨rfl, rfl⟩
end Go.Proofs.YtfdpfkdfglombaaGreatDoor
