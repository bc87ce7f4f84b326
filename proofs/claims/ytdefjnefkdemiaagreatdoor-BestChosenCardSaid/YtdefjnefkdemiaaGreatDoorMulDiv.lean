/- A product of two numbers, divided by a third: bits.Mul64, then bits.Div64. -/
import Derived.Test.YtdefjnefkdemiaaGreatDoorDiv64
set_option linter.unusedVariables false
namespace Go.Proofs.YtdefjnefkdemiaaGreatDoor
open Go.RowKit

def Prod2 (x y m1 m2 : Nat) : Prop := m1 = x * y / 18446744073709551616 ∧ m2 = x * y % 18446744073709551616
theorem mul64 (x y : Nat) (w : World) (hx : x < 18446744073709551616) (hy : y < 18446744073709551616) :
    Calls Tryz.prog 99 #[.int .u64 x, .int .u64 y] w fun e w' => (∃ m1 m2 : Nat, Prod2 x y m1 m2 ∧ e = .returned (.tuple #[.int .u64 m1, .int .u64 m2])) ∧ w = w' := by
  refine (Tryz.bits_Mul64 x y hx hy w).mono ?_
  rintro e w' ⟨rfl, rfl⟩
  exact ⟨⟨_, _, ⟨rfl, rfl⟩, rfl⟩, rfl⟩
def Quo2 (x y s q r : Nat) : Prop := q = x * y / s ∧ r = x * y % s
theorem div_of_mul (x y s m1 m2 : Nat) (w : World) (h : Prod2 x y m1 m2) (hs : s < 18446744073709551616) (hl : x * y < 18446744073709551616 * s) :
    Calls Tryz.prog 100 #[.int .u64 m1, .int .u64 m2, .int .u64 s] w fun e w' => (∃ q r : Nat, Quo2 x y s q r ∧ e = .returned (.tuple #[.int .u64 q, .int .u64 r])) ∧ ∃ k, w' = w.drewN k := by
  obtain ⟨rfl, rfl⟩ := h
  refine (div64 _ _ s w (Nat.mod_lt _ (by omega)) hs (Nat.div_lt_of_lt_mul hl)).mono ?_
  rintro e w' ⟨rfl, hw⟩
  obtain ⟨e1, e2⟩ := mul_div x y s
  exact ⟨⟨_, _, ⟨e1, e2⟩, rfl⟩, hw⟩
theorem quo_facts (c z S q r : Nat) (h : Quo2 c z S q r) (hz : z ≤ S) (hS : 0 < S) : q ≤ c ∧ r < S := by
  obtain ⟨rfl, rfl⟩ := h
  have h : c * z ≤ c * S := Nat.mul_le_mul_left c hz
  refine ⟨?_, Nat.mod_lt _ hS⟩
  exact Nat.le_trans (Nat.div_le_div_right h) (by rw [Nat.mul_div_cancel _ hS]; exact Nat.le_refl _)
theorem prod_lt (c z S : Nat) (hc : c < 18446744073709551616) (hz : z ≤ S) (hS : 0 < S) : c * z < 18446744073709551616 * S :=
  Nat.lt_of_le_of_lt (Nat.mul_le_mul_left c hz) (Nat.mul_lt_mul_of_pos_right hc hS)
end Go.Proofs.YtdefjnefkdemiaaGreatDoor
