/- The weight of a letter: measure.weight and the reference weightOf. -/
import Derived.Test.YtdnikegakcdcnaaMeasure
set_option linter.unusedVariables false
namespace Go.Proofs.Ytdnikegakcdcnaa
open Go.RowKit

def wgt (how : Int) (p i n : Nat) : Int :=
  if how = 1 ∧ 0 < i ∨ how = 2 ∧ i + 1 < n then 0 else if how = 4 ∧ (i = 0 ∨ i + 1 = n) ∧ 2 < n then 2 else if how = 5 then (i : Int) + 1 else if how = 6 then ((2 ^ (18 - p) : Nat) : Int) else 1
theorem half_step (j : Nat) (hj : j < 18) : (2 ^ (18 - j) : Nat) / 2 = 2 ^ (18 - (j + 1)) := by
  rw [show 18 - j = 18 - (j + 1) + 1 by omega, Nat.pow_succ]
  omega
theorem half_bd (j : Nat) : (2 ^ (18 - j) : Nat) ≤ 262144 := Nat.pow_le_pow_right (by omega) (show 18 - j ≤ 18 by omega)

set_option maxRecDepth 100000 in
set_option maxHeartbeats 2000000 in
theorem weight_any (how : Int) (span age i n : Nat) (w : World) (h1 : 1 ≤ how) (h2 : how ≤ 6) (hs : 1 ≤ span) (hs2 : span ≤ 4321440) (ha : age ≤ span) (hi : i < n) (hn : n ≤ 1000) :
    Calls Try.prog 92 #[.int .i64 how, .int .i64 span, .int .i64 age, .int .i64 i, .int .i64 n] w fun e w' => e = .returned (.int .i64 (wgt how (18 * age / span) i n)) ∧ w = w' := by
  have hp : 18 * age / span ≤ 18 := Nat.div_le_of_le_mul (by omega)
  have e1 : (18 * (age : Int)).tdiv (span : Int) = ((18 * age / span : Nat) : Int) := by
    rw [Int.tdiv_eq_ediv_of_nonneg (by omega)]; simp
  have e1' : (18 * (age : Int)) / (span : Int) = ((18 * age / span : Nat) : Int) := by simp
  have hsn : ¬ span = 0 := by omega
  generalize 18 * age / span = p at *
  have hb := half_bd p
  have e2 : ((18 : Int) - (p : Int)).toNat = 18 - p := by omega
  have e3 : IntKind.i64.wrap ((2 : Int) ^ (18 - p)) = ((2 ^ (18 - p) : Nat) : Int) := by
    have : ((2 ^ (18 - p) : Nat) : Int) = (2 : Int) ^ (18 - p) := by simp
    rw [IntKind.wrap_i64, ← this]
    generalize (2 ^ (18 - p) : Nat) = t at *
    omega
  have HW : Hid (∀ x, wgt how p i n = x → wgt how p i n = x) := Lib.hid (fun x h => h)
  rcases (show how = 1 ∨ how = 2 ∨ how = 3 ∨ how = 4 ∨ how = 5 ∨ how = 6 by omega) with rfl | rfl | rfl | rfl | rfl | rfl
  all_goals
    go_enter Try.func92, Try.ntmps92
    go_wp2
    all_goals
      go_ret
      refine ⟨ret_int ?_, rfl⟩
      unfold wgt
      repeat' split
      all_goals first | rfl | omega

set_option maxRecDepth 100000 in
set_option maxHeartbeats 2000000 in
theorem weightOf_any (how : Int) (span age i n : Nat) (w : World) (h1 : 1 ≤ how) (h2 : how ≤ 6) (hs : 1 ≤ span) (hs2 : span ≤ 4321440) (ha : age ≤ span) (hi : i < n) (hn : n ≤ 1000) :
    Calls Try.prog 73 #[.int .i64 how, .int .i64 span, .int .i64 i, .int .i64 n, .int .i64 age] w fun e w' => e = .returned (.int .i64 (wgt how (18 * age / span) i n)) ∧ w = w' := by
  have hp : 18 * age / span ≤ 18 := Nat.div_le_of_le_mul (by omega)
  have e1 : (18 * (age : Int)).tdiv (span : Int) = ((18 * age / span : Nat) : Int) := by
    rw [Int.tdiv_eq_ediv_of_nonneg (by omega)]; simp
  have e1' : (18 * (age : Int)) / (span : Int) = ((18 * age / span : Nat) : Int) := by simp
  have hsn : ¬ span = 0 := by omega
  generalize 18 * age / span = p at *
  by_cases h6 : how = 6
  · subst h6
    have HW := Lib.hid (show wgt 6 p i n = ((2 ^ (18 - p) : Nat) : Int) by simp [wgt])
    go_enter Try.func73, Try.ntmps73
    go_wp2
    go_loop [11, 58] (fun x j => ∃ k : Nat, k ≤ p ∧ j = .int .i64 k ∧ x = .int .i64 ((2 ^ (18 - k) : Nat) : Int)) (fun _ j => p - (intOf j).toNat)
    case atStart => exact ⟨0, Nat.zero_le _, rfl, rfl⟩
    case round =>
      obtain ⟨k, hk, rfl, rfl⟩ := hrel
      have hb := half_bd k
      by_cases hlt : k < p
      · have HS := Lib.hid (half_step k (by omega))
        generalize (2 ^ (18 - k) : Nat) = x at *
        go_wp2
        go_round
        case rel => exact ⟨k + 1, by omega, by go_num, by rw [← HS.out]; go_num⟩
        case measure => simp [intOf]; omega
      · obtain rfl : k = p := by omega
        generalize (2 ^ (18 - k) : Nat) = x at *
        go_wp2
        go_ret
        exact ⟨ret_int HW.out.symm, rfl⟩
  · rcases (show how = 1 ∨ how = 2 ∨ how = 3 ∨ how = 4 ∨ how = 5 by omega) with rfl | rfl | rfl | rfl | rfl
    all_goals
      clear h6
      go_enter Try.func73, Try.ntmps73
      go_wp2
      all_goals
        go_ret
        refine ⟨ret_int ?_, rfl⟩
        unfold wgt
        repeat' split
        all_goals first | rfl | omega | (simp_all; omega) | (simp_all; done)
end Go.Proofs.Ytdnikegakcdcnaa
