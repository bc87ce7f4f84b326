/- Contracts of measure.Extra and of the reference ExtraOf. -/
import Derived.Test.YtdnikegakcdcnaaRef
set_option linter.unusedVariables false
namespace Go.Proofs.Ytdnikegakcdcnaa
open Go.RowKit

/-- what Extra answers: treated, gained, held, held and gained -/
def xtV (t g h k : Int) : Int × Int × Int :=
  if t < 1 ∨ 1000000 < t ∨ h < 1 ∨ 1000000 < h ∨ g < 0 ∨ t < g ∨ k < 0 ∨ h < k then (0, 0, 1)
  else (Frac.redN (g * h - k * t) (t * h), Frac.redD (g * h - k * t) (t * h), 0)
def Xt (t g h k : Int) (w : World) (e : Ending) (w' : World) : Prop :=
  e = .returned (.tuple #[.agg #[.int .i64 (xtV t g h k).1, .int .i64 (xtV t g h k).2.1], .int .i64 (xtV t g h k).2.2]) ∧ Below w.heap.size w w'

theorem mul_bd (x y X Y : Int) (hx0 : 0 ≤ x) (hx : x ≤ X) (hy0 : 0 ≤ y) (hy : y ≤ Y) : 0 ≤ x * y ∧ x * y ≤ X * Y :=
  ⟨Int.mul_nonneg hx0 hy0, Int.mul_le_mul hx hy hy0 (by omega)⟩

set_option maxHeartbeats 1000000 in
theorem Extra_any (t g h k : Int) (w : World) :
    Calls Try.prog 28 #[.int .i64 t, .int .i64 g, .int .i64 h, .int .i64 k] w (Xt t g h k w) := by
  by_cases h1 : t < 1 ∨ 1000000 < t
  · have H := Lib.hid (show xtV t g h k = (0, 0, 1) by unfold xtV; rw [if_pos (by omega)])
    unfold Xt
    rw [H.out]
    clear H
    go_enter Try.func28, Try.ntmps28
    go_wp2_with fail
    with_reducible refine (within_no _ _ _ _ h1).mono ?_
    rintro e w' ⟨rfl, rfl⟩
    clear h1
    go_wp2_with fail
    go_returns
    exact ⟨rfl, by go_grown⟩
  · by_cases h2 : h < 1 ∨ 1000000 < h
    · have H := Lib.hid (show xtV t g h k = (0, 0, 1) by unfold xtV; rw [if_pos (by omega)])
      unfold Xt
      rw [H.out]
      clear H
      go_enter Try.func28, Try.ntmps28
      go_wp2_with fail
      with_reducible refine (within_yes _ _ _ _ (by omega) (by omega)).mono ?_
      rintro e w' ⟨rfl, rfl⟩
      go_wp2_with fail
      with_reducible refine (within_no _ _ _ _ h2).mono ?_
      rintro e w' ⟨rfl, rfl⟩
      clear h1 h2
      go_wp2_with fail
      go_returns
      exact ⟨rfl, by go_grown⟩
    · by_cases h3 : g < 0 ∨ t < g
      · have H := Lib.hid (show xtV t g h k = (0, 0, 1) by unfold xtV; rw [if_pos (by omega)])
        unfold Xt
        rw [H.out]
        clear H
        go_enter Try.func28, Try.ntmps28
        go_wp2_with fail
        with_reducible refine (within_yes _ _ _ _ (by omega) (by omega)).mono ?_
        rintro e w' ⟨rfl, rfl⟩
        go_wp2_with fail
        with_reducible refine (within_yes _ _ _ _ (by omega) (by omega)).mono ?_
        rintro e w' ⟨rfl, rfl⟩
        go_wp2_with fail
        with_reducible refine (within_no _ _ _ _ h3).mono ?_
        rintro e w' ⟨rfl, rfl⟩
        clear h1 h2 h3
        go_wp2_with fail
        go_returns
        exact ⟨rfl, by go_grown⟩
      · by_cases h4 : k < 0 ∨ h < k
        · have H := Lib.hid (show xtV t g h k = (0, 0, 1) by unfold xtV; rw [if_pos (by omega)])
          unfold Xt
          rw [H.out]
          clear H
          go_enter Try.func28, Try.ntmps28
          go_wp2_with fail
          with_reducible refine (within_yes _ _ _ _ (by omega) (by omega)).mono ?_
          rintro e w' ⟨rfl, rfl⟩
          go_wp2_with fail
          with_reducible refine (within_yes _ _ _ _ (by omega) (by omega)).mono ?_
          rintro e w' ⟨rfl, rfl⟩
          go_wp2_with fail
          with_reducible refine (within_yes _ _ _ _ (by omega) (by omega)).mono ?_
          rintro e w' ⟨rfl, rfl⟩
          go_wp2_with fail
          with_reducible refine (within_no _ _ _ _ h4).mono ?_
          rintro e w' ⟨rfl, rfl⟩
          clear h1 h2 h3 h4
          go_wp2_with fail
          go_returns
          exact ⟨rfl, by go_grown⟩
        · have H := Lib.hid (show xtV t g h k = (Frac.redN (g * h - k * t) (t * h), Frac.redD (g * h - k * t) (t * h), 0) by unfold xtV; rw [if_neg (by omega)])
          unfold Xt
          rw [H.out]
          clear H
          obtain ⟨m1, m2⟩ := mul_bd g h 1000000 1000000 (by omega) (by omega) (by omega) (by omega)
          obtain ⟨m3, m4⟩ := mul_bd k t 1000000 1000000 (by omega) (by omega) (by omega) (by omega)
          obtain ⟨m5, m6⟩ := mul_bd t h 1000000 1000000 (by omega) (by omega) (by omega) (by omega)
          have m7 : 1 ≤ t * h := by have := Int.mul_le_mul (show (1 : Int) ≤ t by omega) (show (1 : Int) ≤ h by omega) (by omega) (by omega); omega
          go_enter Try.func28, Try.ntmps28
          go_wp2_with fail
          with_reducible refine (within_yes _ _ _ _ (by omega) (by omega)).mono ?_
          rintro e w' ⟨rfl, rfl⟩
          go_wp2_with fail
          with_reducible refine (within_yes _ _ _ _ (by omega) (by omega)).mono ?_
          rintro e w' ⟨rfl, rfl⟩
          go_wp2_with fail
          with_reducible refine (within_yes _ _ _ _ (by omega) (by omega)).mono ?_
          rintro e w' ⟨rfl, rfl⟩
          go_wp2_with fail
          with_reducible refine (within_yes _ _ _ _ (by omega) (by omega)).mono ?_
          rintro e w' ⟨rfl, rfl⟩
          clear h1 h2 h3 h4
          go_wp2_with fail
          with_reducible refine (reduce_pos _ _ _ (by omega) (by omega) (by omega) (by omega)).mono ?_
          rintro e w1 ⟨rfl, hb1⟩
          unfold fr
          have d0 : w1.cell? ⟨w.heap.size, 0, none⟩ = some (.int .i64 0) := (hb1.cell (by simp)).trans (by go_simp)
          have d1 : w1.cell? ⟨w.heap.size, 1, none⟩ = some (.int .i64 0) := (hb1.cell (by simp)).trans (by go_simp)
          have f0 : w1.frozen? ⟨w.heap.size, 0, none⟩ = false := (hb1.frozen (by simp)).trans (by go_simp)
          have f1 : w1.frozen? ⟨w.heap.size, 1, none⟩ = false := (hb1.frozen (by simp)).trans (by go_simp)
          go_wp2_with fail
          refine bodyPost_ret (v := .tuple #[.agg #[.int .i64 (Frac.redN (g * h - k * t) (t * h)), .int .i64 (Frac.redD (g * h - k * t) (t * h))], .int .i64 0]) (by simp [results, Try.results28, go_sem, d0, d1]) rfl ⟨rfl, ?_⟩
          exact ((((Below.refl _ _).alloc (Nat.le_refl _) _).trans (hb1.mono (by simp))).setCell (Nat.le_refl _) _).setCell (Nat.le_refl _) _
end Go.Proofs.Ytdnikegakcdcnaa
