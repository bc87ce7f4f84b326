/- Contracts of measure.Reduce, measure.isRight and of the references that answer to them. -/
import Derived.Test.YtgdagknjnidmiaaGreatDoorMeasure
import Derived.StillTailTactics
import Derived.Deep.RegionHeld3
import Derived.Deep.RegionWith
namespace Go.Proofs.YtgdagknjnidmiaaGreatDoor
open Go.RowKit

/-- what Reduce answers: a fraction, an error -/
def redV (n d : Int) : Int × Int × Int :=
  if n < -4611686018427387904 ∨ 4611686018427387904 < n ∨ d < -4611686018427387904 ∨ 4611686018427387904 < d then (0, 0, 1)
  else if d = 0 then (0, 0, 8) else (Frac.redN n d, Frac.redD n d, 0)
def Red (n d : Int) (w : World) (e : Ending) (w' : World) : Prop :=
  e = .returned (.tuple #[.agg #[.int .i64 (redV n d).1, .int .i64 (redV n d).2.1], .int .i64 (redV n d).2.2]) ∧ Below w.heap.size w w'

set_option maxHeartbeats 400000 in
theorem Reduce_any (n d : Int) (w : World) : Calls Tryz.prog 47 #[.int .i64 n, .int .i64 d] w (Red n d w) := by
  by_cases h1 : n < -4611686018427387904 ∨ 4611686018427387904 < n
  · have H := Lib.hid (show redV n d = (0, 0, 1) by unfold redV; rw [if_pos (by omega)])
    unfold Red
    rw [H.out]
    clear H
    go_enter Tryz.func47, Tryz.ntmps47
    go_wp2_with fail
    with_reducible refine (within_no _ _ _ _ h1).mono ?_
    rintro e w' ⟨rfl, rfl⟩
    clear h1
    go_wp2_with fail
    go_returns
    exact ⟨rfl, by go_grown⟩
  · by_cases h2 : d < -4611686018427387904 ∨ 4611686018427387904 < d
    · have H := Lib.hid (show redV n d = (0, 0, 1) by unfold redV; rw [if_pos (by omega)])
      unfold Red
      rw [H.out]
      clear H
      go_enter Tryz.func47, Tryz.ntmps47
      go_wp2_with fail
      with_reducible refine (within_yes _ _ _ _ (by omega) (by omega)).mono ?_
      rintro e w' ⟨rfl, rfl⟩
      go_wp2_with fail
      with_reducible refine (within_no _ _ _ _ h2).mono ?_
      rintro e w' ⟨rfl, rfl⟩
      clear h1 h2
      go_wp2_with fail
      go_returns
      exact ⟨rfl, by go_grown⟩
    · have h3 : -4611686018427387904 ≤ n := by omega
      have h4 : n ≤ 4611686018427387904 := by omega
      have h5 : -4611686018427387904 ≤ d := by omega
      have h6 : d ≤ 4611686018427387904 := by omega
      by_cases h7 : d = 0
      · have H := Lib.hid (show redV n d = (0, 0, 8) by unfold redV; rw [if_neg (by omega), if_pos h7])
        unfold Red
        rw [H.out]
        clear H
        subst h7
        clear h1 h2
        go_enter Tryz.func47, Tryz.ntmps47
        go_wp2_with fail
        with_reducible refine (within_yes _ _ _ _ (by omega) (by omega)).mono ?_
        rintro e w' ⟨rfl, rfl⟩
        go_wp2_with fail
        with_reducible refine (within_yes _ _ _ _ (by omega) (by omega)).mono ?_
        rintro e w' ⟨rfl, rfl⟩
        go_wp2_with fail
        go_returns
        exact ⟨rfl, by go_grown⟩
      · have H := Lib.hid (show redV n d = (Frac.redN n d, Frac.redD n d, 0) by unfold redV; rw [if_neg (by omega), if_neg h7])
        unfold Red
        rw [H.out]
        clear H
        clear h1 h2
        have hd : (d == 0) = false := by simp [h7]
        go_enter Tryz.func47, Tryz.ntmps47
        go_wp2_with fail
        with_reducible refine (within_yes _ _ _ _ (by omega) (by omega)).mono ?_
        rintro e w' ⟨rfl, rfl⟩
        go_wp2_with fail
        with_reducible refine (within_yes _ _ _ _ (by omega) (by omega)).mono ?_
        rintro e w' ⟨rfl, rfl⟩
        go_wp2_with fail
        with_reducible refine (reduce_any _ _ _ h7 h5 h6 h3 h4).mono ?_
        rintro e w' ⟨rfl, hb⟩
        unfold fr
        have hc0 := hb.cell (p := ⟨w.heap.size, 0, none⟩) (by simp)
        have hc1 := hb.cell (p := ⟨w.heap.size, 1, none⟩) (by simp)
        have hf0 := hb.frozen (p := ⟨w.heap.size, 0, none⟩) (by simp)
        have hf1 := hb.frozen (p := ⟨w.heap.size, 1, none⟩) (by simp)
        simp at hc0 hc1 hf0 hf1
        have hz := hb.size
        simp at hz
        go_wp2_with fail
        refine bodyPost_ret (v := .tuple #[.agg #[.int .i64 (Frac.redN n d), .int .i64 (Frac.redD n d)], .int .i64 0]) (by simp [results, Tryz.results47, go_sem, hc0, hc1]) rfl ⟨rfl, ?_⟩
        exact ((((Below.refl _ _).alloc (Nat.le_refl _) _).trans (hb.mono (by simp))).setCell (Nat.le_refl _) _).setCell (Nat.le_refl _) _
end Go.Proofs.YtgdagknjnidmiaaGreatDoor
