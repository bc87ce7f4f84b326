/- The contract of the reference ExtraOf. -/
import Derived.Test.YtdnikegakcdcnaaExtra
set_option linter.unusedVariables false
namespace Go.Proofs.Ytdnikegakcdcnaa
open Go.RowKit

set_option maxRecDepth 100000 in
set_option maxHeartbeats 2000000 in
theorem ExtraOf_any (t g h k : Int) (w : World) :
    Calls Try.prog 29 #[.int .i64 t, .int .i64 g, .int .i64 h, .int .i64 k] w (Xt t g h k w) := by
  by_cases h0 : t < 1 ∨ 1000000 < t ∨ h < 1 ∨ 1000000 < h ∨ g < 0 ∨ t < g ∨ k < 0 ∨ h < k
  · have H := Lib.hid (show xtV t g h k = (0, 0, 1) by unfold xtV; rw [if_pos h0])
    unfold Xt
    rw [H.out]
    clear H
    rcases (show t < 1 ∨ (1 ≤ t ∧ 1000000 < t) ∨ (1 ≤ t ∧ t ≤ 1000000 ∧ g < 0) ∨ (1 ≤ t ∧ t ≤ 1000000 ∧ 0 ≤ g ∧ t < g) ∨ (1 ≤ t ∧ t ≤ 1000000 ∧ 0 ≤ g ∧ g ≤ t ∧ h < 1) ∨ (1 ≤ t ∧ t ≤ 1000000 ∧ 0 ≤ g ∧ g ≤ t ∧ 1 ≤ h ∧ 1000000 < h)
      ∨ (1 ≤ t ∧ t ≤ 1000000 ∧ 0 ≤ g ∧ g ≤ t ∧ 1 ≤ h ∧ h ≤ 1000000 ∧ k < 0) ∨ (1 ≤ t ∧ t ≤ 1000000 ∧ 0 ≤ g ∧ g ≤ t ∧ 1 ≤ h ∧ h ≤ 1000000 ∧ 0 ≤ k ∧ h < k) by omega) with h1 | ⟨h1, h2⟩ | ⟨h1, h2, h3⟩ | ⟨h1, h2, h3, h4⟩ | ⟨h1, h2, h3, h4, h5⟩ | ⟨h1, h2, h3, h4, h5, h6⟩ | ⟨h1, h2, h3, h4, h5, h6, h7⟩ | ⟨h1, h2, h3, h4, h5, h6, h7, h8⟩
    all_goals
      clear h0
      go_enter Try.func29, Try.ntmps29
      go_wp2_with fail
      go_rounds 3
      go_returns
      exact ⟨rfl, by go_grown⟩
  · have H := Lib.hid (show xtV t g h k = (Frac.redN (g * h - k * t) (t * h), Frac.redD (g * h - k * t) (t * h), 0) by unfold xtV; rw [if_neg h0])
    unfold Xt
    rw [H.out]
    clear H
    obtain ⟨m1, m2⟩ := mul_bd g h 1000000 1000000 (by omega) (by omega) (by omega) (by omega)
    obtain ⟨m3, m4⟩ := mul_bd k t 1000000 1000000 (by omega) (by omega) (by omega) (by omega)
    obtain ⟨m5, m6⟩ := mul_bd t h 1000000 1000000 (by omega) (by omega) (by omega) (by omega)
    have m7 : 1 ≤ t * h := by have := Int.mul_le_mul (show (1 : Int) ≤ t by omega) (show (1 : Int) ≤ h by omega) (by omega) (by omega); omega
    have h1 : 1 ≤ t := by omega
    have h2 : t ≤ 1000000 := by omega
    have h3 : 0 ≤ g := by omega
    have h4 : g ≤ t := by omega
    have h5 : 1 ≤ h := by omega
    have h6 : h ≤ 1000000 := by omega
    have h7 : 0 ≤ k := by omega
    have h8 : k ≤ h := by omega
    clear h0
    go_enter Try.func29, Try.ntmps29
    go_wp2_with fail
    refine wp_loop_rounds 3 ?_
    rw [rounds_succ]
    go_wp2_with fail
    rw [rounds_succ]
    go_wp2_with fail
    rw [rounds_succ]
    go_wp2_with fail
    with_reducible refine (reduced_any _ _ _ (by omega) (by omega) (by omega) (by omega) (by omega)).mono ?_
    rintro e w1 ⟨rfl, hb1⟩
    have d0 : w1.cell? ⟨w.heap.size, 0, none⟩ = some (.int .i64 0) := (hb1.cell (by simp; omega)).trans (by go_simp)
    have d1 : w1.cell? ⟨w.heap.size, 1, none⟩ = some (.int .i64 0) := (hb1.cell (by simp; omega)).trans (by go_simp)
    have f0 : w1.frozen? ⟨w.heap.size, 0, none⟩ = false := (hb1.frozen (by simp; omega)).trans (by go_simp)
    have f1 : w1.frozen? ⟨w.heap.size, 1, none⟩ = false := (hb1.frozen (by simp; omega)).trans (by go_simp)
    have hb1' := hb1.mono (B' := w.heap.size) (by simp; omega)
    have HB := Lib.hid (show Below w.heap.size w w1 from Below.trans (by go_grown) hb1')
    clear hb1'
    clear hb1
    go_wp2_with fail
    refine bodyPost_ret (v := .tuple #[.agg #[.int .i64 (Frac.redN (g * h - k * t) (t * h)), .int .i64 (Frac.redD (g * h - k * t) (t * h))], .int .i64 0]) (by simp [results, Try.results29, go_sem, d0, d1]) rfl ⟨rfl, ?_⟩
    exact Below.setCell (p := ⟨w.heap.size, 1, none⟩) (Below.setCell (p := ⟨w.heap.size, 0, none⟩) HB.out (Nat.le_refl _) _) (Nat.le_refl _) _
end Go.Proofs.Ytdnikegakcdcnaa
