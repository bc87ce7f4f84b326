/- The contract of measure.Exact, whatever its numbers. -/
import Derived.Test.YtdnikegakcdcnaaExact3
set_option linter.unusedVariables false
namespace Go.Proofs.Ytdnikegakcdcnaa
open Go.RowKit

set_option maxRecDepth 100000 in
set_option maxHeartbeats 1000000 in
theorem Exact_neg (a b c d : Int) (w : World) (h : a < 0 ∨ b < 0 ∨ c < 0 ∨ d < 0) :
    Calls Try.prog 22 #[.int .i64 a, .int .i64 b, .int .i64 c, .int .i64 d] w fun e w' =>
      e = .returned (.tuple #[.agg #[.int .i64 0, .int .i64 0], .int .i64 1]) ∧ Below w.heap.size w w' := by
  have HMI := Lib.hid (show Lib.minOf [a, b, c, d] < 0 by rw [min4]; exact h)
  clear h
  go_enter Try.func22, Try.ntmps22
  go_wp2_with fail
  generalize hW : World.alloc (World.alloc (World.alloc (World.alloc (World.alloc (World.alloc w _) _) _) _) _) _ = W
  have d0 : W.cell? ⟨w.heap.size + 1 + 1 + 1 + 1, 0, none⟩ = some (.int .i64 0) := by subst hW; go_simp
  have d1 : W.cell? ⟨w.heap.size + 1 + 1 + 1 + 1, 1, none⟩ = some (.int .i64 0) := by subst hW; go_simp
  have f0 : W.frozen? ⟨w.heap.size + 1 + 1 + 1 + 1, 0, none⟩ = false := by subst hW; go_simp
  have f1 : W.frozen? ⟨w.heap.size + 1 + 1 + 1 + 1, 1, none⟩ = false := by subst hW; go_simp
  have HI : Hid (IntsAt W (some ⟨w.heap.size + 1 + 1 + 1 + 1 + 1, 0, none⟩) [a, b, c, d]) := Lib.hid (by
    subst hW
    exact IntsAt.new (zs := [a, b, c, d]) (by simp))
  have hbW : Below w.heap.size w W := by subst hW; go_grown
  have HBW := Lib.hid hbW
  clear hW hbW
  have HC := Lib.hid HI.out.cells
  with_reducible refine (Try.slices_Min_int _ 0 4 _ [a, b, c, d] _ (by omega) (by simp) (by omega) HC.out).mono ?_
  rintro e w1 ⟨rfl, hw1⟩
  rw [hw1, show List.take 4 [a, b, c, d] = [a, b, c, d] from rfl]
  clear hw1 w1
  have hmi : Lib.minOf [a, b, c, d] < 0 := HMI.out
  generalize Lib.minOf [a, b, c, d] = mi at *
  go_wp2
  refine bodyPost_ret (v := .tuple #[.agg #[.int .i64 0, .int .i64 0], .int .i64 1]) (by simp [results, Try.results22, go_sem, d0, d1]) rfl ⟨rfl, ?_⟩
  exact (HBW.out.setCell (by show w.heap.size ≤ w.heap.size + 1 + 1 + 1 + 1; omega) _).setCell (by show w.heap.size ≤ w.heap.size + 1 + 1 + 1 + 1; omega) _

set_option maxRecDepth 100000 in
set_option maxHeartbeats 1000000 in
theorem Exact_big (a b c d : Int) (w : World) (h0 : ¬ (a < 0 ∨ b < 0 ∨ c < 0 ∨ d < 0)) (h : 60 < a ∨ 60 < b ∨ 60 < c ∨ 60 < d) :
    Calls Try.prog 22 #[.int .i64 a, .int .i64 b, .int .i64 c, .int .i64 d] w fun e w' =>
      e = .returned (.tuple #[.agg #[.int .i64 0, .int .i64 0], .int .i64 2]) ∧ Below w.heap.size w w' := by
  have HMI := Lib.hid (show ¬ Lib.minOf [a, b, c, d] < 0 by rw [min4]; exact h0)
  have HMA := Lib.hid (show 60 < Lib.maxOf [a, b, c, d] by rw [max4]; exact h)
  clear h h0
  go_enter Try.func22, Try.ntmps22
  go_wp2_with fail
  generalize hW : World.alloc (World.alloc (World.alloc (World.alloc (World.alloc (World.alloc w _) _) _) _) _) _ = W
  have d0 : W.cell? ⟨w.heap.size + 1 + 1 + 1 + 1, 0, none⟩ = some (.int .i64 0) := by subst hW; go_simp
  have d1 : W.cell? ⟨w.heap.size + 1 + 1 + 1 + 1, 1, none⟩ = some (.int .i64 0) := by subst hW; go_simp
  have f0 : W.frozen? ⟨w.heap.size + 1 + 1 + 1 + 1, 0, none⟩ = false := by subst hW; go_simp
  have f1 : W.frozen? ⟨w.heap.size + 1 + 1 + 1 + 1, 1, none⟩ = false := by subst hW; go_simp
  have HI : Hid (IntsAt W (some ⟨w.heap.size + 1 + 1 + 1 + 1 + 1, 0, none⟩) [a, b, c, d]) := Lib.hid (by
    subst hW
    exact IntsAt.new (zs := [a, b, c, d]) (by simp))
  have hbW : Below w.heap.size w W := by subst hW; go_grown
  have HBW := Lib.hid hbW
  clear hW hbW
  have HC := Lib.hid HI.out.cells
  with_reducible refine (Try.slices_Min_int _ 0 4 _ [a, b, c, d] _ (by omega) (by simp) (by omega) HC.out).mono ?_
  rintro e w1 ⟨rfl, hw1⟩
  rw [hw1, show List.take 4 [a, b, c, d] = [a, b, c, d] from rfl]
  clear hw1 w1
  have hmi : 0 ≤ Lib.minOf [a, b, c, d] := by have := HMI.out; omega
  generalize Lib.minOf [a, b, c, d] = mi at *
  have hmi' : decide (mi < 0) = false := decide_eq_false (by omega)
  go_wp2_with fail
  with_reducible refine (Try.slices_Max_int _ 0 4 _ [a, b, c, d] _ (by omega) (by simp) (by omega) HC.out).mono ?_
  rintro e w1 ⟨rfl, hw1⟩
  rw [hw1, show List.take 4 [a, b, c, d] = [a, b, c, d] from rfl]
  clear hw1 w1
  have hma : 60 < Lib.maxOf [a, b, c, d] := HMA.out
  generalize Lib.maxOf [a, b, c, d] = ma at *
  go_wp2
  refine bodyPost_ret (v := .tuple #[.agg #[.int .i64 0, .int .i64 0], .int .i64 2]) (by simp [results, Try.results22, go_sem, d0, d1]) rfl ⟨rfl, ?_⟩
  exact (HBW.out.setCell (by show w.heap.size ≤ w.heap.size + 1 + 1 + 1 + 1; omega) _).setCell (by show w.heap.size ≤ w.heap.size + 1 + 1 + 1 + 1; omega) _

set_option maxRecDepth 100000 in
set_option maxHeartbeats 1000000 in
theorem Exact_many (a b c d : Int) (w : World) (h0 : ¬ (a < 0 ∨ b < 0 ∨ c < 0 ∨ d < 0)) (h1 : ¬ (60 < a ∨ 60 < b ∨ 60 < c ∨ 60 < d)) (h : 60 < a + b + c + d) :
    Calls Try.prog 22 #[.int .i64 a, .int .i64 b, .int .i64 c, .int .i64 d] w fun e w' =>
      e = .returned (.tuple #[.agg #[.int .i64 0, .int .i64 0], .int .i64 2]) ∧ Below w.heap.size w w' := by
  have HMI := Lib.hid (show ¬ Lib.minOf [a, b, c, d] < 0 by rw [min4]; exact h0)
  have HMA := Lib.hid (show ¬ 60 < Lib.maxOf [a, b, c, d] by rw [max4]; exact h1)
  have HBD := Lib.hid (show ∀ z ∈ [a, b, c, d], 0 ≤ z ∧ z ≤ 1000000000000 by
    intro z hz
    simp only [List.mem_cons, List.mem_nil_iff, or_false] at hz
    omega)
  have HSum := Lib.hid (show [a, b, c, d].sum = a + b + c + d by simp; omega)
  clear h0 h1
  go_enter Try.func22, Try.ntmps22
  go_wp2_with fail
  generalize hW : World.alloc (World.alloc (World.alloc (World.alloc (World.alloc (World.alloc w _) _) _) _) _) _ = W
  have d0 : W.cell? ⟨w.heap.size + 1 + 1 + 1 + 1, 0, none⟩ = some (.int .i64 0) := by subst hW; go_simp
  have d1 : W.cell? ⟨w.heap.size + 1 + 1 + 1 + 1, 1, none⟩ = some (.int .i64 0) := by subst hW; go_simp
  have f0 : W.frozen? ⟨w.heap.size + 1 + 1 + 1 + 1, 0, none⟩ = false := by subst hW; go_simp
  have f1 : W.frozen? ⟨w.heap.size + 1 + 1 + 1 + 1, 1, none⟩ = false := by subst hW; go_simp
  have HI : Hid (IntsAt W (some ⟨w.heap.size + 1 + 1 + 1 + 1 + 1, 0, none⟩) [a, b, c, d]) := Lib.hid (by
    subst hW
    exact IntsAt.new (zs := [a, b, c, d]) (by simp))
  have hbW : Below w.heap.size w W := by subst hW; go_grown
  have HBW := Lib.hid hbW
  clear hW hbW
  have HC := Lib.hid HI.out.cells
  with_reducible refine (Try.slices_Min_int _ 0 4 _ [a, b, c, d] _ (by omega) (by simp) (by omega) HC.out).mono ?_
  rintro e w1 ⟨rfl, hw1⟩
  rw [hw1, show List.take 4 [a, b, c, d] = [a, b, c, d] from rfl]
  clear hw1 w1
  have hmi : 0 ≤ Lib.minOf [a, b, c, d] := by have := HMI.out; omega
  generalize Lib.minOf [a, b, c, d] = mi at *
  have hmi' : decide (mi < 0) = false := decide_eq_false (by omega)
  go_wp2_with fail
  with_reducible refine (Try.slices_Max_int _ 0 4 _ [a, b, c, d] _ (by omega) (by simp) (by omega) HC.out).mono ?_
  rintro e w1 ⟨rfl, hw1⟩
  rw [hw1, show List.take 4 [a, b, c, d] = [a, b, c, d] from rfl]
  clear hw1 w1
  have hma : Lib.maxOf [a, b, c, d] ≤ 60 := by have := HMA.out; omega
  generalize Lib.maxOf [a, b, c, d] = ma at *
  have hma' : decide (60 < ma) = false := decide_eq_false (by omega)
  go_wp2_with fail
  with_reducible refine (sumOf_any _ [a, b, c, d] 4 _ _ rfl (by omega) HI.out HBD.out).mono ?_
  rintro e w1 ⟨rfl, rfl⟩
  rw [HSum.out]
  clear HSum HC HI
  go_wp2
  refine bodyPost_ret (v := .tuple #[.agg #[.int .i64 0, .int .i64 0], .int .i64 2]) (by simp [results, Try.results22, go_sem, d0, d1]) rfl ⟨rfl, ?_⟩
  exact (HBW.out.setCell (by show w.heap.size ≤ w.heap.size + 1 + 1 + 1 + 1; omega) _).setCell (by show w.heap.size ≤ w.heap.size + 1 + 1 + 1 + 1; omega) _

theorem exV_two {a b c d : Int} (h0 : ¬ (a < 0 ∨ b < 0 ∨ c < 0 ∨ d < 0)) (h : 60 < a ∨ 60 < b ∨ 60 < c ∨ 60 < d ∨ 60 < a + b + c + d) : exV a b c d = (0, 0, 2) := by
  have hf : exF [a, b, c, d] = 2 := by rw [exF4, if_neg h0, if_pos h]
  unfold exV; rw [hf]; rfl
def Ex (a b c d : Int) (w : World) (e : Ending) (w' : World) : Prop :=
  e = .returned (.tuple #[.agg #[.int .i64 (exV a b c d).1, .int .i64 (exV a b c d).2.1], .int .i64 (exV a b c d).2.2]) ∧ Below w.heap.size w w'
theorem Exact_any (a b c d : Int) (w : World) : Calls Try.prog 22 #[.int .i64 a, .int .i64 b, .int .i64 c, .int .i64 d] w (Ex a b c d w) := by
  unfold Ex
  by_cases h0 : a < 0 ∨ b < 0 ∨ c < 0 ∨ d < 0
  · have e : exV a b c d = (0, 0, 1) := by unfold exV; rw [exF4, if_pos h0]; rfl
    rw [e]; exact Exact_neg a b c d w h0
  · by_cases h1 : 60 < a ∨ 60 < b ∨ 60 < c ∨ 60 < d
    · have e : exV a b c d = (0, 0, 2) := exV_two h0 (by omega)
      rw [e]; exact Exact_big a b c d w h0 h1
    · by_cases h2 : 60 < a + b + c + d
      · have e : exV a b c d = (0, 0, 2) := exV_two h0 (by omega)
        rw [e]; exact Exact_many a b c d w h0 h1 h2
      · obtain ⟨x, rfl⟩ := Int.eq_ofNat_of_zero_le (show 0 ≤ a by omega)
        obtain ⟨y, rfl⟩ := Int.eq_ofNat_of_zero_le (show 0 ≤ b by omega)
        obtain ⟨z, rfl⟩ := Int.eq_ofNat_of_zero_le (show 0 ≤ c by omega)
        obtain ⟨t, rfl⟩ := Int.eq_ofNat_of_zero_le (show 0 ≤ d by omega)
        have e : exV x y z t = (Frac.redN (exFew x y z t : Nat) (exAll x y z t : Nat), Frac.redD (exFew x y z t : Nat) (exAll x y z t : Nat), 0) := by
          unfold exV; rw [exF4, if_neg h0, if_neg (by omega)]; rfl
        rw [e]; exact Exact_good x y z t w (by omega)
end Go.Proofs.Ytdnikegakcdcnaa
