/- What offers must be, as the program asks it. -/
import Derived.Test.YtdnikegakcdcnaaDoorOfSpec
set_option linter.unusedVariables false
namespace Go.Proofs.YtdnikegakcdcnaaDoor
open Go.RowKit

/-- n lies from lo to hi -/
def wB (n lo hi : Int) : Bool := decide (lo ≤ n) && decide (n ≤ hi)
def amB (k a b : Int) : Bool := if k = 1 then wB a 1 100 && decide (b = 0) else if k = 3 then wB a 1 20 && wB b 1 20 else wB a 1 1000000000000 && decide (b = 0)
theorem wB_kind (k : Int) : wB k 1 4 = decide (1 ≤ k ∧ k ≤ 4) := by
  unfold wB
  rw [Bool.decide_and]
theorem ofB_am (x : Of) (h : wB x.kind 1 4 = true) : ofB x = (amB x.kind x.a x.b && wB x.least 0 1000000000000 && wB x.most 0 1000000000000 && wB x.order 0 1000) := by
  rw [wB_kind, decide_eq_true_eq] at h
  unfold ofB amB wB kindM
  rcases (show x.kind = 1 ∨ x.kind = 2 ∨ x.kind = 3 ∨ x.kind = 4 by omega) with e | e | e | e <;> rw [e] <;> simp [Bool.and_assoc]
theorem ofT_w (x : Of) : ofT x = (wB x.from_ 0 4321439 && wB x.to_ (x.from_ + 1) 4321440) := by
  unfold ofT wB
  rw [show decide (x.from_ < x.to_) = decide (x.from_ + 1 ≤ x.to_) from decide_eq_decide.2 Int.lt_iff_add_one_le]
  simp [Bool.and_assoc]
/-- the least and the greatest B of a kind -/
def loB (k : Int) : Int := if k = 3 then 1 else 0
def hiB (k : Int) : Int := if k = 3 then 20 else 0
theorem ofB_no (x : Of) (h : x.a < 1 ∨ kindM x.kind < x.a ∨ x.b < loB x.kind ∨ hiB x.kind < x.b ∨ x.least < 0 ∨ 1000000000000 < x.least ∨ x.most < 0 ∨ 1000000000000 < x.most ∨ x.order < 0 ∨ 1000 < x.order) : ofB x = false := by
  unfold loB hiB at h
  unfold ofB
  by_cases h3 : x.kind = 3
  · rw [if_pos h3] at h ⊢
    rw [if_pos h3] at h
    simp only [Bool.and_eq_false_iff, decide_eq_false_iff_not]
    omega
  · rw [if_neg h3] at h ⊢
    rw [if_neg h3] at h
    simp only [Bool.and_eq_false_iff, decide_eq_false_iff_not]
    omega
theorem ofB_yes (x : Of) (h1 : 1 ≤ x.a) (h2 : x.a ≤ kindM x.kind) (h3 : loB x.kind ≤ x.b) (h4 : x.b ≤ hiB x.kind) (h5 : 0 ≤ x.least) (h6 : x.least ≤ 1000000000000) (h7 : 0 ≤ x.most) (h8 : x.most ≤ 1000000000000) (h9 : 0 ≤ x.order) (h10 : x.order ≤ 1000) : ofB x = true := by
  unfold loB at h3
  unfold hiB at h4
  unfold ofB
  by_cases hk : x.kind = 3
  · rw [if_pos hk] at h3 h4 ⊢
    simp [h1, h2, h3, h4, h5, h6, h7, h8, h9, h10]
  · rw [if_neg hk] at h3 h4 ⊢
    have hb : x.b = 0 := by omega
    simp [h1, h2, hb, h5, h6, h7, h8, h9, h10]
theorem kindM_zero (k : Int) : kindM k = 0 ↔ ¬ (1 ≤ k ∧ k ≤ 4) := by
  unfold kindM
  split
  · omega
  · split
    · omega
    · split
      · omega
      · split <;> omega
theorem ofIsEmpty (s : ByteArray) : s.toList.isEmpty = decide (s.size = 0) := by
  rw [Lib.toList_data, Bool.eq_iff_iff, List.isEmpty_iff, decide_eq_true_eq]
  constructor
  · intro h
    have h1 : s.data.toList.length = 0 := by rw [h]; rfl
    rw [Array.length_toList] at h1
    exact h1
  · intro h
    refine List.eq_nil_of_length_eq_zero ?_
    rw [Array.length_toList]
    exact h
end Go.Proofs.YtdnikegakcdcnaaDoor
