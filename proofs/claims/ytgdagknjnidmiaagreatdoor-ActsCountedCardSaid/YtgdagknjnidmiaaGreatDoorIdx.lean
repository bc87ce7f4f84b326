/- The place of a string in a list of strings. -/
import Derived.Test.YtgdagknjnidmiaaGreatDoorM1
set_option linter.unusedVariables false
namespace Go.Proofs.YtgdagknjnidmiaaGreatDoor

def eqS (x s : ByteArray) : Bool := decide (x.data.toList = s.data.toList)
theorem eqS_eq {x s : ByteArray} : eqS x s = true ↔ x = s := by
  unfold eqS
  rw [decide_eq_true_eq]
  constructor
  · intro h
    cases x; cases s
    congr 1
    exact Array.toList_inj.1 h
  · rintro rfl; rfl
/-- the first place of s in l, counted from i; -1: none -/
def idxGo : List ByteArray → ByteArray → Nat → Int
  | [], _, _ => -1
  | x :: l, s, i => if eqS x s = true then (i : Int) else idxGo l s (i + 1)
def idxG (l : List ByteArray) (s : ByteArray) : Int := idxGo l s 0
theorem idxGo_drop (l : List ByteArray) (s : ByteArray) (k : Nat) (h : k < l.length) : idxGo (l.drop k) s k = if eqS l[k] s = true then (k : Int) else idxGo (l.drop (k + 1)) s (k + 1) := by
  rw [List.drop_eq_getElem_cons h]; rfl
theorem idxGo_bd : ∀ (l : List ByteArray) (s : ByteArray) (i : Nat), idxGo l s i = -1 ∨ ((i : Int) ≤ idxGo l s i ∧ idxGo l s i < (i : Int) + l.length)
  | [], s, i => .inl rfl
  | x :: l, s, i => by
    unfold idxGo
    split
    · right; simp only [List.length_cons]; omega
    · rcases idxGo_bd l s (i + 1) with h | h
      · exact .inl h
      · right; simp only [List.length_cons]; omega
theorem idxG_bd (l : List ByteArray) (s : ByteArray) : idxG l s = -1 ∨ (0 ≤ idxG l s ∧ idxG l s < l.length) := by
  have := idxGo_bd l s 0
  unfold idxG
  omega
theorem hasS_idx (l : List ByteArray) (s : ByteArray) : hasS l s = decide (0 ≤ idxG l s) := by
  have key : ∀ (l : List ByteArray) (i : Nat), hasS l s = decide (0 ≤ idxGo l s i) := by
    intro l
    induction l with
    | nil => intro i; rfl
    | cons x l ih =>
      intro i
      unfold idxGo
      by_cases h : eqS x s = true
      · rw [if_pos h]
        unfold hasS
        rw [List.any_cons]
        unfold eqS at h
        rw [h]
        simp
      · rw [if_neg h, ← ih (i + 1)]
        unfold hasS
        rw [List.any_cons]
        unfold eqS at h
        rw [Bool.not_eq_true] at h
        rw [h]
        rfl
  exact key l 0
end Go.Proofs.YtgdagknjnidmiaaGreatDoor
