/- What is dealt: quotients, rests, what is left. -/
import Derived.Test.YtdefjnefkdemiaaGreatDoorDeal
set_option linter.unusedVariables false
namespace Go.Proofs.YtdefjnefkdemiaaGreatDoor.Deal

def qN (c : Nat) (ws : List Nat) (j : Nat) : Nat := c * ws.getD j 0 / ws.sum
def rN (c : Nat) (ws : List Nat) (j : Nat) : Nat := c * ws.getD j 0 % ws.sum
def rF (c : Nat) (ws : List Nat) (i : Fin ws.length) : Nat := rN c ws i.val
def qSum (c : Nat) (ws : List Nat) (k : Nat) : Nat := ((ws.take k).map fun x => c * x / ws.sum).sum
def leftN (c : Nat) (ws : List Nat) : Nat := c - qSum c ws ws.length
def gotN (last : Bool) (c : Nat) (ws : List Nat) (k j : Nat) : Bool := if h : j < ws.length then got last (rF c ws) k ⟨j, h⟩ else false
/-- the whole answer -/
def dealL (last : Bool) (c : Nat) (ws : List Nat) : List Int :=
  (List.range ws.length).map fun j => ((qN c ws j + if gotN last c ws (leftN c ws) j then 1 else 0 : Nat) : Int)
theorem dealL_length (last : Bool) (c : Nat) (ws : List Nat) : (dealL last c ws).length = ws.length := by simp [dealL]

theorem sum_parts (c S : Nat) (l : List Nat) : (l.map fun x => c * x).sum = (l.map fun x => c * x / S).sum * S + (l.map fun x => c * x % S).sum := by
  induction l with
  | nil => simp
  | cons x l ih =>
    simp only [List.map_cons, List.sum_cons]
    rw [ih, Nat.add_mul]
    have := Nat.div_add_mod' (c * x) S
    omega
theorem sum_mul (c : Nat) (l : List Nat) : (l.map fun x => c * x).sum = c * l.sum := by
  induction l with
  | nil => simp
  | cons x l ih => simp only [List.map_cons, List.sum_cons]; rw [ih, Nat.mul_add]
theorem rests_lt (c S : Nat) (hS : 0 < S) (l : List Nat) (hl : l ≠ []) : (l.map fun x => c * x % S).sum < l.length * S := by
  induction l with
  | nil => exact absurd rfl hl
  | cons x l ih =>
    simp only [List.map_cons, List.sum_cons, List.length_cons]
    have h1 := Nat.mod_lt (c * x) hS
    rw [Nat.add_mul]
    by_cases h : l = []
    · subst h; simp; omega
    · have := ih h; omega
theorem qSum_le (c : Nat) (ws : List Nat) (hS : 0 < ws.sum) : qSum c ws ws.length ≤ c := by
  unfold qSum
  rw [List.take_length]
  have h := sum_parts c ws.sum ws
  rw [sum_mul] at h
  refine Nat.le_of_mul_le_mul_right (c := ws.sum) ?_ hS
  omega
theorem left_lt (c : Nat) (ws : List Nat) (hS : 0 < ws.sum) (hn : ws ≠ []) : leftN c ws < ws.length := by
  have h := sum_parts c ws.sum ws
  have hr := rests_lt c ws.sum hS ws hn
  have hq := qSum_le c ws hS
  rw [sum_mul] at h
  unfold leftN qSum at *
  rw [List.take_length] at *
  generalize (ws.map fun x => c * x / ws.sum).sum = q at *
  refine Nat.lt_of_mul_lt_mul_right (a := ws.sum) ?_
  rw [Nat.sub_mul]
  omega
theorem qSum_zero (c : Nat) (ws : List Nat) : qSum c ws 0 = 0 := by simp [qSum]
theorem qSum_succ (c : Nat) (ws : List Nat) (k : Nat) (hk : k < ws.length) : qSum c ws (k + 1) = qSum c ws k + qN c ws k := by
  unfold qSum qN
  rw [List.take_succ_eq_append_getElem hk, List.map_append, List.sum_append, List.getD_eq_getElem?_getD, List.getElem?_eq_getElem hk]
  simp only [List.map_cons, List.map_nil, List.sum_cons, List.sum_nil, Option.getD_some, Nat.add_zero]
theorem qSum_mono (c : Nat) (ws : List Nat) (k : Nat) : qSum c ws k ≤ qSum c ws ws.length := by
  unfold qSum
  rw [List.take_length]
  have h := congrArg (fun l => (l.map fun x => c * x / ws.sum).sum) (List.take_append_drop k ws)
  simp only [List.map_append, List.sum_append] at h
  omega
theorem qN_le (c : Nat) (ws : List Nat) (j : Nat) (hj : j < ws.length) (hS : 0 < ws.sum) : qN c ws j ≤ c := by
  have h1 := qSum_succ c ws j hj
  have h2 := qSum_mono c ws (j + 1)
  have h3 := qSum_le c ws hS
  omega
theorem rN_lt (c : Nat) (ws : List Nat) (j : Nat) (hS : 0 < ws.sum) : rN c ws j < ws.sum := Nat.mod_lt _ hS
/-- the quotients as a list -/
theorem qs_sum (c : Nat) (ws : List Nat) : ((List.range ws.length).map fun j => ((qN c ws j : Nat) : Int)).sum = (qSum c ws ws.length : Nat) := by
  have key : ∀ k, k ≤ ws.length → ((List.range k).map fun j => ((qN c ws j : Nat) : Int)).sum = (qSum c ws k : Nat) := by
    intro k
    induction k with
    | zero => intro _; simp [qSum]
    | succ k ih =>
      intro hk
      rw [List.range_succ, List.map_append, List.sum_append, ih (by omega), qSum_succ c ws k (by omega)]
      simp
  exact key _ (Nat.le_refl _)

section
variable (last : Bool) (c : Nat) (ws : List Nat)
theorem gotN_zero (j : Nat) : gotN last c ws 0 j = false := by
  unfold gotN
  split
  · exact got_zero _ _ _
  · rfl
/-- the place that gets the next cent -/
def nextN (k : Nat) : Nat := if h : k < (order last (rF c ws)).length then ((order last (rF c ws))[k]).val else 0
theorem nextN_lt (k : Nat) (hk : k < ws.length) : nextN last c ws k < ws.length := by
  unfold nextN
  rw [dif_pos (by rw [order_len]; exact hk)]
  exact Fin.isLt _
theorem gotN_succ (k j : Nat) (hk : k < ws.length) : gotN last c ws (k + 1) j = if j = nextN last c ws k then true else gotN last c ws k j := by
  have hk' : k < (order last (rF c ws)).length := by rw [order_len]; exact hk
  unfold gotN nextN
  rw [dif_pos hk']
  by_cases hj : j < ws.length
  · simp only [dif_pos hj]
    rw [got_succ _ _ _ hk']
    by_cases e : j = ((order last (rF c ws))[k]).val
    · rw [if_pos e]
      have : (⟨j, hj⟩ : Fin ws.length) = (order last (rF c ws))[k] := Fin.ext e
      simp [this]
    · rw [if_neg e]
      have : ¬ (⟨j, hj⟩ : Fin ws.length) = (order last (rF c ws))[k] := fun h => e (congrArg Fin.val h)
      simp [this]
  · simp only [dif_neg hj]
    rw [if_neg]
    intro e
    exact hj (by rw [e]; exact Fin.isLt _)
theorem gotN_next (k : Nat) (hk : k < ws.length) : gotN last c ws k (nextN last c ws k) = false := by
  have hk' : k < (order last (rF c ws)).length := by rw [order_len]; exact hk
  unfold gotN
  rw [dif_pos (nextN_lt last c ws k hk)]
  have : (⟨nextN last c ws k, nextN_lt last c ws k hk⟩ : Fin ws.length) = (order last (rF c ws))[k] := Fin.ext (show nextN last c ws k = ((order last (rF c ws))[k]).val from dif_pos hk')
  rw [this]
  exact next_free _ _ _ hk'
/-- the search, at places -/
def BestN (k j : Nat) (b : Option Nat) : Prop := ∃ x : Option (Fin ws.length), Best last (rF c ws) k j x ∧ b = x.map (·.val)
theorem bestN_zero (k : Nat) : BestN last c ws k 0 none := ⟨none, best_zero _ _ _, rfl⟩
theorem bestN_end (k : Nat) (hk : k < ws.length) (b : Option Nat) (h : BestN last c ws k ws.length b) : b = some (nextN last c ws k) := by
  have hk' : k < (order last (rF c ws)).length := by rw [order_len]; exact hk
  obtain ⟨x, h1, rfl⟩ := h
  rw [best_end _ _ _ hk' x h1]
  unfold nextN
  rw [dif_pos hk']
  rfl
theorem bestN_lt (k j b : Nat) (h : BestN last c ws k j (some b)) : b < j ∧ b < ws.length := by
  obtain ⟨x, h1, h2⟩ := h
  cases x with
  | none => cases h2
  | some x =>
    obtain rfl : b = x.val := by simpa using h2
    exact ⟨h1.1, x.isLt⟩
theorem bestN_skip (k j : Nat) (hj : j < ws.length) (b : Option Nat) (h : BestN last c ws k j b) (hg : gotN last c ws k j = true) : BestN last c ws k (j + 1) b := by
  obtain ⟨x, h1, h2⟩ := h
  unfold gotN at hg
  rw [dif_pos hj] at hg
  exact ⟨x, best_skip _ _ _ j hj x h1 hg, h2⟩
theorem bestN_first (k j : Nat) (hj : j < ws.length) (h : BestN last c ws k j none) (hg : gotN last c ws k j = false) : BestN last c ws k (j + 1) (some j) := by
  obtain ⟨x, h1, h2⟩ := h
  unfold gotN at hg
  rw [dif_pos hj] at hg
  cases x with
  | none => exact ⟨some ⟨j, hj⟩, best_first _ _ _ j hj h1 hg, rfl⟩
  | some x => cases h2
theorem bestN_keep (k j b : Nat) (hj : j < ws.length) (h : BestN last c ws k j (some b)) (hp : ¬ (rN c ws b < rN c ws j ∨ last = true ∧ rN c ws j = rN c ws b)) : BestN last c ws k (j + 1) (some b) := by
  have hb := bestN_lt last c ws k j b h
  obtain ⟨x, h1, h2⟩ := h
  cases x with
  | none => cases h2
  | some x =>
    obtain rfl : b = x.val := by simpa using h2
    refine ⟨some x, best_keep _ _ _ j hj x h1 ?_, h2⟩
    rw [prec_not]
    unfold rF
    cases last <;> simp at * <;> omega
theorem bestN_take (k j b : Nat) (hj : j < ws.length) (h : BestN last c ws k j (some b)) (hg : gotN last c ws k j = false) (hp : rN c ws b < rN c ws j ∨ last = true ∧ rN c ws j = rN c ws b) : BestN last c ws k (j + 1) (some j) := by
  have hb := bestN_lt last c ws k j b h
  obtain ⟨x, h1, h2⟩ := h
  unfold gotN at hg
  rw [dif_pos hj] at hg
  cases x with
  | none => cases h2
  | some x =>
    obtain rfl : b = x.val := by simpa using h2
    refine ⟨some ⟨j, hj⟩, best_take _ _ _ j hj x h1 hg ?_, rfl⟩
    rw [prec_iff]
    unfold rF
    cases last <;> simp at * <;> omega
end
end Go.Proofs.YtdefjnefkdemiaaGreatDoor.Deal
