/- The drawn region of Stream.Gains (three stores behind three draws and two loads), by an invariant over which of its eight operations have come up. -/
import Derived.Test.YtdnikegakcdcnaaDoorInv
set_option linter.unusedVariables false
namespace Go.Proofs.YtdnikegakcdcnaaDoor
open Go.RowKit

section
variable {P : Program} {ops : Array Oper} {Q : Exit → Act → World → Prop}
def litG (b7 b8 b9 b11 b12 b17 b18 b19 : Bool) : Array Bool := #[true, true, true, true, true, true, true, b7, b8, b9, true, b11, b12, true, true, true, true, b17, b18, b19, false, false, false, false, false, false, false, false, false]
/-- what can have come up together -/
def okG (b7 b8 b9 b11 b12 b17 b18 b19 : Bool) : Bool := (!b8 || b7) && (!b9 || b8) && (!b12 || (b11 && b9)) && (!b18 || b17) && (!b19 || (b18 && b12))
theorem okG_7 {b8 b9 b11 b12 b17 b18 b19 : Bool} (h : okG false b8 b9 b11 b12 b17 b18 b19 = true) : okG true b8 b9 b11 b12 b17 b18 b19 = true := by
  revert h; cases b8 <;> cases b9 <;> cases b11 <;> cases b12 <;> cases b17 <;> cases b18 <;> cases b19 <;> decide
theorem okG_8 {b9 b11 b12 b17 b18 b19 : Bool} (h : okG true false b9 b11 b12 b17 b18 b19 = true) : okG true true b9 b11 b12 b17 b18 b19 = true := by
  revert h; cases b9 <;> cases b11 <;> cases b12 <;> cases b17 <;> cases b18 <;> cases b19 <;> decide
theorem okG_9 {b7 b11 b12 b17 b18 b19 : Bool} (h : okG b7 true false b11 b12 b17 b18 b19 = true) : okG b7 true true b11 b12 b17 b18 b19 = true := by
  revert h; cases b7 <;> cases b11 <;> cases b12 <;> cases b17 <;> cases b18 <;> cases b19 <;> decide
theorem okG_11 {b7 b8 b9 b12 b17 b18 b19 : Bool} (h : okG b7 b8 b9 false b12 b17 b18 b19 = true) : okG b7 b8 b9 true b12 b17 b18 b19 = true := by
  revert h; cases b7 <;> cases b8 <;> cases b9 <;> cases b12 <;> cases b17 <;> cases b18 <;> cases b19 <;> decide
theorem okG_12 {b7 b8 b17 b18 b19 : Bool} (h : okG b7 b8 true true false b17 b18 b19 = true) : okG b7 b8 true true true b17 b18 b19 = true := by
  revert h; cases b7 <;> cases b8 <;> cases b17 <;> cases b18 <;> cases b19 <;> decide
theorem okG_17 {b7 b8 b9 b11 b12 b18 b19 : Bool} (h : okG b7 b8 b9 b11 b12 false b18 b19 = true) : okG b7 b8 b9 b11 b12 true b18 b19 = true := by
  revert h; cases b7 <;> cases b8 <;> cases b9 <;> cases b11 <;> cases b12 <;> cases b18 <;> cases b19 <;> decide
theorem okG_18 {b7 b8 b9 b11 b12 b19 : Bool} (h : okG b7 b8 b9 b11 b12 true false b19 = true) : okG b7 b8 b9 b11 b12 true true b19 = true := by
  revert h; cases b7 <;> cases b8 <;> cases b9 <;> cases b11 <;> cases b12 <;> cases b19 <;> decide
theorem okG_19 {b7 b8 b9 b11 b17 : Bool} (h : okG b7 b8 b9 b11 true b17 true false = true) : okG b7 b8 b9 b11 true b17 true true = true := by
  revert h; cases b7 <;> cases b8 <;> cases b9 <;> cases b11 <;> cases b17 <;> decide
def rdyG (ops : Array Oper) (b7 b8 b9 b11 b12 b17 b18 b19 : Bool) : Bool :=
  !okG b7 b8 b9 b11 b12 b17 b18 b19 || (b7 && b8 && b9 && b11 && b12 && b17 && b18 && b19) || (!(Region.ready .any ops (litG b7 b8 b9 b11 b12 b17 b18 b19)).isEmpty && (Region.ready .any ops (litG b7 b8 b9 b11 b12 b17 b18 b19)).all fun i =>
    (i == 7 && !b7) || (i == 8 && !b8 && b7) || (i == 9 && !b9 && b8) || (i == 11 && !b11) || (i == 12 && !b12 && b11 && b9) || (i == 17 && !b17) || (i == 18 && !b18 && b17) || (i == 19 && !b19 && b18 && b12))
def posG (ops : Array Oper) : Bool :=
  [false, true].all fun b7 => [false, true].all fun b8 => [false, true].all fun b9 => [false, true].all fun b11 => [false, true].all fun b12 => [false, true].all fun b17 => [false, true].all fun b18 => [false, true].all fun b19 => rdyG ops b7 b8 b9 b11 b12 b17 b18 b19
theorem all_bool {f : Bool → Bool} (h : [false, true].all f = true) (b : Bool) : f b = true := by
  simp at h
  cases b
  · exact h.1
  · exact h.2
theorem posG_at (h : posG ops = true) (b7 b8 b9 b11 b12 b17 b18 b19 : Bool) : rdyG ops b7 b8 b9 b11 b12 b17 b18 b19 = true :=
  all_bool (all_bool (all_bool (all_bool (all_bool (all_bool (all_bool (all_bool h b7) b8) b9) b11) b12) b17) b18) b19

def cntG (b7 b8 b9 b11 b12 b17 b18 b19 : Bool) : Nat := (!b7).toNat + (!b8).toNat + (!b9).toNat + (!b11).toNat + (!b12).toNat + (!b17).toNat + (!b18).toNat + (!b19).toNat

theorem wpAny_gains {a0 : Act} {w0 : World} {listed0 : Array Bool} (ds : List Nat) (v0 : Nat → Value) (J : Bool → Bool → Bool → Bool → Bool → Bool → Bool → Bool → (Nat → Value) → World → Prop)
    (hl : listed0 = litG false false false false false false false false) (ha : a0 = setAll a0 ds v0) (hpos : posG ops = true) (hst : J false false false false false false false false v0 w0)
    (s7 : ∀ b8 b9 b11 b12 b17 b18 b19 v w, J false b8 b9 b11 b12 b17 b18 b19 v w → wpOp P ops Q 7 (fun a' w' => ∃ v', a' = setAll a0 ds v' ∧ J true b8 b9 b11 b12 b17 b18 b19 v' w') (setAll a0 ds v) w)
    (s8 : ∀ b9 b11 b12 b17 b18 b19 v w, J true false b9 b11 b12 b17 b18 b19 v w → wpOp P ops Q 8 (fun a' w' => ∃ v', a' = setAll a0 ds v' ∧ J true true b9 b11 b12 b17 b18 b19 v' w') (setAll a0 ds v) w)
    (s9 : ∀ b7 b11 b12 b17 b18 b19 v w, J b7 true false b11 b12 b17 b18 b19 v w → wpOp P ops Q 9 (fun a' w' => ∃ v', a' = setAll a0 ds v' ∧ J b7 true true b11 b12 b17 b18 b19 v' w') (setAll a0 ds v) w)
    (s11 : ∀ b7 b8 b9 b12 b17 b18 b19 v w, J b7 b8 b9 false b12 b17 b18 b19 v w → wpOp P ops Q 11 (fun a' w' => ∃ v', a' = setAll a0 ds v' ∧ J b7 b8 b9 true b12 b17 b18 b19 v' w') (setAll a0 ds v) w)
    (s12 : ∀ b7 b8 b17 b18 b19 v w, J b7 b8 true true false b17 b18 b19 v w → wpOp P ops Q 12 (fun a' w' => ∃ v', a' = setAll a0 ds v' ∧ J b7 b8 true true true b17 b18 b19 v' w') (setAll a0 ds v) w)
    (s17 : ∀ b7 b8 b9 b11 b12 b18 b19 v w, J b7 b8 b9 b11 b12 false b18 b19 v w → wpOp P ops Q 17 (fun a' w' => ∃ v', a' = setAll a0 ds v' ∧ J b7 b8 b9 b11 b12 true b18 b19 v' w') (setAll a0 ds v) w)
    (s18 : ∀ b7 b8 b9 b11 b12 b19 v w, J b7 b8 b9 b11 b12 true false b19 v w → wpOp P ops Q 18 (fun a' w' => ∃ v', a' = setAll a0 ds v' ∧ J b7 b8 b9 b11 b12 true true b19 v' w') (setAll a0 ds v) w)
    (s19 : ∀ b7 b8 b9 b11 b17 v w, J b7 b8 b9 b11 true b17 true false v w → wpOp P ops Q 19 (fun a' w' => ∃ v', a' = setAll a0 ds v' ∧ J b7 b8 b9 b11 true b17 true true v' w') (setAll a0 ds v) w)
    (hend : ∀ v w, J true true true true true true true true v w → wpAny P .any ops Q 9 (litG true true true true true true true true) (setAll a0 ds v) w) :
    wpAny P .any ops Q 17 listed0 a0 w0 := by
  subst hl
  refine wpAny_inv ds v0 (fun fuel listed v w => ∃ b7 b8 b9 b11 b12 b17 b18 b19, listed = litG b7 b8 b9 b11 b12 b17 b18 b19 ∧ fuel = 9 + cntG b7 b8 b9 b11 b12 b17 b18 b19 ∧ okG b7 b8 b9 b11 b12 b17 b18 b19 = true ∧ J b7 b8 b9 b11 b12 b17 b18 b19 v w) ha ⟨false, false, false, false, false, false, false, false, rfl, rfl, rfl, hst⟩ ?_
  rintro fuel listed v w ⟨b7, b8, b9, b11, b12, b17, b18, b19, rfl, hf, hok, hJ⟩
  have hr := posG_at hpos b7 b8 b9 b11 b12 b17 b18 b19
  unfold rdyG at hr
  cases hall : (b7 && b8 && b9 && b11 && b12 && b17 && b18 && b19) with
  | true =>
    simp only [Bool.and_eq_true] at hall
    obtain ⟨⟨⟨⟨⟨⟨⟨rfl, rfl⟩, rfl⟩, rfl⟩, rfl⟩, rfl⟩, rfl⟩, rfl⟩ := hall
    left
    subst hf
    exact hend v w hJ
  | false =>
    rw [hall, hok, Bool.not_true, Bool.false_or, Bool.false_or, Bool.and_eq_true, List.all_eq_true] at hr
    obtain ⟨h1, h2⟩ := hr
    refine .inr ⟨fuel - 1, by omega, fun h => by rw [h] at h1; simp at h1, fun i hi => ?_⟩
    have h3 := h2 i hi
    simp only [Bool.or_eq_true, Bool.and_eq_true, beq_iff_eq, Bool.not_eq_true'] at h3
    rcases h3 with ((((((⟨rfl, rfl⟩ | ⟨⟨rfl, rfl⟩, rfl⟩) | ⟨⟨rfl, rfl⟩, rfl⟩) | ⟨rfl, rfl⟩) | ⟨⟨⟨rfl, rfl⟩, rfl⟩, rfl⟩) | ⟨rfl, rfl⟩) | ⟨⟨rfl, rfl⟩, rfl⟩) | ⟨⟨⟨rfl, rfl⟩, rfl⟩, rfl⟩
    · exact wpOp_mono (fun a' w' ⟨v', e, h⟩ => ⟨v', e, _, _, _, _, _, _, _, _, rfl, by simp [cntG] at hf ⊢; omega, okG_7 hok, h⟩) (s7 _ _ _ _ _ _ _ v w hJ)
    · exact wpOp_mono (fun a' w' ⟨v', e, h⟩ => ⟨v', e, _, _, _, _, _, _, _, _, rfl, by simp [cntG] at hf ⊢; omega, okG_8 hok, h⟩) (s8 _ _ _ _ _ _ v w hJ)
    · exact wpOp_mono (fun a' w' ⟨v', e, h⟩ => ⟨v', e, _, _, _, _, _, _, _, _, rfl, by simp [cntG] at hf ⊢; omega, okG_9 hok, h⟩) (s9 _ _ _ _ _ _ v w hJ)
    · exact wpOp_mono (fun a' w' ⟨v', e, h⟩ => ⟨v', e, _, _, _, _, _, _, _, _, rfl, by simp [cntG] at hf ⊢; omega, okG_11 hok, h⟩) (s11 _ _ _ _ _ _ _ v w hJ)
    · exact wpOp_mono (fun a' w' ⟨v', e, h⟩ => ⟨v', e, _, _, _, _, _, _, _, _, rfl, by simp [cntG] at hf ⊢; omega, okG_12 hok, h⟩) (s12 _ _ _ _ _ v w hJ)
    · exact wpOp_mono (fun a' w' ⟨v', e, h⟩ => ⟨v', e, _, _, _, _, _, _, _, _, rfl, by simp [cntG] at hf ⊢; omega, okG_17 hok, h⟩) (s17 _ _ _ _ _ _ _ v w hJ)
    · exact wpOp_mono (fun a' w' ⟨v', e, h⟩ => ⟨v', e, _, _, _, _, _, _, _, _, rfl, by simp [cntG] at hf ⊢; omega, okG_18 hok, h⟩) (s18 _ _ _ _ _ _ v w hJ)
    · exact wpOp_mono (fun a' w' ⟨v', e, h⟩ => ⟨v', e, _, _, _, _, _, _, _, _, rfl, by simp [cntG] at hf ⊢; omega, okG_19 hok, h⟩) (s19 _ _ _ _ _ v w hJ)
end
end Go.Proofs.YtdnikegakcdcnaaDoor
