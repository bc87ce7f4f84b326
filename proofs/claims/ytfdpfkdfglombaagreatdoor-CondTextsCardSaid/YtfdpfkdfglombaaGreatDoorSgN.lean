/- segment.checkNode: what is wrong with a condition, without those in it. -/
import Derived.Test.YtfdpfkdfglombaaGreatDoorSgC
import Derived.Deep.Cut
import Derived.Deep.CutBlock
import Derived.Deep.DeepCutAuto
set_option linter.unusedVariables false
namespace Go.Proofs.YtfdpfkdfglombaaGreatDoor
open Go.RowKit

/-- a value of a condition: what is wrong with it, and with its kind -/
def vtE (t : Bool) (v : Vl) : Int := if vlE v ≠ 0 then vlE v else if (t && (v.kind != 1)) = true then 10 else 0
theorem vtE_false (v : Vl) : vtE false v = vlE v := by
  unfold vtE
  by_cases h : vlE v = 0
  · rw [if_neg (by simpa using h), h]; rfl
  · rw [if_pos h]
theorem fstE_congr {α : Type} {f g : α → Int} (h : ∀ x, f x = g x) : ∀ l : List α, fstE f l = fstE g l
  | [] => rfl
  | x :: r => by unfold fstE; rw [h x, fstE_congr h r]
theorem vtE_list (t : Bool) (l : List Vl) (ht : t = true → l.length = 1) : fstE (vtE t) l = if fstE vlE l ≠ 0 then fstE vlE l else if (t && ((l.getD 0 default).kind != 1)) = true then 10 else 0 := by
  cases t with
  | false =>
    rw [fstE_congr vtE_false]
    by_cases h : fstE vlE l = 0
    · rw [if_neg (by simpa using h), h]; rfl
    · rw [if_pos h]
  | true =>
    match l, ht rfl with
    | [v], _ =>
      show (if vtE true v = 0 then 0 else vtE true v) = if (if vlE v = 0 then 0 else vlE v) ≠ 0 then (if vlE v = 0 then 0 else vlE v) else if (true && (v.kind != 1)) = true then 10 else 0
      unfold vtE
      generalize vlE v = E
      generalize (v.kind != 1) = b
      by_cases h : E = 0
      · subst h; cases b <;> rfl
      · simp [h]
theorem ite_law (F W : Int) (P Q : Prop) [Decidable P] [Decidable Q] (T Q' : Bool) (h1 : P ↔ T = true) (h2 : Q ↔ Q' = true) :
    (if F ≠ 0 then F else if P then 10 else if W ≠ 0 then W else if Q then 1 else 0) = if (if F ≠ 0 then F else if T = true then 10 else 0) ≠ 0 then (if F ≠ 0 then F else if T = true then 10 else 0) else if W ≠ 0 then W else if Q' = true then (1 : Int) else 0 := by
  by_cases hF : F = 0
  · subst hF
    by_cases hP : P
    · have hT := h1.1 hP
      simp [hP, hT]
    · have hT : T = false := Bool.eq_false_iff.2 fun h => hP (h1.2 h)
      by_cases hQ : Q
      · have hq := h2.1 hQ
        simp [hP, hT, hQ, hq]
      · have hq : Q' = false := Bool.eq_false_iff.2 fun h => hQ (h2.2 h)
        simp [hP, hT, hQ, hq]
  · rw [if_pos hF, if_pos hF, if_pos hF]
/-- the kinds whose values are texts -/
def tkB (k : Int) : Bool := k == 9 || k == 10
/-- the head -/
def hdE (x : Nd) (na : Nat) : Int :=
  if frmB x na = false then 3 else if ((uNm x.kind && !nmB x.name) || (uFd x.kind && !nmB x.field)) = true then 5 else if (uSg x.kind && !hasS sgnL x.sign) = true then 4 else 0
theorem frm_one {x : Nd} {na : Nat} (h : frmB x na = true) (ht : tkB x.kind = true) : x.vals.length = 1 := by
  unfold frmB at h
  simp only [Bool.and_eq_true, decide_eq_true_eq] at h
  obtain ⟨⟨⟨_, h1, h2⟩, _⟩, _⟩ := h
  unfold tkB at ht
  simp only [Bool.or_eq_true, beq_iff_eq] at ht
  rcases ht with e | e
  all_goals
    rw [e] at h1 h2
    simp only [loVs, hiVs] at h1 h2
    simp at h1 h2
    omega
theorem ndE_spell (x : Nd) (na : Nat) (h1 : 1 ≤ x.kind) (h2 : x.kind ≤ 14) : ndE x na = if hdE x na ≠ 0 then hdE x na else if fstE (vtE (tkB x.kind)) x.vals ≠ 0 then fstE (vtE (tkB x.kind)) x.vals else if fstE whE x.whs ≠ 0 then fstE whE x.whs else
    if (!decide (0 ≤ x.within ∧ x.within ≤ 4321440) || !decide (loNu x.kind ≤ x.number ∧ x.number ≤ hiNu x.kind)) = true then 1 else 0 := by
  unfold ndE hdE
  rw [if_neg (by omega)]
  cases hf : frmB x na with
  | false => simp
  | true =>
    simp only [Bool.true_eq_false, if_false]
    have e5 : ((uNm x.kind = true ∧ nmB x.name = false) ∨ (uFd x.kind = true ∧ nmB x.field = false)) ↔ ((uNm x.kind && !nmB x.name) || (uFd x.kind && !nmB x.field)) = true := by simp
    have e4 : (uSg x.kind = true ∧ hasS sgnL x.sign = false) ↔ (uSg x.kind && !hasS sgnL x.sign) = true := by simp
    by_cases h5 : ((uNm x.kind && !nmB x.name) || (uFd x.kind && !nmB x.field)) = true
    · rw [if_pos (e5.2 h5), if_pos h5]; simp
    · rw [if_neg (fun h => h5 (e5.1 h)), if_neg h5]
      by_cases h4 : (uSg x.kind && !hasS sgnL x.sign) = true
      · rw [if_pos (e4.2 h4), if_pos h4]; simp
      · rw [if_neg (fun h => h4 (e4.1 h)), if_neg h4]
        rw [vtE_list (tkB x.kind) x.vals (fun ht => frm_one hf ht)]
        rw [if_neg (show ¬ ((0 : Int) ≠ 0) from fun h => h rfl)]
        have et : (x.kind = 9 ∨ x.kind = 10) ∧ (x.vals.getD 0 default).kind ≠ 1 ↔ (tkB x.kind && ((x.vals.getD 0 default).kind != 1)) = true := by unfold tkB; simp
        exact ite_law _ _ _ _ _ _ et (by
          simp only [Bool.or_eq_true, Bool.not_eq_true', decide_eq_false_iff_not]
          constructor
          · rintro (h | h)
            · exact .inl (by omega)
            · exact .inr (by omega)
          · rintro (h | h)
            · exact .inl (by omega)
            · exact .inr (by omega))
end Go.Proofs.YtfdpfkdfglombaaGreatDoor
