/- The code points of a text, as plain lists: none of them is a control sign just where the text is UTF-8 without control bytes. -/
import Derived.Test.YtdiioecpponnmaaGreatDoorCndP
import Derived.Lib.TrimU
import Derived.Lib.ValidU
set_option linter.unusedVariables false
namespace Go.Proofs.YtdiioecpponnmaaGreatDoor
open Go.RowKit Go.Lib

theorem decN_shape (n b0 b1 b2 b3 : Nat) (hn : 1 ≤ n) :
    (b0 < 128 ∧ decodeN n b0 b1 b2 b3 = (b0, 1)) ∨ (128 ≤ b0 ∧ decodeN n b0 b1 b2 b3 = (65533, 1)) ∨
      (128 ≤ b0 ∧ 128 ≤ (decodeN n b0 b1 b2 b3).1 ∧ 2 ≤ (decodeN n b0 b1 b2 b3).2 ∧ (decodeN n b0 b1 b2 b3).2 ≤ 4 ∧ (decodeN n b0 b1 b2 b3).2 ≤ n ∧ 128 ≤ b1 ∧ (2 < (decodeN n b0 b1 b2 b3).2 → 128 ≤ b2) ∧ (3 < (decodeN n b0 b1 b2 b3).2 → 128 ≤ b3)) := by
  unfold decodeN
  by_cases h0 : b0 < 128
  · rw [if_pos h0]; exact .inl ⟨h0, rfl⟩
  · rw [if_neg h0]
    refine .inr ?_
    split
    · split
      · refine .inr ⟨by omega, ?_, ?_, ?_, ?_, by omega, ?_, ?_⟩ <;> simp only <;> omega
      · exact .inl ⟨by omega, rfl⟩
    · split
      · split
        · refine .inr ⟨by omega, ?_, ?_, ?_, ?_, by omega, ?_, ?_⟩ <;> simp only <;> omega
        · exact .inl ⟨by omega, rfl⟩
      · split
        · split
          · refine .inr ⟨by omega, ?_, ?_, ?_, ?_, by omega, ?_, ?_⟩ <;> simp only <;> omega
          · exact .inl ⟨by omega, rfl⟩
        · exact .inl ⟨by omega, rfl⟩
theorem get_list (l : List UInt8) (j : Nat) (h : j < l.length) : (⟨l.toArray⟩ : ByteArray).get! j = l[j] := by
  have e : (⟨l.toArray⟩ : ByteArray).size = l.length := by simp [ByteArray.size]
  rw [Utf8W.get!_of_lt _ _ (by rw [e]; exact h)]
  show l.toArray[j]'(by simpa using h) = l[j]
  exact List.getElem_toArray _
/-- a byte that is no control sign -/
def bytB (b : UInt8) : Bool := decide (32 ≤ b.toNat) && !decide (b.toNat = 127)
theorem decL_shape (l : List UInt8) (h : 0 < l.length) :
    (l[0].toNat < 128 ∧ decodeL l = (l[0].toNat, 1)) ∨ (128 ≤ l[0].toNat ∧ decodeL l = (65533, 1)) ∨
      (128 ≤ (decodeL l).1 ∧ 2 ≤ (decodeL l).2 ∧ (decodeL l).2 ≤ l.length ∧ ∀ b ∈ l.take (decodeL l).2, bytB b = true) := by
  have e0 : (⟨l.toArray⟩ : ByteArray).size = l.length := by simp [ByteArray.size]
  have e : decodeL l = decodeN l.length ((⟨l.toArray⟩ : ByteArray).get! 0).toNat ((⟨l.toArray⟩ : ByteArray).get! 1).toNat ((⟨l.toArray⟩ : ByteArray).get! 2).toNat ((⟨l.toArray⟩ : ByteArray).get! 3).toNat := by
    unfold decodeL
    rw [decode_at, e0]
    rfl
  rw [e]
  have hb0 := get_list l 0 h
  rcases decN_shape l.length ((⟨l.toArray⟩ : ByteArray).get! 0).toNat ((⟨l.toArray⟩ : ByteArray).get! 1).toNat ((⟨l.toArray⟩ : ByteArray).get! 2).toNat ((⟨l.toArray⟩ : ByteArray).get! 3).toNat (by omega) with ⟨h1, h2⟩ | ⟨h1, h2⟩ | ⟨h1, h2, h3, h4, h5, h6, h7, h8⟩
  · rw [h2, ← hb0]; exact .inl ⟨h1, rfl⟩
  · rw [h2, ← hb0]; exact .inr (.inl ⟨h1, rfl⟩)
  · refine .inr (.inr ⟨h2, h3, h5, fun b hb => ?_⟩)
    obtain ⟨j, hj, rfl⟩ := List.mem_iff_getElem.1 hb
    rw [List.length_take] at hj
    have hjl : j < l.length := by omega
    rw [List.getElem_take, ← get_list l j hjl]
    have : 128 ≤ ((⟨l.toArray⟩ : ByteArray).get! j).toNat := by
      have hj4 : j < 4 := by omega
      match j, hj, hj4 with
      | 0, _, _ => exact h1
      | 1, _, _ => exact h6
      | 2, hj, _ => exact h7 (by omega)
      | 3, hj, _ => exact h8 (by omega)
    unfold bytB
    rw [decide_eq_true (by omega), decide_eq_false (by omega)]
    rfl
/-- the code points; bytes that are wrong are told by a number below nought -/
def ptsL : Nat → List UInt8 → List Int
  | 0, _ => []
  | n + 1, l => if l = [] then [] else (if (decodeL l).1 = 65533 ∧ (decodeL l).2 = 1 then -1 - ((l.getD 0 0).toNat : Int) else ((decodeL l).1 : Int)) :: ptsL n (l.drop (decodeL l).2)
def ptB (p : Int) : Bool := decide (32 ≤ p) && !decide (p = 127)
theorem pts_same : ∀ (n : Nat) (l : List UInt8), l.length ≤ n → (ptsL n l).all ptB = (validGoD n l && l.all bytB)
  | 0, l, h => by
    obtain rfl := List.eq_nil_of_length_eq_zero (by omega : l.length = 0)
    rfl
  | n + 1, l, h => by
    by_cases h0 : l = []
    · subst h0; rfl
    · have hl : 0 < l.length := by cases l with
        | nil => exact absurd rfl h0
        | cons _ _ => simp
      unfold ptsL validGoD
      rw [if_neg h0, if_neg h0]
      rcases decL_shape l hl with ⟨h1, h2⟩ | ⟨h1, h2⟩ | ⟨h1, h2, h3, h4⟩
      · rw [h2]
        have hne : ¬ (l[0].toNat = 65533 ∧ (1 : Nat) = 1) := by omega
        rw [if_neg hne, if_neg hne, List.all_cons, pts_same n (l.drop 1) (by rw [List.length_drop]; omega)]
        have hc : l = l[0] :: l.drop 1 := by
          have := List.drop_eq_getElem_cons hl
          simpa using this
        have hall : l.all bytB = (bytB l[0] && (l.drop 1).all bytB) := by
          conv => lhs; rw [hc]
          rw [List.all_cons]
        have hp : ptB ((l[0].toNat : Nat) : Int) = bytB l[0] := by
          unfold ptB bytB
          rw [decide_eq_decide.2 (show (32 : Int) ≤ (l[0].toNat : Nat) ↔ 32 ≤ l[0].toNat by omega), decide_eq_decide.2 (show ((l[0].toNat : Nat) : Int) = 127 ↔ l[0].toNat = 127 by omega)]
        rw [hall]
        show (ptB ((l[0].toNat : Nat) : Int) && _) = _
        rw [hp]
        cases bytB l[0] <;> cases validGoD n (l.drop 1) <;> rfl
      · rw [h2]
        rw [if_pos ⟨rfl, rfl⟩, if_pos ⟨rfl, rfl⟩, List.all_cons]
        have : ptB (-1 - ((l.getD 0 0).toNat : Int)) = false := by
          unfold ptB
          rw [decide_eq_false (by omega)]
          rfl
        rw [this]
        rfl
      · have hne : ¬ ((decodeL l).1 = 65533 ∧ (decodeL l).2 = 1) := by omega
        rw [if_neg hne, if_neg hne, List.all_cons, pts_same n (l.drop (decodeL l).2) (by rw [List.length_drop]; omega)]
        have hall : l.all bytB = (l.drop (decodeL l).2).all bytB := by
          conv => lhs; rw [← List.take_append_drop (decodeL l).2 l]
          rw [List.all_append, List.all_eq_true.2 h4, Bool.true_and]
        have hp : ptB ((decodeL l).1 : Int) = true := by
          unfold ptB
          rw [decide_eq_true (by omega), decide_eq_false (by omega)]
          rfl
        rw [hp, hall, Bool.true_and]
/-- the reference's test of a text is the program's -/
theorem txB_pts (s : ByteArray) : (ptsL s.data.toList.length s.data.toList).all ptB = txB s := pts_same _ _ (Nat.le_refl _)
theorem ptsL_len : ∀ (n : Nat) (l : List UInt8), (ptsL n l).length ≤ n
  | 0, _ => Nat.le_refl _
  | n + 1, l => by
    unfold ptsL
    split
    · simp
    · have := ptsL_len n (l.drop (decodeL l).2)
      simp only [List.length_cons]
      omega
end Go.Proofs.YtdiioecpponnmaaGreatDoor
