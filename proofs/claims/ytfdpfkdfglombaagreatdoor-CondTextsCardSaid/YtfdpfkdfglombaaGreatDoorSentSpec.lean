/- Letters that were sent, and gains, as records; what is wrong with a list of them, in plain words. -/
import Derived.Test.YtfdpfkdfglombaaGreatDoorRecs
import Derived.Test.YtfdpfkdfglombaaGreatDoorSeen
import Derived.Test.YtfdpfkdfglombaaGreatDoorKeyOf
import Derived.Test.YtfdpfkdfglombaaGreatDoorMoment
set_option linter.unusedVariables false
namespace Go.Proofs.YtfdpfkdfglombaaGreatDoor
open Go.RowKit

structure Snt where
  id : ByteArray
  person : ByteArray
  letter : ByteArray
  at_ : Int
def Snt.cells (x : Snt) : List Value := [.string x.id, .string x.person, .string x.letter, .int .i64 x.at_]
def Snt.ok (x : Snt) : Prop := x.id.size ≤ 100 ∧ x.person.size ≤ 100 ∧ x.letter.size ≤ 100 ∧ -9223372036854775808 ≤ x.at_ ∧ x.at_ ≤ 9223372036854775807
theorem Snt.len (x : Snt) : x.cells.length = 4 := rfl

/-- what is wrong with a letter, told from six answers -/
def sE (b1 b2 b3 b4 b5 b6 : Bool) : Int := if b1 = false then 5 else if b2 then 6 else if b3 = false then 5 else if b4 = false then 5 else if b5 = false then 1 else if b6 then 7 else 0
def lateB (pre : List Snt) (x : Snt) : Bool := match pre.getLast? with
  | some y => decide (x.at_ < y.at_)
  | none => false
def stepE (pre : List Snt) (x : Snt) : Int := sE (keyB x.id) (hasS (pre.map Snt.id) x.id) (keyB x.person) (keyB x.letter) (momB x.at_) (lateB pre x)
def sentGo : List Snt → List Snt → Int
  | _, [] => 0
  | pre, x :: r => if stepE pre x = 0 then sentGo (pre ++ [x]) r else stepE pre x
def sentE (l : List Snt) : Int := sentGo [] l
/-- the ids of the first k -/
def idsOf (l : List Snt) (k : Nat) : List ByteArray := (l.take k).map Snt.id
theorem idsOf_succ (l : List Snt) (k : Nat) (hk : k < l.length) : idsOf l (k + 1) = idsOf l k ++ [l[k].id] := by
  unfold idsOf
  rw [List.take_succ_eq_append_getElem hk, List.map_append]
  rfl
/-- so far nothing is wrong -/
def SentInv (l : List Snt) (k : Nat) : Prop := sentE l = sentGo (l.take k) (l.drop k)
theorem SentInv.zero (l : List Snt) : SentInv l 0 := rfl
theorem SentInv.step {l : List Snt} {k : Nat} (h : SentInv l k) (hk : k < l.length) : (stepE (l.take k) l[k] ≠ 0 → sentE l = stepE (l.take k) l[k]) ∧ (stepE (l.take k) l[k] = 0 → SentInv l (k + 1)) := by
  unfold SentInv at *
  rw [List.drop_eq_getElem_cons hk, sentGo] at h
  refine ⟨fun h0 => ?_, fun h0 => ?_⟩
  · rw [h, if_neg h0]
  · rw [h, if_pos h0, List.take_succ_eq_append_getElem hk]
theorem SentInv.done {l : List Snt} {k : Nat} (h : SentInv l k) (hk : l.length ≤ k) : sentE l = 0 := by
  unfold SentInv at h
  rw [h, List.drop_of_length_le hk]
  cases l.take k <;> rfl
theorem late_zero (l : List Snt) (x : Snt) : lateB (l.take 0) x = false := by simp [lateB]
theorem late_succ (l : List Snt) (x : Snt) (k : Nat) (h0 : 0 < k) (hk : k - 1 < l.length) : lateB (l.take k) x = decide (x.at_ < l[k - 1].at_) := by
  obtain ⟨j, rfl⟩ : ∃ j, k = j + 1 := ⟨k - 1, by omega⟩
  have hk' : j < l.length := by simpa using hk
  have e : (l.take (j + 1)).getLast? = some l[j] := by rw [List.take_succ_eq_append_getElem hk', List.getLast?_concat]
  unfold lateB
  rw [e]
  rfl
end Go.Proofs.YtfdpfkdfglombaaGreatDoor
