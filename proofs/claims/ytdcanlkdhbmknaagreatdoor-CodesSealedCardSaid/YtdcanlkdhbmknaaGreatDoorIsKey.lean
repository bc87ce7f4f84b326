/- person.IsKey and handref2.Key: both answer keyB, a plain predicate of the bytes. -/
import Derived.Test.YtdcanlkdhbmknaaGreatDoorStream
import Derived.Test.YtdcanlkdhbmknaaGreatDoorShelf
import Derived.Shelf.Strings.SlTrimAscii
set_option linter.unusedVariables false
namespace Go.Proofs.YtdcanlkdhbmknaaGreatDoor
open Go.RowKit

def smallB (c : UInt8) : Bool := decide (97 ≤ c.toNat ∧ c.toNat ≤ 122)
def digitB (c : UInt8) : Bool := decide (48 ≤ c.toNat ∧ c.toNat ≤ 57)
def keyC (c : UInt8) : Bool := smallB c || digitB c || decide (c.toNat = 45) || decide (c.toNat = 95)

/-- all the bytes of a string are bytes of keys -/
def allK (s : ByteArray) : Bool := s.data.toList.all keyC
/-- a string is a key -/
def keyB (s : ByteArray) : Bool := decide (1 ≤ s.size ∧ s.size ≤ 40) && smallB (s.data.toList.getD 0 0) && allK s

theorem take_all (s : ByteArray) (k : Nat) (h : k < s.size) : (s.data.toList.take (k + 1)).all keyC = ((s.data.toList.take k).all keyC && keyC s[k]) := by
  rw [List.take_succ_eq_append_getElem (by simpa using h), List.all_append]
  simp
  rfl
theorem allK_of_take (s : ByteArray) (k : Nat) (h : s.size ≤ k) : (s.data.toList.take k).all keyC = allK s := by
  rw [List.take_of_length_le (by simpa using h)]; rfl
theorem allK_no (s : ByteArray) (k : Nat) (h : k < s.size) (hc : keyC s[k] = false) : allK s = false := by
  have e := take_all s k h
  rw [hc, Bool.and_false] at e
  unfold allK
  rw [← List.take_append_drop (k + 1) s.data.toList, List.all_append, e]
  rfl

theorem getD0 (s : ByteArray) (h : 0 < s.size) : s.data.toList.getD 0 0 = s[0] := by
  rw [List.getD_eq_getElem?_getD, List.getElem?_eq_getElem (by simpa using h)]
  rfl

end Go.Proofs.YtdcanlkdhbmknaaGreatDoor
