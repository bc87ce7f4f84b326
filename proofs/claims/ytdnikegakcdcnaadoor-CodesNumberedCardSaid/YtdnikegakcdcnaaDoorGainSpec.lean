/- Gains as records; what is wrong with a list of them, in plain words. -/
import Derived.Test.YtdnikegakcdcnaaDoorSentSpec
set_option linter.unusedVariables false
namespace Go.Proofs.YtdnikegakcdcnaaDoor
open Go.RowKit

structure Gn where
  id : ByteArray
  person : ByteArray
  at_ : Int
  cents : Int
def Gn.cells (x : Gn) : List Value := [.string x.id, .string x.person, .int .i64 x.at_, .int .i64 x.cents]
def Gn.ok (x : Gn) : Prop := x.id.size ≤ 100 ∧ x.person.size ≤ 100 ∧ -9223372036854775808 ≤ x.at_ ∧ x.at_ ≤ 9223372036854775807 ∧ -9223372036854775808 ≤ x.cents ∧ x.cents ≤ 9223372036854775807
theorem Gn.len (x : Gn) : x.cells.length = 4 := rfl

def centB (n : Int) : Bool := decide (0 ≤ n ∧ n ≤ 1000000000000)
def gE (b1 b2 b3 b4 b5 : Bool) : Int := if b1 = false then 5 else if b2 then 6 else if b3 = false then 5 else if b4 = false then 1 else if b5 = false then 1 else 0
def gidsOf (l : List Gn) (k : Nat) : List ByteArray := (l.take k).map Gn.id
theorem gidsOf_succ (l : List Gn) (k : Nat) (hk : k < l.length) : gidsOf l (k + 1) = gidsOf l k ++ [l[k].id] := by
  unfold gidsOf
  rw [List.take_succ_eq_append_getElem hk, List.map_append]
  rfl
theorem gidsOf_take (l : List Gn) (k : Nat) : gidsOf (l.take k) (l.take k).length = gidsOf l k := by
  unfold gidsOf
  rw [List.take_length]
def gstepE (pre : List Gn) (x : Gn) : Int := gE (keyB x.id) (hasS (pre.map Gn.id) x.id) (keyB x.person) (momB x.at_) (centB x.cents)
def gainGo : List Gn → List Gn → Int
  | _, [] => 0
  | pre, x :: r => if gstepE pre x = 0 then gainGo (pre ++ [x]) r else gstepE pre x
def gainE (l : List Gn) : Int := gainGo [] l
def GainInv (l : List Gn) (k : Nat) : Prop := gainE l = gainGo (l.take k) (l.drop k)
theorem GainInv.zero (l : List Gn) : GainInv l 0 := rfl
theorem GainInv.step {l : List Gn} {k : Nat} (h : GainInv l k) (hk : k < l.length) : (gstepE (l.take k) l[k] ≠ 0 → gainE l = gstepE (l.take k) l[k]) ∧ (gstepE (l.take k) l[k] = 0 → GainInv l (k + 1)) := by
  unfold GainInv at *
  rw [List.drop_eq_getElem_cons hk, gainGo] at h
  refine ⟨fun h0 => ?_, fun h0 => ?_⟩
  · rw [h, if_neg h0]
  · rw [h, if_pos h0, List.take_succ_eq_append_getElem hk]
theorem GainInv.done {l : List Gn} {k : Nat} (h : GainInv l k) (hk : l.length ≤ k) : gainE l = 0 := by
  unfold GainInv at h
  rw [h, List.drop_of_length_le hk]
  cases l.take k <;> rfl
end Go.Proofs.YtdnikegakcdcnaaDoor
