/- Tags of offers and items: what is wrong with them, in plain words. -/
import Derived.Test.YtmhnnbffhciinaaDoorBudSpec
import Derived.WalkLawsBesides
set_option linter.unusedVariables false
namespace Go.Proofs.YtmhnnbffhciinaaDoor
open Go.RowKit

/-- what is wrong with one tag: its form; its place behind the tag before it -/
def tE (b1 : Bool) (b2 : Bool) : Int := if b1 = false then 5 else if b2 = true then 7 else 0
/-- the order of strings, as the walk spells it -/
def leS (a b : ByteArray) : Bool := Op.bytesLess a.toList b.toList || a.toList == b.toList
def tstepE (l : List ByteArray) (i : Nat) : Int :=
  tE (keyB (l.getD i ⟨#[]⟩)) (decide (0 < i) && leS (l.getD i ⟨#[]⟩) (l.getD (i - 1) ⟨#[]⟩))
def tgGo (l : List ByteArray) : Nat → Nat → Int
  | 0, _ => 0
  | f + 1, i => if tstepE l i = 0 then tgGo l f (i + 1) else tstepE l i
def tgE (l : List ByteArray) : Int := if 10 < l.length then 2 else tgGo l l.length 0
theorem tgGo_step (l : List ByteArray) (k : Nat) (h : k < l.length) : tgGo l (l.length - k) k = if tstepE l k = 0 then tgGo l (l.length - (k + 1)) (k + 1) else tstepE l k := by
  rw [show l.length - k = (l.length - (k + 1)) + 1 by omega]; rfl
end Go.Proofs.YtmhnnbffhciinaaDoor
