/- Budgets and holds as records; what is done with them, in plain words. -/
import Derived.Test.YtmhnnbffhciinaaDoorSentSpec
import Derived.Test.YtmhnnbffhciinaaDoorIdx
set_option linter.unusedVariables false
namespace Go.Proofs.YtmhnnbffhciinaaDoor
open Go.RowKit

structure Bd where
  key : ByteArray
  cents : Int
  first : Int
  last : Int
  pace : Bool
def Bd.cells (x : Bd) : List Value := [.string x.key, .int .i64 x.cents, .int .i64 x.first, .int .i64 x.last, .bool x.pace]
def Bd.ok (x : Bd) : Prop := x.key.size ≤ 100 ∧ -2000000000000 ≤ x.cents ∧ x.cents ≤ 2000000000000 ∧ -100000 ≤ x.first ∧ x.first ≤ 100001 ∧ -100000 ≤ x.last ∧ x.last ≤ 100000
theorem Bd.len (x : Bd) : x.cells.length = 5 := rfl
structure Hd where
  no : Int
  key : ByteArray
  cents : Int
  at_ : Int
  until_ : Int
  state : Int
def Hd.cells (x : Hd) : List Value := [.int .i64 x.no, .string x.key, .int .i64 x.cents, .int .i64 x.at_, .int .i64 x.until_, .int .i64 x.state]
def Hd.ok (x : Hd) : Prop := x.key.size ≤ 100 ∧ 0 ≤ x.cents ∧ x.cents ≤ 2000000000000 ∧ -100000000 ≤ x.until_ ∧ x.until_ ≤ 100000000 ∧ 0 ≤ x.state ∧ x.state ≤ 10
theorem Hd.len (x : Hd) : x.cells.length = 6 := rfl

/-- the numbers of a budget are in their ranges -/
def bdB (x : Bd) : Bool := decide (0 ≤ x.cents) && decide (x.cents ≤ 1000000000000) && decide (0 ≤ x.first) && decide (x.first ≤ x.last) && decide (x.last ≤ 3000)
def bE (b1 b2 b3 : Bool) : Int := if b1 = false then 5 else if b2 then 6 else if b3 = false then 1 else 0
def bstepE (pre : List Bd) (x : Bd) : Int := bE (keyB x.key) (hasS (pre.map Bd.key) x.key) (bdB x)
def budGo : List Bd → List Bd → Int
  | _, [] => 0
  | pre, x :: r => if bstepE pre x = 0 then budGo (pre ++ [x]) r else bstepE pre x
def budE (l : List Bd) : Int := budGo [] l
def BudInv (l : List Bd) (k : Nat) : Prop := budE l = budGo (l.take k) (l.drop k)
theorem BudInv.zero (l : List Bd) : BudInv l 0 := rfl
theorem BudInv.step {l : List Bd} {k : Nat} (h : BudInv l k) (hk : k < l.length) : (bstepE (l.take k) l[k] ≠ 0 → budE l = bstepE (l.take k) l[k]) ∧ (bstepE (l.take k) l[k] = 0 → BudInv l (k + 1)) := by
  unfold BudInv at *
  rw [List.drop_eq_getElem_cons hk, budGo] at h
  refine ⟨fun h0 => ?_, fun h0 => ?_⟩
  · rw [h, if_neg h0]
  · rw [h, if_pos h0, List.take_succ_eq_append_getElem hk]
theorem BudInv.done {l : List Bd} {k : Nat} (h : BudInv l k) (hk : l.length ≤ k) : budE l = 0 := by
  unfold BudInv at h
  rw [h, List.drop_eq_nil_of_le hk]
  rfl
theorem budGo_ok : ∀ (r pre : List Bd), budGo pre r = 0 → ∀ x ∈ r, bdB x = true
  | [], _, _ => by simp
  | y :: r, pre, h => by
    unfold budGo at h
    split at h
    · rename_i h0
      intro x hx
      rcases List.mem_cons.1 hx with rfl | hx
      · unfold bstepE bE at h0
        split at h0
        · omega
        · split at h0
          · omega
          · split at h0
            · omega
            · rename_i h3
              simpa using h3
      · exact budGo_ok r (pre ++ [y]) h x hx
    · rename_i h0
      exact absurd h h0
theorem budE_ok {l : List Bd} (h : budE l = 0) : ∀ x ∈ l, bdB x = true := budGo_ok l [] h

/-- how much of a budget may be spent -/
def pacV (x : Bd) (t : Int) : Int :=
  if t / 1440 < x.first then 0 else if x.last ≤ t / 1440 ∨ x.pace = false then x.cents else x.cents * (t / 1440 - x.first + 1) / (x.last - x.first + 1)
def stV (x : Hd) (t : Int) : Int := if x.state = 1 ∧ x.until_ ≤ t then 4 else x.state
def tkB (x : Hd) (key : ByteArray) (t : Int) : Bool := eqS x.key key && (decide (stV x t = 1) || decide (stV x t = 2))
def tkV : List Hd → ByteArray → Int → Int
  | [], _, _ => 0
  | x :: l, key, t => (if tkB x key t = true then x.cents else 0) + tkV l key t
theorem tkV_app (l m : List Hd) (key : ByteArray) (t : Int) : tkV (l ++ m) key t = tkV l key t + tkV m key t := by
  induction l with
  | nil => simp [tkV]
  | cons x l ih => simp only [List.cons_append, tkV, ih]; omega
theorem tkV_bd (l : List Hd) (key : ByteArray) (t : Int) (h : ∀ x ∈ l, x.ok) : 0 ≤ tkV l key t ∧ tkV l key t ≤ 2000000000000 * (l.length : Int) := by
  induction l with
  | nil => simp [tkV]
  | cons x l ih =>
    have h1 := h x (by simp)
    have h2 := ih fun y hy => h y (by simp [hy])
    simp only [tkV, List.length_cons]
    have h3 := h1.2.1
    have h4 := h1.2.2.1
    split <;> omega

/-- where a budget with a key stands -/
def bdAt (l : List Bd) (key : ByteArray) : Int := idxG (l.map Bd.key) key
theorem bdAt_bd (l : List Bd) (key : ByteArray) : bdAt l key = -1 ∨ (0 ≤ bdAt l key ∧ bdAt l key < l.length) := by
  have := idxG_bd (l.map Bd.key) key
  rw [List.length_map] at this
  exact this
end Go.Proofs.YtmhnnbffhciinaaDoor
