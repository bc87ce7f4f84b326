/- WriteCode, plain: a code in groups of four, byte by byte and piece by piece. -/
import Derived.Test.YtdcanlkdhbmknaaGreatDoorCodeSum
import Derived.Test.YtdcanlkdhbmknaaGreatDoorShelf
set_option linter.unusedVariables false
namespace Go.Proofs.YtdcanlkdhbmknaaGreatDoor

/-- the first k bytes, with a line ahead of each fourth -/
def wo (l : List UInt8) : Nat → List UInt8
  | 0 => []
  | k + 1 => (if 0 < k ∧ k % 4 = 0 then wo l k ++ [45] else wo l k) ++ (l.drop k).take 1
/-- the first k pieces, each with a line behind it -/
def wj (l : List UInt8) : Nat → List UInt8
  | 0 => []
  | k + 1 => wj l k ++ (l.drop (4 * k)).take 4 ++ [45]
theorem take_more (l : List UInt8) (a b : Nat) : (l.drop a).take (b + 1) = (l.drop a).take b ++ (l.drop (a + b)).take 1 := by
  rw [← List.drop_drop, ← List.take_add]
theorem wo_step (l : List UInt8) (m : Nat) (h : ¬ (0 < m ∧ m % 4 = 0)) : wo l (m + 1) = wo l m ++ (l.drop m).take 1 := by
  simp only [wo]
  rw [if_neg h]
theorem wo_line (l : List UInt8) (m : Nat) (h : 0 < m ∧ m % 4 = 0) : wo l (m + 1) = wo l m ++ [45] ++ (l.drop m).take 1 := by
  simp only [wo]
  rw [if_pos h]
theorem wo_next (l : List UInt8) (k : Nat) (h1 : wo l (4 * k + 1) = wj l k ++ (l.drop (4 * k)).take 1) : ∀ j, j < 4 → wo l (4 * k + (j + 1)) = wj l k ++ (l.drop (4 * k)).take (j + 1)
  | 0, _ => h1
  | j + 1, h => by
    rw [show 4 * k + (j + 1 + 1) = 4 * k + (j + 1) + 1 from rfl, wo_step l _ (by omega), wo_next l k h1 j (by omega), take_more l (4 * k) (j + 1), List.append_assoc]
theorem wo_first (l : List UInt8) : ∀ k, wo l (4 * k + 1) = wj l k ++ (l.drop (4 * k)).take 1
  | 0 => rfl
  | k + 1 => by
    rw [wo_line l (4 * (k + 1)) (by omega), show 4 * (k + 1) = 4 * k + (3 + 1) from rfl, wo_next l k (wo_first l k) 3 (by omega)]
    rfl
theorem wo_at (l : List UInt8) (k j : Nat) (h0 : 0 < j) (h4 : j ≤ 4) : wo l (4 * k + j) = wj l k ++ (l.drop (4 * k)).take j := by
  obtain ⟨i, rfl⟩ : ∃ i, j = i + 1 := ⟨j - 1, by omega⟩
  exact wo_next l k (wo_first l k) i (by omega)
def wcV (s : ByteArray) : ByteArray := ⟨(wo s.data.toList s.size).toArray⟩
/-- the first k pieces -/
def pcs (s : ByteArray) (k : Nat) : List ByteArray := (List.range k).map fun i => s.extract (4 * i) (4 * i + 4)
theorem pcs_len (s : ByteArray) (k : Nat) : (pcs s k).length = k := by simp [pcs]
theorem pcs_succ (s : ByteArray) (k : Nat) : pcs s (k + 1) = pcs s k ++ [s.extract (4 * k) (4 * k + 4)] := by simp [pcs, List.range_succ]
theorem ext_toList (s : ByteArray) (a b : Nat) : (s.extract a b).data.toList = (s.data.toList.drop a).take (b - a) := by
  rw [ByteArray.data_extract]
  simp
theorem joinTail_snoc (sep : List UInt8) (r : List (List UInt8)) (x : List UInt8) : Lib.joinTail sep (r ++ [x]) = Lib.joinTail sep r ++ (sep ++ x) := by simp [Lib.joinTail]
theorem join_snoc (sep : List UInt8) (r : List (List UInt8)) (x y : List UInt8) : Lib.join (r ++ [x] ++ [y]) sep = Lib.join (r ++ [x]) sep ++ (sep ++ y) := by
  cases r with
  | nil => rw [List.nil_append, Lib.join_one, List.singleton_append, Lib.join_cons]; simp [Lib.joinTail]
  | cons z r => rw [List.cons_append, List.cons_append, Lib.join_cons, Lib.join_cons, joinTail_snoc, List.append_assoc]
theorem join_pcs (s : ByteArray) (x : List UInt8) : ∀ k, Lib.join ((pcs s k).map (·.data.toList) ++ [x]) [45] = wj s.data.toList k ++ x
  | 0 => by rw [show pcs s 0 = [] from rfl, List.map_nil, List.nil_append, Lib.join_one]; rfl
  | k + 1 => by
    rw [pcs_succ, List.map_append, List.map_singleton, join_snoc, join_pcs s _ k, ext_toList]
    simp [wj]
theorem byte_len (b : ByteArray) : b.data.toList.length = b.size := Array.length_toList
theorem byte_ext {a b : ByteArray} (h : a.data.toList = b.data.toList) : a = b := by
  cases a; cases b
  congr 1
  exact Array.toList_inj.1 h
theorem join_all (s : ByteArray) (k : Nat) (h0 : 4 * k < s.size) (h1 : s.size ≤ 4 * k + 4) : (⟨(Lib.join ((pcs s k ++ [s.extract (4 * k) s.size]).map (·.data.toList)) [45]).toArray⟩ : ByteArray) = wcV s := by
  have e : wo s.data.toList s.size = wj s.data.toList k ++ (s.data.toList.drop (4 * k)).take (s.size - 4 * k) := by
    have := wo_at s.data.toList k (s.size - 4 * k) (by omega) (by omega)
    rw [show 4 * k + (s.size - 4 * k) = s.size by omega] at this
    exact this
  unfold wcV
  rw [e, List.map_append, List.map_singleton, join_pcs, ext_toList]
end Go.Proofs.YtdcanlkdhbmknaaGreatDoor
