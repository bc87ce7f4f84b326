/- Which arm each key gets: the plain facts. -/
import Derived.Test.YtdnikegakcdcnaaDoorCheckSplit
import Derived.Test.YtdnikegakcdcnaaDoorLists
set_option linter.unusedVariables false
namespace Go.Proofs.YtdnikegakcdcnaaDoor

theorem armGo_bd : ∀ (l : List Int) (r i : Int), armGo l r i = -1 ∨ (i ≤ armGo l r i ∧ armGo l r i < i + l.length)
  | [], r, i => .inl rfl
  | z :: l, r, i => by
    unfold armGo
    split
    · right; simp only [List.length_cons]; omega
    · rcases armGo_bd l (r - z) (i + 1) with h | h
      · exact .inl h
      · right; simp only [List.length_cons]; omega
theorem armV_bd (name : ByteArray) (ws : List Int) (hold : Int) (key : ByteArray) : armV name ws hold key = -1 ∨ (0 ≤ armV name ws hold key ∧ armV name ws hold key < ws.length) := by
  have := armGo_bd ws (hsh (name ++ ⟨#[47]⟩ ++ key).data.toList % (ws.sum + hold)) 0
  unfold armV
  omega
/-- the list that a key comes into -/
def armI (name : ByteArray) (ws : List Int) (hold : Int) (key : ByteArray) : Nat := if armV name ws hold key < 0 then ws.length else (armV name ws hold key).toNat
theorem armI_lt (name : ByteArray) (ws : List Int) (hold : Int) (key : ByteArray) : armI name ws hold key < ws.length + 1 := by
  have := armV_bd name ws hold key
  unfold armI
  split <;> omega
/-- the keys by lists -/
def dist (I : ByteArray → Nat) (m : Nat) (ks : List ByteArray) : List (List ByteArray) := (List.range m).map fun j => ks.filter fun k => I k == j
theorem dist_len (I : ByteArray → Nat) (m : Nat) (ks : List ByteArray) : (dist I m ks).length = m := by simp [dist]
theorem dist_nil (I : ByteArray → Nat) (m : Nat) : dist I m [] = List.replicate m [] := by
  unfold dist
  simp only [List.filter_nil]
  rw [List.map_const']
  simp
theorem dist_snoc (I : ByteArray → Nat) (m : Nat) (ks : List ByteArray) (k : ByteArray) (h : I k < (dist I m ks).length) : (dist I m ks).set (I k) ((dist I m ks)[I k] ++ [k]) = dist I m (ks ++ [k]) := by
  apply List.ext_getElem
  · simp [dist]
  · intro j h1 h2
    rw [List.getElem_set]
    have hm : j < m := by simpa [dist] using h2
    split
    · rename_i e
      subst e
      simp [dist]
    · rename_i e
      simp [dist, e]
theorem dist_el (I : ByteArray → Nat) (m : Nat) (ks : List ByteArray) (j : Nat) (h : j < (dist I m ks).length) : (dist I m ks)[j].length ≤ ks.length := by
  simp only [dist, List.getElem_map]
  exact List.length_filter_le _ _
/-- the error of the keys -/
def keysGo : List ByteArray → List ByteArray → Int
  | _, [] => 0
  | pre, k :: l => if keyB k = false then 5 else if hasS pre k then 6 else keysGo (pre ++ [k]) l
def keysE (ks : List ByteArray) : Int := keysGo [] ks
theorem keysGo_drop (ks : List ByteArray) (i : Nat) (h : i < ks.length) : keysGo (ks.take i) (ks.drop i) = if keyB ks[i] = false then 5 else if hasS (ks.take i) ks[i] then 6 else keysGo (ks.take (i + 1)) (ks.drop (i + 1)) := by
  rw [List.drop_eq_getElem_cons h, List.take_succ_eq_append_getElem h]
  rfl
def armsE (name : ByteArray) (ws : List Int) (hold : Int) (ks : List ByteArray) : Int := if splitE (keyB name) ws hold = 0 then keysE ks else splitE (keyB name) ws hold
def armsL (name : ByteArray) (ws : List Int) (hold : Int) (ks : List ByteArray) : List (List ByteArray) := if armsE name ws hold ks = 0 then dist (armI name ws hold) (ws.length + 1) ks else []
theorem armsL_len (name : ByteArray) (ws : List Int) (hold : Int) (ks : List ByteArray) : (armsL name ws hold ks).length ≤ ws.length + 1 ∧ ∀ l ∈ armsL name ws hold ks, l.length ≤ ks.length := by
  unfold armsL
  split
  · refine ⟨by rw [dist_len]; exact Nat.le_refl _, fun l hl => ?_⟩
    obtain ⟨j, hj, rfl⟩ := List.getElem_of_mem hl
    exact dist_el _ _ _ j hj
  · exact ⟨by simp, fun l hl => by simp at hl⟩
open Go Go.RowKit in
/-- what Arms leaves -/
def ArmsOut (w : World) (E : Int) (L : List (List ByteArray)) (e : Ending) (w' : World) : Prop := ∃ v, e = .returned (.tuple #[v, .int .i64 E]) ∧ SSAt w' v L ∧ Below w.heap.size w w'
end Go.Proofs.YtdnikegakcdcnaaDoor
