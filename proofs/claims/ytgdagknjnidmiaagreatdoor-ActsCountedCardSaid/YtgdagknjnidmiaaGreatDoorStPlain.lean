/- Plain: Go's stable sort as functions on arrays, step for step as its text has them. -/
import Derived.Sort.Defs
import Derived.Sort.Lot0
import Derived.Sort.WalkA
set_option linter.unusedVariables false
namespace Go.Proofs.YtgdagknjnidmiaaGreatDoor
open Go.Sort

section
variable {α : Type} [Inhabited α]
/-- n exchanges of a + i and b + i -/
def swR (a b : Nat) : Nat → Array α → Array α
  | 0, d => d
  | k + 1, d => swp (swR a b k d) (a + k) (b + k)
theorem size_swR (a b : Nat) : ∀ (k : Nat) (d : Array α), (swR a b k d).size = d.size
  | 0, _ => rfl
  | k + 1, d => by rw [swR, size_swp, size_swR a b k d]
/-- the rotation's loop: the parts of length i and j beside m -/
def rotF : Nat → Array α → Nat → Nat → Nat → Array α
  | 0, d, _, _, _ => d
  | f + 1, d, m, i, j => if i = j then swR (m - i) m i d else if j < i then rotF f (swR (m - i) m j d) m (i - j) j else rotF f (swR (m - i) (m + j - i) i d) m i (j - i)
theorem size_rotF : ∀ (f : Nat) (d : Array α) (m i j : Nat), (rotF f d m i j).size = d.size
  | 0, _, _, _, _ => rfl
  | f + 1, d, m, i, j => by
    rw [rotF]
    split
    · rw [size_swR]
    · split
      · rw [size_rotF f, size_swR]
      · rw [size_rotF f, size_swR]
theorem rotF_eq (f : Nat) (d : Array α) (m i : Nat) : rotF (f + 1) d m i i = swR (m - i) m i d := by rw [rotF, if_pos rfl]
theorem rotF_gt (f : Nat) (d : Array α) (m i j : Nat) (h : j < i) : rotF (f + 1) d m i j = rotF f (swR (m - i) m j d) m (i - j) j := by rw [rotF, if_neg (by omega), if_pos h]
theorem rotF_lt (f : Nat) (d : Array α) (m i j : Nat) (h : i < j) : rotF (f + 1) d m i j = rotF f (swR (m - i) (m + j - i) i d) m i (j - i) := by rw [rotF, if_neg (by omega), if_neg (by omega)]
/-- the search in [i, j) -/
def bsF (p : Nat → Bool) : Nat → Nat → Nat → Nat
  | 0, i, _ => i
  | f + 1, i, j => if i < j then (if p ((i + j) / 2) then bsF p f ((i + j) / 2 + 1) j else bsF p f i ((i + j) / 2)) else i
theorem bsF_yes (p : Nat → Bool) (f i j : Nat) (h : i < j) (hp : p ((i + j) / 2) = true) : bsF p (f + 1) i j = bsF p f ((i + j) / 2 + 1) j := by rw [bsF, if_pos h, if_pos hp]
theorem bsF_no (p : Nat → Bool) (f i j : Nat) (h : i < j) (hp : p ((i + j) / 2) = false) : bsF p (f + 1) i j = bsF p f i ((i + j) / 2) := by rw [bsF, if_pos h, if_neg (by rw [hp]; simp)]
theorem bsF_end (p : Nat → Bool) (f i j : Nat) (h : ¬ i < j) : bsF p f i j = i := by
  cases f with
  | zero => rfl
  | succ f => rw [bsF, if_neg h]
theorem bsF_in (p : Nat → Bool) : ∀ f i j, i ≤ j → i ≤ bsF p f i j ∧ bsF p f i j ≤ j
  | 0, i, j, h => ⟨Nat.le_refl _, h⟩
  | f + 1, i, j, h => by
    rw [bsF]
    split
    · rename_i hlt
      split
      · have := bsF_in p f ((i + j) / 2 + 1) j (by omega)
        omega
      · have := bsF_in p f i ((i + j) / 2) (by omega)
        omega
    · omega
def mvU (a : Nat) : Nat → Array α → Array α
  | 0, d => d
  | n + 1, d => swp (mvU a n d) (a + n) (a + n + 1)
def mvD (m : Nat) : Nat → Array α → Array α
  | 0, d => d
  | n + 1, d => swp (mvD m n d) (m - n) (m - n - 1)
theorem size_mvU (a : Nat) : ∀ (n : Nat) (d : Array α), (mvU a n d).size = d.size
  | 0, _ => rfl
  | n + 1, d => by rw [mvU, size_swp, size_mvU a n d]
theorem size_mvD (m : Nat) : ∀ (n : Nat) (d : Array α), (mvD m n d).size = d.size
  | 0, _ => rfl
  | n + 1, d => by rw [mvD, size_swp, size_mvD m n d]
variable (lt : α → α → Bool)
/-- where the two parts meet -/
def symS (d : Array α) (a m b : Nat) : Nat :=
  if (a + b) / 2 < m then bsF (fun c => !lt d[(a + b) / 2 + m - 1 - c]! d[c]!) ((a + b) / 2 - ((a + b) / 2 + m - b)) ((a + b) / 2 + m - b) ((a + b) / 2)
  else bsF (fun c => !lt d[(a + b) / 2 + m - 1 - c]! d[c]!) (m - a) a m
def symF : Nat → Array α → Nat → Nat → Nat → Array α
  | 0, d, _, _, _ => d
  | f + 1, d, a, m, b =>
    if m - a = 1 then mvU a (bsF (fun h => lt d[h]! d[a]!) (b - m) m b - 1 - a) d
    else if b - m = 1 then mvD m (m - bsF (fun h => !lt d[m]! d[h]!) (m - a) a m) d
    else
      let s := symS lt d a m b
      let e := (a + b) / 2 + m - s
      let d1 := if s < m ∧ m < e then rotF (e - s) d m (m - s) (e - m) else d
      let d2 := if a < s ∧ s < (a + b) / 2 then symF f d1 a s ((a + b) / 2) else d1
      if (a + b) / 2 < e ∧ e < b then symF f d2 ((a + b) / 2) e b else d2
theorem size_symF : ∀ (f : Nat) (d : Array α) (a m b : Nat), (symF lt f d a m b).size = d.size
  | 0, _, _, _, _ => rfl
  | f + 1, d, a, m, b => by
    rw [symF]
    split
    · rw [size_mvU]
    · split
      · rw [size_mvD]
      · simp only
        have h1 : (if symS lt d a m b < m ∧ m < (a + b) / 2 + m - symS lt d a m b then rotF ((a + b) / 2 + m - symS lt d a m b - symS lt d a m b) d m (m - symS lt d a m b) ((a + b) / 2 + m - symS lt d a m b - m) else d).size = d.size := by
          split
          · rw [size_rotF]
          · rfl
        split
        · rw [size_symF f]
          split
          · rw [size_symF f, h1]
          · exact h1
        · split
          · rw [size_symF f, h1]
          · exact h1
theorem symS_lo (d : Array α) (a m b : Nat) (h1 : a < m) (h2 : m < b) : a ≤ symS lt d a m b ∧ symS lt d a m b ≤ m ∧ m ≤ (a + b) / 2 + m - symS lt d a m b ∧ (a + b) / 2 + m - symS lt d a m b ≤ b := by
  unfold symS
  split
  · have := bsF_in (fun c => !lt d[(a + b) / 2 + m - 1 - c]! d[c]!) ((a + b) / 2 - ((a + b) / 2 + m - b)) ((a + b) / 2 + m - b) ((a + b) / 2) (by omega)
    omega
  · have := bsF_in (fun c => !lt d[(a + b) / 2 + m - 1 - c]! d[c]!) (m - a) a m (by omega)
    omega
/-- the blocks of 20 -/
def stI : Nat → Array α → Nat → Nat → Array α
  | 0, d, _, _ => d
  | f + 1, d, a, n => if a + 20 ≤ n then stI f (insertionSort lt d a (a + 20)) (a + 20) n else insertionSort lt d a n
/-- one pass of merges -/
def stP : Nat → Nat → Array α → Nat → Nat → Array α
  | 0, _, d, _, _ => d
  | f + 1, s, d, a, n => if a + 2 * s ≤ n then stP f s (symF lt (2 * s) d a (a + s) (a + 2 * s)) (a + 2 * s) n else if a + s < n then symF lt (n - a) d a (a + s) n else d
def stM : Nat → Nat → Array α → Nat → Array α
  | 0, _, d, _ => d
  | f + 1, s, d, n => if s < n then stM f (2 * s) (stP lt (n + 1) s d 0 n) n else d
def stable (d : Array α) : Array α := stM lt (d.size + 1) 20 (stI lt (d.size + 1) d 0 d.size) d.size
theorem size_insInner (a : Nat) : ∀ (j : Nat) (d : Array α), (insInner lt a j d).size = d.size
  | 0, d => by rw [insInner]
  | j + 1, d => by
    rw [insInner]
    split
    · rw [size_insInner a j, size_swp]
    · rfl
theorem size_insOuter (a b : Nat) : ∀ (n i : Nat) (d : Array α), b - i ≤ n → (insOuter lt a b i d).size = d.size
  | 0, i, d, h => by rw [insOuter_stop lt a b i d (by omega)]
  | n + 1, i, d, h => by
    by_cases hlt : i < b
    · rw [insOuter_go lt a b i d hlt, size_insOuter a b n (i + 1) _ (by omega), size_insInner]
    · rw [insOuter_stop lt a b i d hlt]
theorem size_ins (d : Array α) (a b : Nat) : (insertionSort lt d a b).size = d.size := size_insOuter lt a b _ _ _ (Nat.le_refl _)
theorem size_stI : ∀ (f : Nat) (d : Array α) (a n : Nat), (stI lt f d a n).size = d.size
  | 0, _, _, _ => rfl
  | f + 1, d, a, n => by
    rw [stI]
    split
    · rw [size_stI f, size_ins]
    · rw [size_ins]
theorem size_stP : ∀ (f s : Nat) (d : Array α) (a n : Nat), (stP lt f s d a n).size = d.size
  | 0, _, _, _, _ => rfl
  | f + 1, s, d, a, n => by
    rw [stP]
    split
    · rw [size_stP f, size_symF]
    · split
      · rw [size_symF]
      · rfl
theorem size_stM : ∀ (f s : Nat) (d : Array α) (n : Nat), (stM lt f s d n).size = d.size
  | 0, _, _, _ => rfl
  | f + 1, s, d, n => by
    rw [stM]
    split
    · rw [size_stM f, size_stP]
    · rfl
theorem size_stable (d : Array α) : (stable lt d).size = d.size := by unfold stable; rw [size_stM, size_stI]
end
end Go.Proofs.YtgdagknjnidmiaaGreatDoor
