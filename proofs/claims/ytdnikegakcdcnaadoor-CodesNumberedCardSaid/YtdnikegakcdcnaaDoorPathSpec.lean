/- The places of the letters before a gain, in plain words. -/
import Derived.Test.YtdnikegakcdcnaaDoorGainSpec
set_option linter.unusedVariables false
namespace Go.Proofs.YtdnikegakcdcnaaDoor
open Go.RowKit

def pathP (g : Gn) (span : Int) (x : Snt) : Bool := (x.person.toList == g.person.toList) && decide (x.at_ < g.at_) && decide (g.at_ - x.at_ ≤ span)
def hitP (P : Snt → Bool) (l : List Snt) (i : Nat) : Bool := match l[i]? with
  | some x => P x
  | none => false
def pIdx (P : Snt → Bool) (l : List Snt) (k : Nat) : List Int := ((List.range' 0 k).filter (hitP P l)).map Int.ofNat
def pSel (P : Snt → Bool) (l : List Snt) (j : Nat) : List Int := ((List.range' j (l.length - j)).filter (hitP P l)).map Int.ofNat
theorem hitP_at (P : Snt → Bool) (l : List Snt) (k : Nat) (hk : k < l.length) : hitP P l k = P l[k] := by
  unfold hitP
  rw [List.getElem?_eq_getElem hk]
theorem pIdx_succ (P : Snt → Bool) (l : List Snt) (k : Nat) (hk : k < l.length) : pIdx P l (k + 1) = pIdx P l k ++ (if P l[k] then [(k : Int)] else []) := by
  unfold pIdx
  rw [show List.range' 0 (k + 1) = List.range' 0 k ++ [k] by rw [List.range'_concat]; simp]
  rw [List.filter_append, List.map_append]
  congr 1
  rw [List.filter_cons, hitP_at P l k hk]
  cases P l[k] <;> rfl
theorem pSel_step (P : Snt → Bool) (l : List Snt) (j : Nat) (hj : j < l.length) : pSel P l j = (if P l[j] then [(j : Int)] else []) ++ pSel P l (j + 1) := by
  unfold pSel
  rw [show l.length - j = (l.length - (j + 1)) + 1 by omega, List.range'_succ, List.filter_cons, hitP_at P l j hj]
  cases P l[j] <;> rfl
theorem pSel_all (P : Snt → Bool) (l : List Snt) (j : Nat) (hj : j ≤ l.length) : pIdx P l l.length = pIdx P l j ++ pSel P l j := by
  unfold pIdx pSel
  rw [← List.map_append, ← List.filter_append]
  congr 2
  rw [show l.length = j + (l.length - j) by omega, ← List.range'_append_1]
  simp
theorem pSel_end (P : Snt → Bool) (l : List Snt) : pSel P l l.length = [] := by simp [pSel]
theorem pIdx_len (P : Snt → Bool) (l : List Snt) (k : Nat) : (pIdx P l k).length ≤ k := by
  unfold pIdx
  rw [List.length_map]
  exact Nat.le_trans (List.length_filter_le _ _) (by simp)
/-- the last twelve -/
def pathL (P : Snt → Bool) (l : List Snt) : List Int := (pIdx P l l.length).drop ((pIdx P l l.length).length - 12)
theorem pathL_zero (P : Snt → Bool) (l : List Snt) (h : (pSel P l 0).length ≤ 12) : pathL P l = pSel P l 0 := by
  have e := pSel_all P l 0 (Nat.zero_le _)
  have e0 : pIdx P l 0 = [] := rfl
  rw [e0, List.nil_append] at e
  unfold pathL
  rw [e, show (pSel P l 0).length - 12 = 0 by omega, List.drop_zero]
theorem pathL_full (P : Snt → Bool) (l : List Snt) (j : Nat) (hj : j ≤ l.length) (h : (pSel P l j).length = 12) : pathL P l = pSel P l j := by
  unfold pathL
  rw [pSel_all P l j hj, List.length_append, h, Nat.add_sub_cancel, List.drop_left]
theorem pIdx_rng (P : Snt → Bool) (l : List Snt) (k : Nat) : ∀ z ∈ pIdx P l k, 0 ≤ z ∧ z < k := by
  intro z hz
  unfold pIdx at hz
  obtain ⟨i, hi, rfl⟩ := List.mem_map.1 hz
  have := List.mem_filter.1 hi
  simp [List.mem_range'_1] at this
  simp
  omega

theorem sentGo_mom : ∀ (l pre : List Snt), sentGo pre l = 0 → ∀ x ∈ l, momB x.at_ = true
  | [], _, _, x, hx => by cases hx
  | y :: r, pre, h, x, hx => by
    rw [sentGo] at h
    split at h
    · rename_i h0
      rcases List.mem_cons.1 hx with rfl | hx
      · unfold stepE sE at h0
        cases hm : momB x.at_
        · rw [hm] at h0
          repeat (split at h0 <;> try cases h0)
          all_goals simp_all
        · rfl
      · exact sentGo_mom r _ h x hx
    · contradiction
theorem mom_bd {n : Int} (h : momB n = true) : 0 ≤ n ∧ n ≤ 4321439 := of_decide_eq_true h
theorem sentE_mom {l : List Snt} (h : sentE l = 0) : ∀ x ∈ l, 0 ≤ x.at_ ∧ x.at_ ≤ 4321439 := fun x hx => mom_bd (sentGo_mom l [] h x hx)
theorem gainE_mom {g : Gn} (h : gainE [g] = 0) : 0 ≤ g.at_ ∧ g.at_ ≤ 4321439 := by
  apply mom_bd
  unfold gainE at h
  rw [gainGo] at h
  split at h
  · rename_i h0
    unfold gstepE gE at h0
    cases hm : momB g.at_
    · rw [hm] at h0
      repeat (split at h0 <;> try cases h0)
      all_goals simp_all
    · rfl
  · contradiction
end Go.Proofs.YtdnikegakcdcnaaDoor
