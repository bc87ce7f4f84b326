/- Plain: Go's stable sort leaves the same elements. -/
import Derived.Test.YtgdagknjnidmiaaGreatDoorStPlain
set_option linter.unusedVariables false
namespace Go.Proofs.YtgdagknjnidmiaaGreatDoor
open Go.Sort

section
variable {α : Type}
def Pm (d d' : Array α) : Prop := d'.toList.Perm d.toList
theorem Pm.refl (d : Array α) : Pm d d := List.Perm.refl _
theorem Pm.trans {d d' d'' : Array α} (h : Pm d d') (k : Pm d' d'') : Pm d d'' := List.Perm.trans k h
theorem Pm.size {d d' : Array α} (h : Pm d d') : d'.size = d.size := by have := h.length_eq; simpa using this
variable [Inhabited α]
theorem swp_pm (d : Array α) (i j : Nat) (hi : i < d.size) (hj : j < d.size) : Pm d (swp d i j) := by
  unfold Pm swp
  rw [Array.toList_setIfInBounds, Array.toList_setIfInBounds, getElem!_pos d i hi, getElem!_pos d j hj]
  exact perm_set_set d.toList i j (by simpa using hi) (by simpa using hj)
theorem swR_pm (a b : Nat) : ∀ (k : Nat) (d : Array α), a + k ≤ d.size → b + k ≤ d.size → Pm d (swR a b k d)
  | 0, d, _, _ => Pm.refl d
  | k + 1, d, h1, h2 => by
    have h := swR_pm a b k d (by omega) (by omega)
    rw [swR]
    exact h.trans (swp_pm _ _ _ (by rw [h.size]; omega) (by rw [h.size]; omega))
theorem rotF_pm : ∀ (f : Nat) (d : Array α) (m i j : Nat), i ≤ m → m + j ≤ d.size → Pm d (rotF f d m i j)
  | 0, d, _, _, _, _, _ => Pm.refl d
  | f + 1, d, m, i, j, h1, h2 => by
    rw [rotF]
    split
    · rename_i e
      subst e
      exact swR_pm _ _ _ _ (by omega) (by omega)
    · split
      · have h := swR_pm (m - i) m j d (by omega) (by omega)
        exact h.trans (rotF_pm f _ m (i - j) j (by omega) (by rw [h.size]; omega))
      · have h := swR_pm (m - i) (m + j - i) i d (by omega) (by omega)
        exact h.trans (rotF_pm f _ m i (j - i) h1 (by rw [h.size]; omega))
theorem mvU_pm (a : Nat) : ∀ (k : Nat) (d : Array α), a + k < d.size → Pm d (mvU a k d)
  | 0, d, _ => Pm.refl d
  | k + 1, d, h1 => by
    have h := mvU_pm a k d (by omega)
    rw [mvU]
    exact h.trans (swp_pm _ _ _ (by rw [h.size]; omega) (by rw [h.size]; omega))
theorem mvD_pm (m : Nat) : ∀ (k : Nat) (d : Array α), m < d.size → Pm d (mvD m k d)
  | 0, d, _ => Pm.refl d
  | k + 1, d, h1 => by
    have h := mvD_pm m k d h1
    rw [mvD]
    exact h.trans (swp_pm _ _ _ (by rw [h.size]; omega) (by rw [h.size]; omega))
variable (lt : α → α → Bool)
theorem symF_pm : ∀ (f : Nat) (d : Array α) (a m b : Nat), a < m → m < b → b ≤ d.size → Pm d (symF lt f d a m b)
  | 0, d, _, _, _, _, _, _ => Pm.refl d
  | f + 1, d, a, m, b, h1, h2, h3 => by
    rw [symF]
    split
    · have := bsF_in (fun h => lt d[h]! d[a]!) (b - m) m b (by omega)
      exact mvU_pm _ _ _ (by omega)
    · split
      · exact mvD_pm _ _ _ (by omega)
      · simp only
        obtain ⟨b0, b1, b2, b3⟩ := symS_lo lt d a m b h1 h2
        generalize symS lt d a m b = s at *
        generalize (a + b) / 2 + m - s = e at *
        obtain ⟨d1, hd1⟩ : ∃ d1, (if s < m ∧ m < e then rotF (e - s) d m (m - s) (e - m) else d) = d1 := ⟨_, rfl⟩
        have p1 : Pm d d1 := by
          rw [← hd1]
          split
          · exact rotF_pm _ _ _ _ _ (by omega) (by omega)
          · exact Pm.refl d
        rw [hd1]
        obtain ⟨d2, hd2⟩ : ∃ d2, (if a < s ∧ s < (a + b) / 2 then symF lt f d1 a s ((a + b) / 2) else d1) = d2 := ⟨_, rfl⟩
        have p2 : Pm d1 d2 := by
          rw [← hd2]
          split
          · rename_i hc
            exact symF_pm f _ _ _ _ hc.1 hc.2 (by rw [p1.size]; omega)
          · exact Pm.refl d1
        rw [hd2]
        refine p1.trans (p2.trans ?_)
        split
        · rename_i hc
          exact symF_pm f _ _ _ _ hc.1 hc.2 (by rw [p2.size, p1.size]; omega)
        · exact Pm.refl d2
theorem insInner_pm (a : Nat) : ∀ (j : Nat) (d : Array α), j < d.size ∨ j ≤ a → Pm d (insInner lt a j d)
  | 0, d, _ => by rw [insInner]; exact Pm.refl d
  | j + 1, d, h => by
    by_cases hja : a < j + 1
    · have hj : j + 1 < d.size := by omega
      rw [insInner]
      split
      · have h := swp_pm d (j + 1) j hj (by omega)
        exact h.trans (insInner_pm a j _ (.inl (by rw [h.size]; omega)))
      · exact Pm.refl d
    · rw [insInner]
      split
      · rename_i hc
        simp at hc
        omega
      · exact Pm.refl d
theorem insOuter_pm (a b : Nat) : ∀ (n i : Nat) (d : Array α), b - i ≤ n → b ≤ d.size → Pm d (insOuter lt a b i d)
  | 0, i, d, h, _ => by rw [insOuter_stop lt a b i d (by omega)]; exact Pm.refl d
  | n + 1, i, d, h, hb => by
    by_cases hlt : i < b
    · rw [insOuter_go lt a b i d hlt]
      have p := insInner_pm lt a i d (.inl (by omega))
      exact p.trans (insOuter_pm a b n (i + 1) _ (by omega) (by rw [p.size]; omega))
    · rw [insOuter_stop lt a b i d hlt]; exact Pm.refl d
theorem ins_pm (d : Array α) (a b : Nat) (hb : b ≤ d.size) : Pm d (insertionSort lt d a b) := insOuter_pm lt a b _ _ _ (Nat.le_refl _) hb
theorem stI_pm : ∀ (f : Nat) (d : Array α) (a n : Nat), n ≤ d.size → Pm d (stI lt f d a n)
  | 0, d, _, _, _ => Pm.refl d
  | f + 1, d, a, n, h => by
    rw [stI]
    split
    · have p := ins_pm lt d a (a + 20) (by omega)
      exact p.trans (stI_pm f _ _ _ (by rw [p.size]; omega))
    · exact ins_pm lt d a n h
theorem stP_pm (s : Nat) (hs : 0 < s) : ∀ (f : Nat) (d : Array α) (a n : Nat), n ≤ d.size → Pm d (stP lt f s d a n)
  | 0, d, _, _, _ => Pm.refl d
  | f + 1, d, a, n, h => by
    rw [stP]
    split
    · have p := symF_pm lt (2 * s) d a (a + s) (a + 2 * s) (by omega) (by omega) (by omega)
      exact p.trans (stP_pm s hs f _ _ _ (by rw [p.size]; omega))
    · split
      · exact symF_pm lt _ _ _ _ _ (by omega) (by omega) h
      · exact Pm.refl d
theorem stM_pm : ∀ (f s : Nat) (d : Array α) (n : Nat), 0 < s → n ≤ d.size → Pm d (stM lt f s d n)
  | 0, _, d, _, _, _ => Pm.refl d
  | f + 1, s, d, n, hs, h => by
    rw [stM]
    split
    · have p := stP_pm lt s hs (n + 1) d 0 n h
      exact p.trans (stM_pm f _ _ _ (by omega) (by rw [p.size]; omega))
    · exact Pm.refl d
theorem stable_pm (d : Array α) : Pm d (stable lt d) := by
  unfold stable
  have p := stI_pm lt (d.size + 1) d 0 d.size (Nat.le_refl _)
  exact p.trans (stM_pm lt _ _ _ _ (by omega) (by rw [p.size]; exact Nat.le_refl _))
end
end Go.Proofs.YtgdagknjnidmiaaGreatDoor
