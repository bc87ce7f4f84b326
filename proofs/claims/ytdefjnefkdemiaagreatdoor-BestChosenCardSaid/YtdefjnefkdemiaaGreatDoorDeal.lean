/- Who gets the cents that are left: by greatest rest, of equal rests the first or the last. -/
import Derived.Sort.WalkA
import Derived.Sort.LotA
import Derived.Sort.Lot0
set_option linter.unusedVariables false
namespace Go.Proofs.YtdefjnefkdemiaaGreatDoor.Deal
open Go.Sort

/-- i comes before j -/
def prec (last : Bool) {n : Nat} (rs : Fin n → Nat) (i j : Fin n) : Bool :=
  decide (rs j < rs i ∨ rs i = rs j ∧ (if last then j.val < i.val else i.val < j.val))
theorem prec_iff {last : Bool} {n : Nat} {rs : Fin n → Nat} {i j : Fin n} : prec last rs i j = true ↔ rs j < rs i ∨ rs i = rs j ∧ (if last then j.val < i.val else i.val < j.val) := by
  simp [prec]
theorem prec_not {last : Bool} {n : Nat} {rs : Fin n → Nat} {i j : Fin n} : prec last rs i j = false ↔ ¬ (rs j < rs i ∨ rs i = rs j ∧ (if last then j.val < i.val else i.val < j.val)) := by
  simp only [prec, decide_eq_false_iff_not]
theorem prec_swo (last : Bool) {n : Nat} (rs : Fin n → Nat) : SWO (prec last rs) := by
  refine ⟨fun x => ?_, fun x y z h1 h2 => ?_, fun x y z h1 h2 => ?_⟩
  · rw [prec_not]; cases last <;> simp
  · rw [prec_iff] at *; cases last <;> simp at * <;> omega
  · rw [prec_not] at *; cases last <;> simp at * <;> omega
theorem prec_total (last : Bool) {n : Nat} (rs : Fin n → Nat) (x y : Fin n) (h1 : prec last rs x y = false) (h2 : prec last rs y x = false) : x = y := by
  rw [prec_not] at *
  apply Fin.ext
  cases last <;> simp at * <;> omega

/-- the places in the order in which they get a cent -/
def order (last : Bool) {n : Nat} (rs : Fin n → Nat) : List (Fin n) := (List.finRange n).mergeSort (fun x y => !prec last rs y x)
theorem order_perm (last : Bool) {n : Nat} (rs : Fin n → Nat) : (order last rs).Perm (List.finRange n) := List.mergeSort_perm _ _
theorem order_len (last : Bool) {n : Nat} (rs : Fin n → Nat) : (order last rs).length = n := by rw [(order_perm last rs).length_eq]; simp
theorem order_mem (last : Bool) {n : Nat} (rs : Fin n → Nat) (i : Fin n) : i ∈ order last rs := (order_perm last rs).mem_iff.2 (by simp)
theorem order_nodup (last : Bool) {n : Nat} (rs : Fin n → Nat) : (order last rs).Nodup := (order_perm last rs).nodup_iff.2 (List.nodup_finRange n)
theorem order_sorted (last : Bool) {n : Nat} (rs : Fin n → Nat) : (order last rs).Pairwise (fun a b => prec last rs b a = false) := by
  have h := List.pairwise_mergeSort (le := fun x y => !prec last rs y x) (fun a b c h1 h2 => by
    simp only [Bool.not_eq_true'] at *
    exact (prec_swo last rs).ntrans _ _ _ h2 h1) (fun a b => by
    cases h : prec last rs b a with
    | false => rfl
    | true =>
      simp only [Bool.not_true, Bool.false_or, Bool.not_eq_true']
      cases h' : prec last rs a b with
      | false => rfl
      | true => have := (prec_swo last rs).trans _ _ _ h h'; rw [(prec_swo last rs).irrefl] at this; cases this) (List.finRange n)
  exact h.imp (fun h => by simpa using h)

/-- those that have got one after k rounds -/
def got (last : Bool) {n : Nat} (rs : Fin n → Nat) (k : Nat) (i : Fin n) : Bool := decide (i ∈ (order last rs).take k)
theorem got_zero (last : Bool) {n : Nat} (rs : Fin n → Nat) (i : Fin n) : got last rs 0 i = false := by simp [got]
theorem got_succ (last : Bool) {n : Nat} (rs : Fin n → Nat) (k : Nat) (hk : k < (order last rs).length) (i : Fin n) : got last rs (k + 1) i = (got last rs k i || decide (i = (order last rs)[k])) := by
  simp only [got]
  rw [List.take_succ_eq_append_getElem hk, Bool.eq_iff_iff]
  simp only [List.mem_append, List.mem_singleton, decide_eq_true_eq, Bool.or_eq_true]
/-- the next one has not got one, and comes before all others that have not -/
theorem next_free (last : Bool) {n : Nat} (rs : Fin n → Nat) (k : Nat) (hk : k < (order last rs).length) : got last rs k (order last rs)[k] = false := by
  simp only [got, decide_eq_false_iff_not]
  intro h
  have hn := order_nodup last rs
  rw [← List.take_append_drop k (order last rs), List.nodup_append] at hn
  refine hn.2.2 _ h _ ?_ rfl
  rw [List.drop_eq_getElem_cons hk]
  exact List.mem_cons_self
theorem next_first (last : Bool) {n : Nat} (rs : Fin n → Nat) (k : Nat) (hk : k < (order last rs).length) (i : Fin n) (hi : got last rs k i = false) : prec last rs i (order last rs)[k] = false := by
  have hm : i ∈ (order last rs).drop k := by
    have := order_mem last rs i
    rw [← List.take_append_drop k (order last rs), List.mem_append] at this
    rcases this with h | h
    · simp [got, h] at hi
    · exact h
  have hs := order_sorted last rs
  rw [← List.take_append_drop k (order last rs), List.pairwise_append] at hs
  have hd := hs.2.1
  rw [List.drop_eq_getElem_cons hk] at hd hm
  rw [List.pairwise_cons] at hd
  rcases List.mem_cons.1 hm with h | h
  · rw [h]; exact (prec_swo last rs).irrefl _
  · exact hd.1 i h

/-- the search for the next one, after j places -/
def Best (last : Bool) {n : Nat} (rs : Fin n → Nat) (k j : Nat) (b : Option (Fin n)) : Prop :=
  match b with
  | none => ∀ i : Fin n, i.val < j → got last rs k i = true
  | some b => b.val < j ∧ got last rs k b = false ∧ ∀ i : Fin n, i.val < j → got last rs k i = false → prec last rs i b = false
theorem best_zero (last : Bool) {n : Nat} (rs : Fin n → Nat) (k : Nat) : Best last rs k 0 none := fun i h => by omega
theorem best_end (last : Bool) {n : Nat} (rs : Fin n → Nat) (k : Nat) (hk : k < (order last rs).length) (b : Option (Fin n)) (h : Best last rs k n b) : b = some (order last rs)[k] := by
  cases b with
  | none =>
    have := h (order last rs)[k] (Fin.isLt _)
    rw [next_free] at this
    cases this
  | some b =>
    obtain ⟨_, h2, h3⟩ := h
    congr 1
    exact prec_total last rs _ _ (next_first last rs k hk b h2) (h3 _ (Fin.isLt _) (next_free last rs k hk))
theorem best_skip (last : Bool) {n : Nat} (rs : Fin n → Nat) (k j : Nat) (hj : j < n) (b : Option (Fin n)) (h : Best last rs k j b) (hg : got last rs k ⟨j, hj⟩ = true) : Best last rs k (j + 1) b := by
  have key : ∀ i : Fin n, i.val < j + 1 → i.val < j ∨ i = ⟨j, hj⟩ := fun i hi => by
    by_cases e : i.val = j
    · exact .inr (Fin.ext e)
    · exact .inl (by omega)
  cases b with
  | none =>
    intro i hi
    rcases key i hi with h' | rfl
    · exact h i h'
    · exact hg
  | some b =>
    obtain ⟨h1, h2, h3⟩ := h
    refine ⟨by omega, h2, fun i hi hgi => ?_⟩
    rcases key i hi with h' | rfl
    · exact h3 i h' hgi
    · rw [hg] at hgi; cases hgi
theorem best_keep (last : Bool) {n : Nat} (rs : Fin n → Nat) (k j : Nat) (hj : j < n) (b : Fin n) (h : Best last rs k j (some b)) (hp : prec last rs ⟨j, hj⟩ b = false) : Best last rs k (j + 1) (some b) := by
  obtain ⟨h1, h2, h3⟩ := h
  refine ⟨by omega, h2, fun i hi hgi => ?_⟩
  by_cases e : i.val = j
  · obtain rfl : i = ⟨j, hj⟩ := Fin.ext e
    exact hp
  · exact h3 i (by omega) hgi
theorem best_first (last : Bool) {n : Nat} (rs : Fin n → Nat) (k j : Nat) (hj : j < n) (h : Best last rs k j none) (hg : got last rs k ⟨j, hj⟩ = false) : Best last rs k (j + 1) (some ⟨j, hj⟩) := by
  refine ⟨Nat.lt_succ_self j, hg, fun i hi hgi => ?_⟩
  by_cases e : i.val = j
  · obtain rfl : i = ⟨j, hj⟩ := Fin.ext e
    exact (prec_swo last rs).irrefl _
  · rw [h i (by omega)] at hgi; cases hgi
theorem best_take (last : Bool) {n : Nat} (rs : Fin n → Nat) (k j : Nat) (hj : j < n) (b : Fin n) (h : Best last rs k j (some b)) (hg : got last rs k ⟨j, hj⟩ = false) (hp : prec last rs ⟨j, hj⟩ b = true) : Best last rs k (j + 1) (some ⟨j, hj⟩) := by
  obtain ⟨h1, h2, h3⟩ := h
  refine ⟨Nat.lt_succ_self j, hg, fun i hi hgi => ?_⟩
  by_cases e : i.val = j
  · obtain rfl : i = ⟨j, hj⟩ := Fin.ext e
    exact (prec_swo last rs).irrefl _
  · have := h3 i (by omega) hgi
    cases hq : prec last rs i ⟨j, hj⟩ with
    | false => rfl
    | true => have := (prec_swo last rs).trans _ _ _ hq hp; simp_all

/-! the sort that keeps equal ones in their order -/
section
variable {α : Type} [Inhabited α]
theorem swp_fst (d : Array α) (j : Nat) (hj : j + 1 < d.size) : (swp d (j + 1) j)[j]! = d[j + 1]! := by
  simp [swp, Array.getElem!_eq_getD, Array.getD_eq_getD_getElem?, show j < d.size by omega]
theorem swp_snd (d : Array α) (j : Nat) (hj : j + 1 < d.size) : (swp d (j + 1) j)[j + 1]! = d[j]! := by
  simp [swp, show j < d.size by omega, hj]
theorem swp_far (d : Array α) (j k : Nat) (h1 : k ≠ j) (h2 : k ≠ j + 1) : (swp d (j + 1) j)[k]! = d[k]! := by
  simp [swp, Array.getElem!_eq_getD, Array.getD_eq_getD_getElem?, h1.symm, h2.symm]
theorem swp_len (d : Array α) (i j : Nat) : (swp d i j).size = d.size := by simp [swp]
theorem inner_len (lt : α → α → Bool) : ∀ (j : Nat) (d : Array α), (insInner lt 0 j d).size = d.size
  | 0, d => by rw [insInner]
  | j + 1, d => by
    rw [insInner]
    split
    · rw [inner_len lt j, swp_len]
    · rfl
theorem inner_far (lt : α → α → Bool) : ∀ (j : Nat) (d : Array α) (k : Nat), j < k → (insInner lt 0 j d)[k]! = d[k]!
  | 0, d, k, _ => by rw [insInner]
  | j + 1, d, k, hk => by
    rw [insInner]
    split
    · rw [inner_far lt j _ k (by omega), swp_far d j k (by omega) (by omega)]
    · rfl
theorem inner_all (lt : α → α → Bool) (p : α → Prop) : ∀ (j : Nat) (d : Array α), j < d.size → (∀ k, k ≤ j → p d[k]!) → ∀ k, k ≤ j → p (insInner lt 0 j d)[k]!
  | 0, d, _, h, k, hk => by rw [insInner]; exact h k hk
  | j + 1, d, hj, h, k, hk => by
    rw [insInner]
    split
    · by_cases e : k = j + 1
      · subst e
        rw [inner_far lt j _ _ (by omega), swp_snd d j hj]
        exact h j (by omega)
      · refine inner_all lt p j _ (by rw [swp_len]; omega) (fun i hi => ?_) k (by omega)
        by_cases e' : i = j
        · subst e'; rw [swp_fst d i hj]; exact h _ (Nat.le_refl _)
        · rw [swp_far d j i e' (by omega)]; exact h i (by omega)
    · exact h k hk
theorem inner_eq (lt q : α → α → Bool) (key : α → Nat) (hq : ∀ x y, key y < key x → lt x y = q x y) : ∀ (j : Nat) (d : Array α), j < d.size → (∀ k, k < j → key d[k]! < key d[j]!) → insInner lt 0 j d = insInner q 0 j d
  | 0, d, _, _ => by rw [insInner, insInner]
  | j + 1, d, hj, h => by
    rw [insInner, insInner, hq _ _ (h j (by omega))]
    split
    · refine inner_eq lt q key hq j _ (by rw [swp_len]; omega) (fun k hk => ?_)
      rw [swp_fst d j hj, swp_far d j k (by omega) (by omega)]
      exact h k (by omega)
    · rfl
theorem outer_eq (lt q : α → α → Bool) (key : α → Nat) (hq : ∀ x y, key y < key x → lt x y = q x y) (n : Nat) : ∀ (m i : Nat) (d : Array α), n - i = m → n ≤ d.size → (∀ k, k < i → key d[k]! < i) → (∀ k, i ≤ k → k < n → key d[k]! = k) → insOuter lt 0 n i d = insOuter q 0 n i d
  | 0, i, d, hm, _, _, _ => by rw [insOuter_stop lt 0 n i d (by omega), insOuter_stop q 0 n i d (by omega)]
  | m + 1, i, d, hm, hs, h1, h2 => by
    rw [insOuter_go lt 0 n i d (by omega), insOuter_go q 0 n i d (by omega)]
    rw [inner_eq lt q key hq i d (by omega) (fun k hk => by rw [h2 i (by omega) (by omega)]; exact h1 k hk)]
    refine outer_eq lt q key hq n m (i + 1) _ (by omega) (by rw [inner_len]; exact hs) (fun k hk => ?_) (fun k hk hn => ?_)
    · refine inner_all q (fun x => key x < i + 1) i d (by omega) (fun k' hk' => ?_) k (by omega)
      by_cases e : k' = i
      · subst e; rw [h2 k' (by omega) (by omega)]; omega
      · have := h1 k' (by omega); omega
    · rw [inner_far q i d k (by omega)]; exact h2 k (by omega) hn
theorem sort_eq (lt q : α → α → Bool) (key : α → Nat) (hq : ∀ x y, key y < key x → lt x y = q x y) (d : Array α) (h0 : 0 < d.size) (hk : ∀ k, k < d.size → key d[k]! = k) : insertionSort lt d 0 d.size = insertionSort q d 0 d.size := by
  unfold insertionSort
  refine outer_eq lt q key hq d.size _ _ d rfl (Nat.le_refl _) (fun k h => ?_) (fun k _ h => hk k h)
  have := hk k (by omega); omega
end
end Go.Proofs.YtdefjnefkdemiaaGreatDoor.Deal
