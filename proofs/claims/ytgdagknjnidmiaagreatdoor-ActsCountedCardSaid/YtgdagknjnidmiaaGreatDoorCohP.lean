/- Cohorts, as plain lists: who did something in which period; who began when; how many of those came back. -/
import Derived.Test.YtgdagknjnidmiaaGreatDoorActP
set_option linter.unusedVariables false
namespace Go.Proofs.YtgdagknjnidmiaaGreatDoor
open Go.RowKit

/-- the period of an act -/
def perN (L : Nat) (x : Ac) : Nat := x.at_.toNat / L
def ckK (acts : List Ac) : Nat → List ByteArray
  | 0 => []
  | k + 1 => addK (ckK acts k) (acts.getD k default).sent
theorem getD_at {acts : List Ac} {k : Nat} (h : k < acts.length) : acts.getD k default = acts[k] := by simp [List.getD_eq_getElem?_getD, List.getElem?_eq_getElem h]
theorem ckK_succ (acts : List Ac) (k : Nat) (h : k < acts.length) : ckK acts (k + 1) = addK (ckK acts k) acts[k].sent := by
  show addK _ _ = _
  rw [getD_at h]
theorem ckK_nodup (acts : List Ac) : ∀ k, (ckK acts k).Nodup
  | 0 => List.nodup_nil
  | k + 1 => addK_nodup (ckK_nodup acts k) _
theorem ckK_len (acts : List Ac) : ∀ k, (ckK acts k).length ≤ k
  | 0 => Nat.le_refl _
  | k + 1 => by
    have ih := ckK_len acts k
    show (addK _ _).length ≤ k + 1
    unfold addK
    split
    · omega
    · simp; exact ih
theorem ckK_mem (acts : List Ac) : ∀ k, k ≤ acts.length → ∀ s, s ∈ ckK acts k ↔ ∃ a ∈ acts.take k, a.sent = s
  | 0, _, s => by simp [ckK]
  | k + 1, hk, s => by
    have ih := ckK_mem acts k (by omega) s
    rw [ckK_succ _ _ (by omega), addK_mem, ih, List.take_succ_eq_append_getElem (by omega)]
    constructor
    · rintro (⟨a, ha, e⟩ | e)
      · exact ⟨a, List.mem_append.2 (.inl ha), e⟩
      · exact ⟨acts[k], List.mem_append.2 (.inr (List.mem_singleton.2 rfl)), e.symm⟩
    · rintro ⟨a, ha, e⟩
      rcases List.mem_append.1 ha with ha | ha
      · exact .inl ⟨a, ha, e⟩
      · right; rw [← e, List.mem_singleton.1 ha]
/-- did s do something in period p -/
def cHas (acts : List Ac) (L k : Nat) (s : ByteArray) (p : Nat) : Bool := (acts.take k).any fun a => sameS a.sent s && decide (perN L a = p)
theorem cHas_succ (acts : List Ac) (L k : Nat) (h : k < acts.length) (s : ByteArray) (p : Nat) : cHas acts L (k + 1) s p = (cHas acts L k s p || (sameS acts[k].sent s && decide (perN L acts[k] = p))) := by
  unfold cHas
  rw [List.take_succ_eq_append_getElem h, List.any_append]
  simp
theorem cHas_iff (acts : List Ac) (L k : Nat) (s : ByteArray) (p : Nat) : cHas acts L k s p = true ↔ ∃ a ∈ acts.take k, a.sent = s ∧ perN L a = p := by
  unfold cHas
  rw [List.any_eq_true]
  constructor
  · rintro ⟨a, ha, h⟩
    rw [Bool.and_eq_true, decide_eq_true_eq, sameS_eq] at h
    exact ⟨a, ha, h⟩
  · rintro ⟨a, ha, h1, h2⟩
    exact ⟨a, ha, by rw [Bool.and_eq_true, decide_eq_true_eq, sameS_eq]; exact ⟨h1, h2⟩⟩
/-- when s began, as far as k acts tell -/
def cFst (acts : List Ac) (L : Nat) : Nat → ByteArray → Nat
  | 0, _ => 0
  | k + 1, s => if sameS (acts.getD k default).sent s = true then (if hasS (ckK acts k) s = true ∧ ¬ perN L (acts.getD k default) < cFst acts L k s then cFst acts L k s else perN L (acts.getD k default)) else cFst acts L k s
theorem cFst_succ (acts : List Ac) (L k : Nat) (h : k < acts.length) (s : ByteArray) : cFst acts L (k + 1) s = if sameS acts[k].sent s = true then (if hasS (ckK acts k) s = true ∧ ¬ perN L acts[k] < cFst acts L k s then cFst acts L k s else perN L acts[k]) else cFst acts L k s := by
  show (if _ then _ else _) = _
  rw [getD_at h]
theorem cFst_min (acts : List Ac) (L : Nat) : ∀ k, k ≤ acts.length → ∀ s, s ∈ ckK acts k → (∃ a ∈ acts.take k, a.sent = s ∧ perN L a = cFst acts L k s) ∧ ∀ a ∈ acts.take k, a.sent = s → cFst acts L k s ≤ perN L a
  | 0, _, s, h => by cases h
  | k + 1, hk, s, h => by
    have hk' : k < acts.length := by omega
    have ih := cFst_min acts L k (by omega) s
    rw [cFst_succ _ _ _ hk', List.take_succ_eq_append_getElem hk']
    by_cases e : sameS acts[k].sent s = true
    · have es := sameS_eq.1 e
      rw [if_pos e]
      by_cases hh : hasS (ckK acts k) s = true
      · obtain ⟨⟨a0, ha0, e1, e2⟩, hle⟩ := ih (hasS_mem.1 hh)
        by_cases hp : perN L acts[k] < cFst acts L k s
        · rw [if_neg (fun h => h.2 hp)]
          refine ⟨⟨acts[k], List.mem_append.2 (.inr (List.mem_singleton.2 rfl)), es, rfl⟩, fun a ha e3 => ?_⟩
          rcases List.mem_append.1 ha with ha | ha
          · have := hle a ha e3; omega
          · rw [List.mem_singleton.1 ha]; exact Nat.le_refl _
        · rw [if_pos ⟨hh, hp⟩]
          refine ⟨⟨a0, List.mem_append.2 (.inl ha0), e1, e2⟩, fun a ha e3 => ?_⟩
          rcases List.mem_append.1 ha with ha | ha
          · exact hle a ha e3
          · rw [List.mem_singleton.1 ha]; omega
      · rw [if_neg (fun h => hh h.1)]
        refine ⟨⟨acts[k], List.mem_append.2 (.inr (List.mem_singleton.2 rfl)), es, rfl⟩, fun a ha e3 => ?_⟩
        rcases List.mem_append.1 ha with ha | ha
        · exact absurd (hasS_mem.2 ((ckK_mem acts k (by omega) s).2 ⟨a, ha, e3⟩)) hh
        · rw [List.mem_singleton.1 ha]; exact Nat.le_refl _
    · rw [if_neg e]
      rw [ckK_succ _ _ hk'] at h
      rcases addK_mem.1 h with h | h
      · obtain ⟨⟨a0, ha0, e1, e2⟩, hle⟩ := ih h
        refine ⟨⟨a0, List.mem_append.2 (.inl ha0), e1, e2⟩, fun a ha e3 => ?_⟩
        rcases List.mem_append.1 ha with ha | ha
        · exact hle a ha e3
        · exact absurd (sameS_eq.2 (by rw [← List.mem_singleton.1 ha]; exact e3)) e
      · exact absurd (sameS_eq.2 h.symm) e
theorem cFst_bd (acts : List Ac) (L M : Nat) (h : ∀ a ∈ acts, perN L a ≤ M) : ∀ k s, k ≤ acts.length → cFst acts L k s ≤ M
  | 0, _, _ => Nat.zero_le _
  | k + 1, s, hk => by
    have ih := cFst_bd acts L M h k s (by omega)
    have h1 := h acts[k] (List.getElem_mem (by omega))
    rw [cFst_succ _ _ _ (by omega)]
    split
    · split <;> omega
    · exact ih
/-- how many of ks began in i and did something j periods later -/
def coC (ks : List ByteArray) (F : ByteArray → Nat) (H : ByteArray → Nat → Bool) (i j : Nat) : Nat := (ks.filter fun s => decide (F s = i) && H s (i + j)).length
theorem filter_one (P P' : ByteArray → Bool) (s : ByteArray) (h1 : P s = false) (h2 : P' s = true) (h3 : ∀ t, t ≠ s → P' t = P t) : ∀ ks : List ByteArray, ks.Nodup → s ∈ ks → (ks.filter P').length = (ks.filter P).length + 1
  | [], _, h => by cases h
  | x :: ks, hn, hm => by
    rw [List.nodup_cons] at hn
    rcases List.mem_cons.1 hm with rfl | hm
    · have : ks.filter P' = ks.filter P := List.filter_congr fun t ht => h3 t (fun e => hn.1 (e ▸ ht))
      rw [List.filter_cons, if_pos h2, List.filter_cons, if_neg (by rw [h1]; simp), this]
      rfl
    · have ih := filter_one P P' s h1 h2 h3 ks hn.2 hm
      have hx : P' x = P x := h3 x (fun e => hn.1 (e ▸ hm))
      rw [List.filter_cons, List.filter_cons, hx]
      split
      · simp only [List.length_cons]; omega
      · exact ih
/-- an act more: nothing turns where it was seen, or falls out of the table -/
theorem co_stay {ks : List ByteArray} {F : ByteArray → Nat} {H H' : ByteArray → Nat → Bool} {s : ByteArray} {p : Nat} (hH : ∀ t q, H' t q = (H t q || (sameS s t && decide (p = q)))) (i j : Nat) (h : H s p = true ∨ ¬ (F s = i ∧ p = i + j)) : coC ks F H' i j = coC ks F H i j := by
  unfold coC
  congr 1
  refine List.filter_congr fun t _ => ?_
  rw [hH]
  by_cases e : sameS s t = true
  · have es := sameS_eq.1 e
    subst es
    by_cases hp : p = i + j
    · subst hp
      rcases h with h | h
      · rw [h, Bool.true_or]
      · have : ¬ F s = i := fun e => h ⟨e, rfl⟩
        rw [decide_eq_false this]; rfl
    · rw [decide_eq_false hp, Bool.and_false, Bool.or_false]
  · have e' : sameS s t = false := by simpa using e
    rw [e', Bool.false_and, Bool.or_false]
theorem co_more {ks : List ByteArray} (hn : ks.Nodup) {F : ByteArray → Nat} {H H' : ByteArray → Nat → Bool} {s : ByteArray} {p : Nat} (hs : s ∈ ks) (hH : ∀ t q, H' t q = (H t q || (sameS s t && decide (p = q)))) (h0 : H s p = false) (i j : Nat) (h : F s = i ∧ p = i + j) : coC ks F H' i j = coC ks F H i j + 1 := by
  obtain ⟨h1, h2⟩ := h
  unfold coC
  refine filter_one _ _ s ?_ ?_ (fun t ht => ?_) ks hn hs
  · rw [← h2, h0, Bool.and_false]
  · rw [hH, ← h2, h0, decide_eq_true h1, show sameS s s = true from sameS_eq.2 rfl, decide_eq_true rfl]; rfl
  · rw [hH]
    have : sameS s t = false := by
      cases hc : sameS s t
      · rfl
      · exact absurd (sameS_eq.1 hc).symm ht
    rw [this, Bool.false_and, Bool.or_false]
theorem co_snoc (ks : List ByteArray) (F : ByteArray → Nat) (H : ByteArray → Nat → Bool) (s : ByteArray) (i j : Nat) : coC (ks ++ [s]) F H i j = coC ks F H i j + (if F s = i ∧ H s (i + j) = true then 1 else 0) := by
  unfold coC
  rw [List.filter_append, List.length_append]
  congr 1
  by_cases h : F s = i ∧ H s (i + j) = true
  · rw [if_pos h]; simp [h.1, h.2]
  · rw [if_neg h]
    have : (decide (F s = i) && H s (i + j)) = false := by
      cases h2 : H s (i + j)
      · rw [Bool.and_false]
      · rw [decide_eq_false (fun e => h ⟨e, h2⟩)]; rfl
    simp [this]
theorem co_perm {ks ks' : List ByteArray} (h : ks.Perm ks') (F : ByteArray → Nat) (H : ByteArray → Nat → Bool) (i j : Nat) : coC ks F H i j = coC ks' F H i j := by
  unfold coC
  exact (h.filter _).length_eq
theorem co_le (ks : List ByteArray) (F : ByteArray → Nat) (H : ByteArray → Nat → Bool) (i j : Nat) : coC ks F H i j ≤ ks.length := List.length_filter_le _ _
/-- the error and the answer -/
def chE (acts : List Ac) (len many : Int) : Int := if acsF acts ≠ 0 then acsF acts else if len < 1 ∨ 4321440 < len ∨ many < 1 ∨ 60 < many then 1 else 0
def coA (acts : List Ac) (L : Nat) (i j : Nat) : Nat := coC (ckK acts acts.length) (cFst acts L acts.length) (cHas acts L acts.length) i j
/-- the least of some numbers -/
def minL (l : List Int) : Int := l.foldl (fun a b => if b < a then b else a) 4321440
theorem minL_snoc (l : List Int) (x : Int) : minL (l ++ [x]) = if x < minL l then x else minL l := by unfold minL; rw [List.foldl_append]; rfl
theorem minF (l : List Int) : ∀ m : Int, (l.foldl (fun a b => if b < a then b else a) m ≤ m ∧ ∀ x ∈ l, l.foldl (fun a b => if b < a then b else a) m ≤ x) ∧ (l.foldl (fun a b => if b < a then b else a) m = m ∨ l.foldl (fun a b => if b < a then b else a) m ∈ l) := by
  induction l with
  | nil => intro m; exact ⟨⟨Int.le_refl _, by simp⟩, .inl rfl⟩
  | cons x l ih =>
    intro m
    rw [List.foldl_cons]
    obtain ⟨⟨h1, h2⟩, h3⟩ := ih (if x < m then x else m)
    refine ⟨⟨?_, fun y hy => ?_⟩, ?_⟩
    · by_cases c : x < m
      · rw [if_pos c] at h1 ⊢; omega
      · rw [if_neg c] at h1 ⊢; exact h1
    · rcases List.mem_cons.1 hy with rfl | hy
      · by_cases c : y < m
        · rw [if_pos c] at h1 ⊢; exact h1
        · rw [if_neg c] at h1 ⊢; omega
      · exact h2 y hy
    · rcases h3 with h3 | h3
      · rw [h3]
        by_cases c : x < m
        · rw [if_pos c]; right; simp
        · rw [if_neg c]; left; rfl
      · right; exact List.mem_cons_of_mem _ h3
theorem minL_le (l : List Int) : minL l ≤ 4321440 ∧ ∀ x ∈ l, minL l ≤ x := (minF l 4321440).1
theorem minL_mem (l : List Int) : minL l = 4321440 ∨ minL l ∈ l := (minF l 4321440).2
end Go.Proofs.YtgdagknjnidmiaaGreatDoor
