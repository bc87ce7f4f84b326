/- How many different ones did something, as plain lists. -/
import Derived.Test.YtgdagknjnidmiaaGreatDoorActP
import Derived.Lib.SlicesCompact
set_option linter.unusedVariables false
namespace Go.Proofs.YtgdagknjnidmiaaGreatDoor
open Go.RowKit Go.Sort

section
variable {α : Type} [Inhabited α] [DecidableEq α]
theorem compact_mem (d : Array α) : ∀ m x, x ∈ Lib.compactUpTo d m ↔ ∃ j, j < m ∧ d[j]! = x
  | 0, x => by simp [Lib.compactUpTo]
  | m + 1, x => by
    have ih := compact_mem d m x
    rw [Lib.compactUpTo_succ, List.mem_append, ih]
    constructor
    · rintro (⟨j, hj, e⟩ | h)
      · exact ⟨j, by omega, e⟩
      · split at h
        · exact ⟨m, by omega, (List.mem_singleton.1 h).symm⟩
        · cases h
    · rintro ⟨j, hj, e⟩
      by_cases hjm : j < m
      · exact .inl ⟨j, hjm, e⟩
      · obtain rfl : j = m := by omega
        by_cases hk : Lib.keeps d j = true
        · right; rw [if_pos hk, e]; exact List.mem_singleton.2 rfl
        · left
          have h0 : j ≠ 0 := fun h => hk (by subst h; simp [Lib.keeps])
          refine ⟨j - 1, by omega, ?_⟩
          have : d[j]! = d[j - 1]! := by
            by_cases h : d[j]! = d[j - 1]!
            · exact h
            · exact absurd (Lib.keeps_pos h) hk
          rw [← this, e]
theorem compact_nodup (d : Array α) (le : α → α → Prop) (tr : ∀ a b c, le a b → le b c → le a c) (an : ∀ a b, le a b → le b a → a = b) : ∀ m, (∀ i j, i ≤ j → j < m → le d[i]! d[j]!) → (Lib.compactUpTo d m).Nodup
  | 0, _ => by simp [Lib.compactUpTo]
  | m + 1, hs => by
    have ih := compact_nodup d le tr an m (fun i j h1 h2 => hs i j h1 (by omega))
    rw [Lib.compactUpTo_succ]
    by_cases hk : Lib.keeps d m = true
    · rw [if_pos hk, List.nodup_append]
      refine ⟨ih, by simp, fun a ha b hb e => ?_⟩
      obtain rfl := List.mem_singleton.1 hb
      obtain ⟨j, hj, e2⟩ := (compact_mem d m a).1 ha
      unfold Lib.keeps at hk
      rcases of_decide_eq_true hk with h0 | h0
      · omega
      · refine h0 (an _ _ ?_ (hs (m - 1) m (by omega) (by omega)))
        rw [← e, ← e2]
        exact hs j (m - 1) (by omega) (by omega)
    · rw [if_neg hk, List.append_nil]; exact ih
end
/-- how many stay of a sorted list -/
theorem compact_len (zs : List (List UInt8)) (ks : List ByteArray) (hnd : ks.Nodup) (hmem : ∀ x, x ∈ ks ↔ x.data.toList ∈ zs) : (Lib.compact (zs.mergeSort fun x y => decide (x ≤ y))).length = ks.length := by
  obtain ⟨ss, hss⟩ : ∃ z, (zs.mergeSort fun x y => decide (x ≤ y)) = z := ⟨_, rfl⟩
  rw [hss]
  have tr : ∀ a b c : List UInt8, decide (a ≤ b) = true → decide (b ≤ c) = true → decide (a ≤ c) = true := fun a b c h1 h2 => by simp only [decide_eq_true_eq] at *; exact List.le_trans h1 h2
  have tt9 : ∀ a b : List UInt8, (decide (a ≤ b) || decide (b ≤ a)) = true := fun a b => by simp only [Bool.or_eq_true, decide_eq_true_eq]; exact List.le_total a b
  have hp : ss.Pairwise (fun a b => a ≤ b) := by rw [← hss]; exact (List.pairwise_mergeSort tr tt9 zs).imp fun {a b} h => by simpa using h
  have hm : ∀ x, x ∈ ss ↔ x ∈ zs := fun x => by rw [← hss]; exact (List.mergeSort_perm zs _).mem_iff
  have hget : ∀ j, j < ss.length → ss.toArray[j]! = ss[j]! := fun j hj => by simp
  have hN : (Lib.compact ss).Nodup := by
    unfold Lib.compact
    refine compact_nodup ss.toArray (fun a b => a ≤ b) (fun a b c h1 h2 => List.le_trans h1 h2) (fun a b h1 h2 => List.le_antisymm h1 h2) _ fun i j h1 h2 => ?_
    rcases Nat.lt_or_ge i j with h | h
    · have := (List.pairwise_iff_getElem.1 hp) i j (by omega) h2 h
      simpa [getElem!_pos, h2, show i < ss.length by omega] using this
    · obtain rfl : i = j := by omega
      exact List.le_refl _
  have hM : ∀ x, x ∈ Lib.compact ss ↔ x ∈ ss := fun x => by
    unfold Lib.compact
    rw [compact_mem]
    constructor
    · rintro ⟨j, hj, e⟩
      have : ss[j] ∈ ss := List.getElem_mem hj
      have e2 : ss.toArray[j]! = ss[j] := by simp [getElem!_pos, hj]
      rw [← e, e2]; exact this
    · intro h
      obtain ⟨j, hj, e⟩ := List.getElem_of_mem h
      exact ⟨j, hj, by rw [← e]; simp [getElem!_pos, hj]⟩
  have hK : (ks.map fun s => s.data.toList).Nodup := by
    rw [List.Nodup, List.pairwise_map]
    exact hnd.imp fun {a b} h e => h (sameS_eq.1 (decide_eq_true e))
  have hP : (Lib.compact ss).Perm (ks.map fun s => s.data.toList) := by
    refine (List.perm_ext_iff_of_nodup hN hK).2 fun x => ?_
    rw [hM, hm, List.mem_map]
    constructor
    · intro h
      exact ⟨⟨⟨x⟩⟩, (hmem ⟨⟨x⟩⟩).2 h, rfl⟩
    · rintro ⟨s, hs, rfl⟩
      exact (hmem s).1 hs
  rw [hP.length_eq, List.length_map]
/-- is it the act asked for -/
def inW (kind a b : Int) (x : Ac) : Bool := decide (x.kind = kind) && (decide (a ≤ x.at_) && decide (x.at_ < b))
def uqK (acts : List Ac) (kind a b : Int) : Nat → List ByteArray
  | 0 => []
  | k + 1 => if inW kind a b (acts.getD k default) = true then addK (uqK acts kind a b k) (acts.getD k default).sent else uqK acts kind a b k
theorem uqK_succ (acts : List Ac) (kind a b : Int) (k : Nat) (h : k < acts.length) : uqK acts kind a b (k + 1) = if inW kind a b acts[k] = true then addK (uqK acts kind a b k) acts[k].sent else uqK acts kind a b k := by
  show (if _ then _ else _) = _
  simp [List.getD_eq_getElem?_getD, List.getElem?_eq_getElem h]
theorem uqK_nodup (acts : List Ac) (kind a b : Int) : ∀ k, (uqK acts kind a b k).Nodup
  | 0 => List.nodup_nil
  | k + 1 => by
    have ih := uqK_nodup acts kind a b k
    unfold uqK
    split
    · exact addK_nodup ih _
    · exact ih
theorem uqK_len (acts : List Ac) (kind a b : Int) : ∀ k, (uqK acts kind a b k).length ≤ k
  | 0 => Nat.le_refl _
  | k + 1 => by
    have ih := uqK_len acts kind a b k
    unfold uqK
    split
    · unfold addK
      split
      · omega
      · simp; omega
    · omega
/-- those who did it, each time -/
def uqS (acts : List Ac) (kind a b : Int) (k : Nat) : List ByteArray := ((acts.take k).filter (inW kind a b)).map Ac.sent
theorem uqS_succ (acts : List Ac) (kind a b : Int) (k : Nat) (h : k < acts.length) : uqS acts kind a b (k + 1) = if inW kind a b acts[k] = true then uqS acts kind a b k ++ [acts[k].sent] else uqS acts kind a b k := by
  unfold uqS
  rw [List.take_succ_eq_append_getElem h, List.filter_append, List.map_append]
  by_cases hc : inW kind a b acts[k] = true
  · rw [if_pos hc]; simp [hc]
  · rw [if_neg hc]; simp [hc]
theorem uqS_len (acts : List Ac) (kind a b : Int) (k : Nat) : (uqS acts kind a b k).length ≤ k := by
  unfold uqS
  rw [List.length_map]
  exact Nat.le_trans (List.length_filter_le _ _) (by rw [List.length_take]; omega)
theorem uq_mem (acts : List Ac) (kind a b : Int) : ∀ k, k ≤ acts.length → ∀ x, x ∈ uqK acts kind a b k ↔ x ∈ uqS acts kind a b k
  | 0, _, x => by simp [uqK, uqS]
  | k + 1, hk, x => by
    have ih := uq_mem acts kind a b k (by omega) x
    rw [uqK_succ _ _ _ _ _ (by omega), uqS_succ _ _ _ _ _ (by omega)]
    split
    · rw [addK_mem, List.mem_append, List.mem_singleton, ih]
    · exact ih
/-- the error and the answer -/
def uqE (acts : List Ac) (kind a b : Int) : Int := if acsF acts ≠ 0 then acsF acts else if kndB kind = false then 4 else if a < 0 ∨ b < a ∨ 4321440 < b then 1 else 0
def uqN (acts : List Ac) (kind a b : Int) : Int := if uqE acts kind a b = 0 then ((uqK acts kind a b acts.length).length : Int) else 0
theorem uq_compact (acts : List Ac) (kind a b : Int) : (Lib.compact (((uqS acts kind a b acts.length).map fun s => s.data.toList).mergeSort fun x y => decide (x ≤ y))).length = (uqK acts kind a b acts.length).length :=
  compact_len _ _ (uqK_nodup _ _ _ _ _) fun x => by
    rw [uq_mem _ _ _ _ _ (Nat.le_refl _), List.mem_map]
    constructor
    · intro h; exact ⟨x, h, rfl⟩
    · rintro ⟨s, hs, e⟩
      have : s = x := sameS_eq.1 (decide_eq_true e)
      rw [← this]; exact hs
end Go.Proofs.YtgdagknjnidmiaaGreatDoor
