/- The plain law of quantiles: the least entry that is enough is the one at its place in the sorted list. -/
namespace Go.Proofs.Ytdnikegakcdcnaa.Quant

/-- how many of l are at most e -/
def cnt (l : List Int) (e : Int) : Nat := l.countP fun x => decide (x ≤ e)
theorem cnt_snoc (l : List Int) (k : Nat) (h : k < l.length) (e : Int) : cnt (l.take (k + 1)) e = cnt (l.take k) e + if l[k] ≤ e then 1 else 0 := by
  rw [List.take_succ_eq_append_getElem h]
  unfold cnt
  rw [List.countP_append]
  simp [List.countP_cons]
theorem cnt_le (l : List Int) (e : Int) : cnt l e ≤ l.length := List.countP_le_length

/-- e is less than what is found so far -/
def less (r : Option Int) (e : Int) : Bool := match r with | none => true | some b => decide (e < b)
/-- the least that passes, as it is looked for from the left -/
def least (P : Int → Bool) (l : List Int) : Option Int := l.foldl (fun r e => if P e && less r e then some e else r) none
theorem least_snoc (P : Int → Bool) (l : List Int) (k : Nat) (h : k < l.length) : least P (l.take (k + 1)) = if P l[k] && less (least P (l.take k)) l[k] then some l[k] else least P (l.take k) := by
  rw [List.take_succ_eq_append_getElem h]
  unfold least
  rw [List.foldl_append]
  rfl
theorem least_nil (P : Int → Bool) : least P [] = none := rfl
theorem least_app (P : Int → Bool) (l : List Int) (x : Int) : least P (l ++ [x]) = if P x && less (least P l) x then some x else least P l := by
  unfold least
  rw [List.foldl_append]
  rfl
theorem least_spec (P : Int → Bool) (l : List Int) : (least P l = none → ∀ e ∈ l, P e = false) ∧ ∀ b, least P l = some b → b ∈ l ∧ P b = true ∧ ∀ e ∈ l, P e = true → b ≤ e := by
  suffices H : ∀ n, ∀ l : List Int, l.length = n → (least P l = none → ∀ e ∈ l, P e = false) ∧ ∀ b, least P l = some b → b ∈ l ∧ P b = true ∧ ∀ e ∈ l, P e = true → b ≤ e from H _ l rfl
  intro n
  induction n with
  | zero =>
    intro l hl
    obtain rfl : l = [] := List.eq_nil_of_length_eq_zero hl
    exact ⟨fun _ e he => by simp at he, fun b hb => by simp [least_nil] at hb⟩
  | succ n ih =>
    intro l hl
    obtain ⟨m, x, rfl⟩ : ∃ m x, l = m ++ [x] := by
      have hne : l ≠ [] := by intro h; subst h; simp at hl
      exact ⟨l.dropLast, l.getLast hne, (List.dropLast_concat_getLast hne).symm⟩
    obtain ⟨h1, h2⟩ := ih m (by simpa using hl)
    rw [least_app]
    unfold less
    cases hr : least P m with
    | none =>
      have h1' := h1 hr
      cases hx : P x with
      | false =>
        refine ⟨fun _ e he => ?_, fun b hb => by simp at hb⟩
        simp only [List.mem_append, List.mem_singleton] at he
        rcases he with he | rfl
        · exact h1' e he
        · exact hx
      | true =>
        refine ⟨fun h => by simp at h, fun b hb => ?_⟩
        obtain rfl : x = b := by simpa using hb
        refine ⟨by simp, hx, fun e he hp => ?_⟩
        simp only [List.mem_append, List.mem_singleton] at he
        rcases he with he | rfl
        · rw [h1' e he] at hp; cases hp
        · exact Int.le_refl _
    | some c =>
      obtain ⟨c1, c2, c3⟩ := h2 c hr
      by_cases hx : P x = true ∧ x < c
      · have : (P x && decide (x < c)) = true := by simp [hx.1, hx.2]
        simp only [this, if_true]
        refine ⟨fun h => by simp at h, fun b hb => ?_⟩
        obtain rfl : x = b := by simpa using hb
        refine ⟨by simp, hx.1, fun e he hp => ?_⟩
        simp only [List.mem_append, List.mem_singleton] at he
        rcases he with he | rfl
        · have := c3 e he hp; omega
        · exact Int.le_refl _
      · have : (P x && decide (x < c)) = false := by
          cases hp : P x with
          | false => rfl
          | true => simp; exact Int.not_lt.1 (fun h => hx ⟨hp, h⟩)
        simp only [this, Bool.false_eq_true, if_false]
        refine ⟨fun h => by simp at h, fun b hb => ?_⟩
        obtain rfl : c = b := by simpa using hb
        refine ⟨by simp [c1], c2, fun e he hp => ?_⟩
        simp only [List.mem_append, List.mem_singleton] at he
        rcases he with he | rfl
        · exact c3 e he hp
        · exact Int.not_lt.1 (fun h => hx ⟨hp, h⟩)

theorem cnt_perm {l s : List Int} (h : l.Perm s) (e : Int) : cnt l e = cnt s e := h.countP_eq _
/-- in a sorted list the entry at m has at least m + 1 at most as great -/
theorem cnt_sorted_ge (s : List Int) (hs : s.Pairwise (· ≤ ·)) (m : Nat) (hm : m < s.length) : m + 1 ≤ cnt s s[m] := by
  have h : cnt (s.take (m + 1)) s[m] = (s.take (m + 1)).length := by
    unfold cnt
    rw [List.countP_eq_length]
    intro x hx
    obtain ⟨i, hi, rfl⟩ := List.mem_iff_getElem.1 hx
    have hi' : i < m + 1 := by simp at hi; omega
    rw [List.getElem_take]
    rw [decide_eq_true_eq]
    rcases Nat.lt_or_ge i m with h | h
    · exact (List.pairwise_iff_getElem.1 hs) i m (by omega) hm h
    · obtain rfl : i = m := by omega
      exact Int.le_refl _
  have hsplit : cnt s s[m] = cnt (s.take (m + 1)) s[m] + cnt (s.drop (m + 1)) s[m] := by
    unfold cnt
    rw [← List.countP_append, List.take_append_drop]
  rw [hsplit, h]
  simp
  omega
/-- .. and what is less than it has at most m -/
theorem cnt_sorted_lt (s : List Int) (hs : s.Pairwise (· ≤ ·)) (m : Nat) (hm : m < s.length) (e : Int) (he : e < s[m]) : cnt s e ≤ m := by
  have h : cnt (s.drop m) e = 0 := by
    unfold cnt
    rw [List.countP_eq_zero]
    intro x hx
    obtain ⟨i, hi, rfl⟩ := List.mem_iff_getElem.1 hx
    rw [List.getElem_drop]
    simp only [decide_eq_true_eq]
    have hi' : m + i < s.length := by simp at hi; omega
    have : s[m] ≤ s[m + i] := by
      rcases Nat.eq_zero_or_pos i with h | h
      · subst h; exact Int.le_refl _
      · exact (List.pairwise_iff_getElem.1 hs) m (m + i) hm hi' (by omega)
    omega
  have hsplit : cnt s e = cnt (s.take m) e + cnt (s.drop m) e := by
    unfold cnt
    rw [← List.countP_append, List.take_append_drop]
  have := cnt_le (s.take m) e
  rw [hsplit, h]
  simp at this
  omega

/-- what is enough -/
def enough (l : List Int) (num den : Int) (e : Int) : Bool := decide (num * (l.length : Int) ≤ (cnt l e : Int) * den)
def srt (l : List Int) : List Int := l.mergeSort fun x y => decide (x ≤ y)
theorem srt_perm (l : List Int) : (srt l).Perm l := List.mergeSort_perm _ _
theorem srt_len (l : List Int) : (srt l).length = l.length := (srt_perm l).length_eq
theorem srt_sorted (l : List Int) : (srt l).Pairwise (· ≤ ·) := by
  have := List.pairwise_mergeSort (le := fun x y : Int => decide (x ≤ y)) (by intro a b c; simp; omega) (by intro a b; simp; omega) l
  exact this.imp (by intro a b h; simpa using h)

/-- the place -/
def place (n : Nat) (num den : Int) : Nat := (max ((num * n + den - 1).tdiv den) 1).toNat - 1
theorem place_lt (n : Nat) (num den : Int) (hn : 0 < n) (h1 : 1 ≤ den) (h2 : 0 ≤ num) (h3 : num ≤ den) : place n num den < n ∧ 1 ≤ max ((num * n + den - 1).tdiv den) 1 ∧ max ((num * n + den - 1).tdiv den) 1 ≤ n := by
  have h0 : 0 ≤ num * (n : Int) := Int.mul_nonneg h2 (by omega)
  have hle : num * (n : Int) ≤ den * n := Int.mul_le_mul_of_nonneg_right h3 (by omega)
  rw [Int.tdiv_eq_ediv_of_nonneg (by omega)] at *
  have : (num * n + den - 1) / den ≤ n := by
    apply Int.le_of_lt_add_one
    apply Int.ediv_lt_of_lt_mul (by omega)
    rw [Int.add_mul, Int.mul_comm (n : Int) den]
    omega
  unfold place
  rw [Int.tdiv_eq_ediv_of_nonneg (by omega)]
  omega

theorem quant (l : List Int) (num den : Int) (hn : 0 < l.length) (h1 : 1 ≤ den) (h2 : 0 ≤ num) (h3 : num ≤ den) : least (enough l num den) l = some ((srt l).getD (place l.length num den) 0) := by
  have hp := (place_lt l.length num den hn h1 h2 h3).1
  have hm : place l.length num den < (srt l).length := by rw [srt_len]; exact hp
  have hv : (srt l).getD (place l.length num den) 0 = (srt l)[place l.length num den] := by simp [hm]
  rw [hv]
  have hpd : (place l.length num den : Int) + 1 = max ((num * l.length + den - 1).tdiv den) 1 := by
    have := (place_lt l.length num den hn h1 h2 h3).2.1
    unfold place at *
    omega
  generalize place l.length num den = m at *
  have hnn : 0 ≤ num * (l.length : Int) := Int.mul_nonneg h2 (by omega)
  rw [Int.tdiv_eq_ediv_of_nonneg (by omega)] at hpd
  have hmem : (srt l)[m] ∈ l := (srt_perm l).mem_iff.1 (List.getElem_mem hm)
  have hc1 : num * (l.length : Int) ≤ ((m : Int) + 1) * den := by
    have h5 : (num * (l.length : Int) + den - 1) / den ≤ (m : Int) + 1 := by omega
    have h6 := Int.lt_ediv_add_one_mul_self (num * (l.length : Int) + den - 1) (show 0 < den by omega)
    have h7 := Int.mul_le_mul_of_nonneg_right h5 (show 0 ≤ den by omega)
    rw [Int.add_mul, Int.one_mul] at h6
    omega
  have hP : enough l num den (srt l)[m] = true := by
    unfold enough
    rw [decide_eq_true_eq, cnt_perm (srt_perm l).symm]
    have := cnt_sorted_ge (srt l) (srt_sorted l) m hm
    have := Int.mul_le_mul_of_nonneg_right (show (m : Int) + 1 ≤ (cnt (srt l) (srt l)[m] : Int) by omega) (show 0 ≤ den by omega)
    omega
  have hL : ∀ e ∈ l, enough l num den e = true → (srt l)[m] ≤ e := by
    intro e he hpe
    by_cases hlt : e < (srt l)[m]
    · exfalso
      have c1 := cnt_sorted_lt (srt l) (srt_sorted l) m hm e hlt
      rw [← cnt_perm (srt_perm l).symm] at c1
      have c2 : 1 ≤ cnt l e := by
        unfold cnt
        exact List.countP_pos_iff.2 ⟨e, he, by simp⟩
      unfold enough at hpe
      rw [decide_eq_true_eq] at hpe
      have h8 : (num * (l.length : Int) + den - 1) / den ≤ (cnt l e : Int) := by
        apply Int.le_of_lt_add_one
        apply Int.ediv_lt_of_lt_mul (by omega)
        rw [Int.add_mul]
        omega
      omega
    · omega
  obtain ⟨l1, l2⟩ := least_spec (enough l num den) l
  cases hr : least (enough l num den) l with
  | none => rw [l1 hr _ hmem] at hP; cases hP
  | some b =>
    obtain ⟨b1, b2, b3⟩ := l2 b hr
    have := b3 _ hmem hP
    have := hL b b1 b2
    rw [show b = (srt l)[m] by omega]
end Go.Proofs.Ytdnikegakcdcnaa.Quant
