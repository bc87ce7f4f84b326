/- Plain facts on binomial numbers: no program in sight. -/
namespace Go.Proofs.Ytdnikegakcdcnaa.Choose

/-- in how many ways k of n can be chosen -/
def ch : Nat → Nat → Nat
  | _, 0 => 1
  | 0, _ + 1 => 0
  | n + 1, k + 1 => ch n k + ch n (k + 1)

theorem ch_zero (n : Nat) : ch n 0 = 1 := by cases n <;> rfl
theorem ch_succ (n k : Nat) : ch (n + 1) (k + 1) = ch n k + ch n (k + 1) := rfl
theorem ch_gt : ∀ (n k : Nat), n < k → ch n k = 0
  | 0, 0, h => by omega
  | 0, _ + 1, _ => rfl
  | n + 1, 0, h => by omega
  | n + 1, k + 1, h => by rw [ch_succ, ch_gt n k (by omega), ch_gt n (k + 1) (by omega)]
theorem ch_self : ∀ n : Nat, ch n n = 1
  | 0 => rfl
  | n + 1 => by rw [ch_succ, ch_self n, ch_gt n (n + 1) (by omega)]
theorem ch_pos : ∀ (n k : Nat), k ≤ n → 0 < ch n k
  | n, 0, _ => by rw [ch_zero]; omega
  | 0, _ + 1, h => by omega
  | n + 1, k + 1, h => by rw [ch_succ]; have := ch_pos n k (by omega); omega
/-- (k + 1) C(n + 1, k + 1) = (n + 1) C(n, k) -/
theorem ch_absorb : ∀ n k : Nat, (k + 1) * ch (n + 1) (k + 1) = (n + 1) * ch n k
  | 0, 0 => rfl
  | 0, k + 1 => by rw [ch_gt 1 (k + 2) (by omega), ch_gt 0 (k + 1) (by omega)]; simp
  | n + 1, 0 => by
    have h := ch_absorb n 0
    rw [ch_succ, ch_zero]
    rw [ch_zero] at h
    omega
  | n + 1, k + 1 => by
    have h1 := ch_absorb n k
    have h2 := ch_absorb n (k + 1)
    rw [ch_succ (n + 1) (k + 1), Nat.mul_add]
    have e1 : (k + 1 + 1) * ch (n + 1) (k + 1) = (k + 1) * ch (n + 1) (k + 1) + ch (n + 1) (k + 1) := by rw [Nat.add_mul (k + 1), Nat.one_mul]
    rw [e1, h1, h2, ch_succ n k]
    have e2 : (n + 1 + 1) * (ch n k + ch n (k + 1)) = (n + 1) * ch n k + (n + 1) * ch n (k + 1) + (ch n k + ch n (k + 1)) := by rw [Nat.add_mul (n + 1), Nat.one_mul, Nat.mul_add]
    rw [e2]; omega
/-- (k + 1) C(n, k + 1) = C(n, k) (n - k) -/
theorem ch_step (n k : Nat) : (k + 1) * ch n (k + 1) = ch n k * (n - k) := by
  by_cases h : n ≤ k
  · rw [ch_gt n (k + 1) (by omega)]
    have : n - k = 0 := by omega
    rw [this]; simp
  · have h1 := ch_absorb n k
    rw [ch_succ, Nat.mul_add] at h1
    have h2 : (n + 1) * ch n k = (k + 1) * ch n k + ch n k * (n - k) := by
      rw [Nat.mul_comm (ch n k), ← Nat.add_mul]; congr 1; omega
    omega
/-- the step of the program: the factor and the divisor are reduced first -/
theorem ch_round (n i : Nat) (hi : i < n) : ch n i / Nat.gcd (ch n i) (i + 1) * ((n - i) / ((i + 1) / Nat.gcd (ch n i) (i + 1))) = ch n (i + 1) := by
  have hs := ch_step n i
  generalize hc : ch n (i + 1) = c at *
  generalize ho : ch n i = o at *
  have hop : 0 < o := by rw [← ho]; exact ch_pos n i (by omega)
  obtain ⟨q, hq⟩ : ∃ q, q = i + 1 := ⟨_, rfl⟩
  obtain ⟨m, hm⟩ : ∃ m, m = n - i := ⟨_, rfl⟩
  rw [← hq, ← hm] at hs ⊢
  have hqp : 0 < q := by omega
  have hd : 0 < Nat.gcd o q := Nat.gcd_pos_of_pos_left _ hop
  obtain ⟨o', h1⟩ := Nat.gcd_dvd_left o q
  obtain ⟨q', h2⟩ := Nat.gcd_dvd_right o q
  have hcop : Nat.Coprime (o / Nat.gcd o q) (q / Nat.gcd o q) := Nat.coprime_div_gcd_div_gcd hd
  generalize hg : Nat.gcd o q = d at *
  have e1 : o / d = o' := by rw [h1]; exact Nat.mul_div_cancel_left _ hd
  have e2 : q / d = q' := by rw [h2]; exact Nat.mul_div_cancel_left _ hd
  rw [e1, e2] at hcop ⊢
  have hq' : 0 < q' := by
    rcases Nat.eq_zero_or_pos q' with h | h
    · subst h; simp at h2; omega
    · exact h
  have h3 : q' * c = o' * m := by
    rw [h1, h2, Nat.mul_assoc, Nat.mul_assoc] at hs
    exact Nat.eq_of_mul_eq_mul_left hd hs
  have h4 : q' ∣ m := hcop.symm.dvd_of_dvd_mul_left ⟨c, h3.symm⟩
  obtain ⟨t, ht⟩ := h4
  rw [ht, Nat.mul_div_cancel_left _ hq']
  rw [ht, Nat.mul_left_comm] at h3
  exact (Nat.eq_of_mul_eq_mul_left hq' h3).symm
theorem ch_symm : ∀ (n k : Nat), k ≤ n → ch n k = ch n (n - k) := by
  intro n
  induction n with
  | zero => intro k hk; have : k = 0 := by omega
            subst this; rfl
  | succ n ih =>
    intro k hk
    rcases k with _ | k
    · rw [ch_zero, Nat.sub_zero, ch_self]
    · by_cases h : k = n
      · subst h; rw [ch_self, Nat.sub_self, ch_zero]
      · have e : n + 1 - (k + 1) = (n - (k + 1)) + 1 := by omega
        rw [e, ch_succ, ch_succ, ih k (by omega), ih (k + 1) (by omega)]
        have e2 : n - (k + 1) + 1 = n - k := by omega
        rw [e2]; omega
/-- sums of a row -/
def rowSum (n : Nat) : Nat → Nat
  | 0 => 0
  | k + 1 => rowSum n k + ch n k
theorem rowSum_succ (n : Nat) : ∀ k : Nat, rowSum (n + 1) (k + 1) = rowSum n (k + 1) + rowSum n k
  | 0 => by simp [rowSum, ch_zero]
  | k + 1 => by
    have h := rowSum_succ n k
    show rowSum (n + 1) (k + 1) + ch (n + 1) (k + 1) = rowSum n (k + 1) + ch n (k + 1) + (rowSum n k + ch n k)
    rw [h, ch_succ]; omega
theorem rowSum_le (n : Nat) : ∀ k : Nat, rowSum n k ≤ 2 ^ n := by
  induction n with
  | zero =>
    have : ∀ k, rowSum 0 (k + 1) = 1 := by
      intro k; induction k with
      | zero => rfl
      | succ k ih => show rowSum 0 (k + 1) + ch 0 (k + 1) = 1; rw [ih]; rfl
    intro k; cases k with
    | zero => simp [rowSum]
    | succ k => rw [this]; exact Nat.le_refl _
  | succ n ih =>
    intro k; cases k with
    | zero => simp [rowSum]
    | succ k => rw [rowSum_succ, Nat.pow_succ]; have := ih k; have := ih (k + 1); omega
theorem ch_le (n k : Nat) : ch n k ≤ 2 ^ n := by
  have h := rowSum_le n (k + 1)
  have : rowSum n (k + 1) = rowSum n k + ch n k := rfl
  omega

end Go.Proofs.Ytdnikegakcdcnaa.Choose
