/- Plain facts on fractions: no program in sight. -/
namespace Go.Proofs.YtfdpfkdfglombaaGreatDoor.Frac

/-- what a comparison of two numbers says: -1, 0 or 1 -/
def cmpI (x y : Int) : Int := if x < y then -1 else if y < x then 1 else 0

theorem cmpI_lt {x y : Int} (h : x < y) : cmpI x y = -1 := by unfold cmpI; rw [if_pos h]
theorem cmpI_gt {x y : Int} (h : y < x) : cmpI x y = 1 := by unfold cmpI; rw [if_neg (by omega), if_pos h]
theorem cmpI_eq {x y : Int} (h : x = y) : cmpI x y = 0 := by unfold cmpI; rw [if_neg (by omega), if_neg (by omega)]
theorem cmpI_cases (x y : Int) : (x < y ∧ cmpI x y = -1) ∨ (x = y ∧ cmpI x y = 0) ∨ (y < x ∧ cmpI x y = 1) := by
  unfold cmpI; split
  · exact .inl ⟨by assumption, rfl⟩
  · split
    · exact .inr (.inr ⟨by assumption, rfl⟩)
    · exact .inr (.inl ⟨by omega, rfl⟩)
theorem cmpI_bd (x y : Int) : -1 ≤ cmpI x y ∧ cmpI x y ≤ 1 := by
  rcases cmpI_cases x y with ⟨_, h⟩ | ⟨_, h⟩ | ⟨_, h⟩ <;> rw [h] <;> omega
theorem cmpI_sub {x y z t : Int} (h : x - y = z - t) : cmpI x y = cmpI z t := by
  rcases cmpI_cases x y with ⟨a, h1⟩ | ⟨a, h1⟩ | ⟨a, h1⟩ <;> rcases cmpI_cases z t with ⟨b, h2⟩ | ⟨b, h2⟩ | ⟨b, h2⟩ <;> omega
theorem cmpI_neg (x y : Int) : cmpI (-x) (-y) = cmpI y x := cmpI_sub (by omega)

/-- the comparison of two fractions with positive denominators -/
def cmpF (a b c d : Int) : Int := cmpI (a * d) (c * b)

/-- the program's way: the signs first, then the products of the sizes -/
def cmpS (a b c d : Int) : Int :=
  let n := cmpI (cmpI a 0) (cmpI c 0)
  if n ≠ 0 then n else
  let m := cmpI (a.natAbs * d.natAbs : Nat) (c.natAbs * b.natAbs : Nat)
  if a < 0 then -m else m

theorem cmpS_eq (a b c d : Int) (hb : 1 ≤ b) (hd : 1 ≤ d) : cmpS a b c d = cmpF a b c d := by
  have mulpos : ∀ x y : Int, 0 < x → 1 ≤ y → 0 < x * y := fun x y h1 h2 => Int.mul_pos h1 (by omega)
  have mulneg : ∀ x y : Int, x < 0 → 1 ≤ y → x * y < 0 := fun x y h1 h2 => by
    have := Int.mul_pos (show 0 < -x by omega) (show 0 < y by omega)
    rw [Int.neg_mul] at this; omega
  have e1 : ∀ x y : Int, 0 ≤ x → 1 ≤ y → ((x.natAbs * y.natAbs : Nat) : Int) = x * y := fun x y h1 h2 => by
    rw [Int.natCast_mul, Int.natAbs_of_nonneg h1, Int.natAbs_of_nonneg (by omega)]
  have e2 : ∀ x y : Int, x < 0 → 1 ≤ y → ((x.natAbs * y.natAbs : Nat) : Int) = -(x * y) := fun x y h1 h2 => by
    rw [Int.natCast_mul, Int.ofNat_natAbs_of_nonpos (by omega), Int.natAbs_of_nonneg (by omega), Int.neg_mul]
  unfold cmpS cmpF
  simp only
  rcases cmpI_cases a 0 with ⟨ha, h1⟩ | ⟨ha, h1⟩ | ⟨ha, h1⟩ <;> rcases cmpI_cases c 0 with ⟨hc, h2⟩ | ⟨hc, h2⟩ | ⟨hc, h2⟩ <;> rw [h1, h2]
  · rw [if_neg (by decide), if_pos ha, e2 a d ha hd, e2 c b hc hb, cmpI_neg]
    rcases cmpI_cases (c * b) (a * d) with ⟨h, k⟩ | ⟨h, k⟩ | ⟨h, k⟩ <;> rw [k]
    · rw [cmpI_gt h]; rfl
    · rw [cmpI_eq h.symm]; rfl
    · rw [cmpI_lt h]
  · rw [if_pos (by decide), cmpI_lt (x := a * d)]; · decide
    subst hc; have := mulneg a d ha hd; omega
  · rw [if_pos (by decide), cmpI_lt (x := a * d)]; · decide
    have := mulneg a d ha hd; have := mulpos c b hc hb; omega
  · rw [if_pos (by decide), cmpI_gt (y := c * b)]; · decide
    subst ha; have := mulneg c b hc hb; omega
  · rw [if_neg (by decide), if_neg (by omega)]; subst ha; subst hc; simp
  · rw [if_pos (by decide), cmpI_lt (x := a * d)]; · decide
    subst ha; have := mulpos c b hc hb; omega
  · rw [if_pos (by decide), cmpI_gt (y := c * b)]; · decide
    have := mulpos a d ha hd; have := mulneg c b hc hb; omega
  · rw [if_pos (by decide), cmpI_gt (y := c * b)]; · decide
    subst hc; have := mulpos a d ha hd; omega
  · rw [if_neg (by decide), if_neg (by omega), e1 a d (by omega) hd, e1 c b (by omega) hb]

/-- one step of the reference's way: the whole parts -/
theorem cmpF_floor_lt (a b c d : Int) (hb : 1 ≤ b) (hd : 1 ≤ d) (h : a / b < c / d) : cmpF a b c d = -1 := by
  unfold cmpF
  apply cmpI_lt
  have h1 : a < (a / b + 1) * b := by
    have := Int.lt_ediv_add_one_mul_self a (show 0 < b by omega); simpa using this
  have h2 : c / d * d ≤ c := Int.ediv_mul_le c (by omega)
  have h3 : (a / b + 1) * b ≤ c / d * b := Int.mul_le_mul_of_nonneg_right (by omega) (by omega)
  have h4 : a * d < (c / d * b) * d := Int.mul_lt_mul_of_pos_right (by omega) (by omega)
  have h5 : (c / d * d) * b ≤ c * b := Int.mul_le_mul_of_nonneg_right h2 (by omega)
  have h6 : (c / d * b) * d = (c / d * d) * b := by rw [Int.mul_assoc, Int.mul_assoc, Int.mul_comm b d]
  omega
theorem cmpF_swap (a b c d : Int) : cmpF c d a b = - cmpF a b c d := by
  unfold cmpF
  rcases cmpI_cases (a * d) (c * b) with ⟨h, k⟩ | ⟨h, k⟩ | ⟨h, k⟩ <;> rw [k]
  · rw [cmpI_gt h]; rfl
  · rw [cmpI_eq h.symm]; rfl
  · rw [cmpI_lt h]
theorem cmpF_floor_ne (a b c d : Int) (hb : 1 ≤ b) (hd : 1 ≤ d) (h : a / b ≠ c / d) : cmpF a b c d = cmpI (a / b) (c / d) := by
  by_cases h' : a / b < c / d
  · rw [cmpF_floor_lt a b c d hb hd h', cmpI_lt h']
  · have h'' : c / d < a / b := by omega
    have := cmpF_floor_lt c d a b hd hb h''
    rw [cmpF_swap a b c d] at this
    rw [cmpI_gt h'']; omega
/-- ... and what is left of them -/
theorem cmpF_rest (a b c d : Int) (h : a / b = c / d) : cmpF a b c d = cmpF (a - a / b * b) b (c - c / d * d) d := by
  unfold cmpF
  apply cmpI_sub
  rw [Int.sub_mul, Int.sub_mul, h]
  have e : c / d * b * d = c / d * d * b := by rw [Int.mul_assoc, Int.mul_assoc, Int.mul_comm b d]
  omega
theorem cmpF_rest0 (r b s d : Int) (hb : 1 ≤ b) (hd : 1 ≤ d) (hr : 0 ≤ r) (hs : 0 ≤ s) (h : r = 0 ∨ s = 0) : cmpF r b s d = cmpI r s := by
  unfold cmpF
  rcases h with h | h
  · subst h
    rw [Int.zero_mul]
    rcases Int.lt_or_eq_of_le hs with h | h
    · have := Int.mul_pos h (show 0 < b by omega)
      rw [cmpI_lt this, cmpI_lt h]
    · subst h; simp
  · subst h
    rw [Int.zero_mul]
    rcases Int.lt_or_eq_of_le hr with h | h
    · have := Int.mul_pos h (show 0 < d by omega)
      rw [cmpI_gt this, cmpI_gt h]
    · subst h; simp
theorem cmpF_turn (r b s d : Int) : cmpF d s b r = cmpF r b s d := by
  unfold cmpF; rw [Int.mul_comm d r, Int.mul_comm b s]

/-- the greatest common divisor of the sizes -/
def gg (n d : Int) : Int := (Nat.gcd n.natAbs d.natAbs : Nat)
theorem gg_pos (n d : Int) (hd : d ≠ 0) : 1 ≤ gg n d := by
  unfold gg
  have : 0 < Nat.gcd n.natAbs d.natAbs := Nat.gcd_pos_of_pos_right _ (by omega)
  omega
theorem gg_le (n d : Int) (hd : d ≠ 0) : gg n d ≤ d.natAbs := by
  unfold gg
  have : Nat.gcd n.natAbs d.natAbs ≤ d.natAbs := Nat.gcd_le_right _ (by omega)
  omega
theorem gg_neg (n d : Int) : gg (-n) (-d) = gg n d := by unfold gg; rw [Int.natAbs_neg, Int.natAbs_neg]
theorem gg_dvd_left (n d : Int) : gg n d ∣ n := by
  unfold gg; rw [← Int.dvd_natAbs]; exact Int.ofNat_dvd.2 (Nat.gcd_dvd_left _ _)
theorem gg_dvd_right (n d : Int) : gg n d ∣ d := by
  unfold gg; rw [← Int.dvd_natAbs]; exact Int.ofNat_dvd.2 (Nat.gcd_dvd_right _ _)
/-- the fraction in lowest terms, its denominator above 0 -/
def redN (n d : Int) : Int := (if d < 0 then -n else n).tdiv (gg n d)
def redD (n d : Int) : Int := (if d < 0 then -d else d).tdiv (gg n d)
theorem tdiv_abs_le (n g : Int) : -(n.natAbs : Int) ≤ n.tdiv g ∧ n.tdiv g ≤ n.natAbs := by
  have h := Int.natAbs_tdiv_le_natAbs n g
  omega
theorem redN_bd (n d : Int) : -(n.natAbs : Int) ≤ redN n d ∧ redN n d ≤ n.natAbs := by
  unfold redN
  have h := tdiv_abs_le (if d < 0 then -n else n) (gg n d)
  split at h <;> split <;> omega
theorem redD_bd (n d : Int) (hd : d ≠ 0) : 1 ≤ redD n d ∧ redD n d ≤ d.natAbs := by
  unfold redD
  have h := tdiv_abs_le (if d < 0 then -d else d) (gg n d)
  have hp := gg_pos n d hd
  have hl := gg_le n d hd
  have e : (if d < 0 then -d else d) = (d.natAbs : Int) := by split <;> omega
  rw [e] at h ⊢
  refine ⟨?_, by omega⟩
  rw [Int.tdiv_eq_ediv_of_nonneg (by omega)]
  exact (Int.le_ediv_iff_mul_le (by omega)).2 (by omega)
theorem red_same (n d : Int) (hd : 1 ≤ d) : (redN n d = n ∧ redD n d = d) ↔ gg n d = 1 := by
  unfold redN redD
  rw [if_neg (by omega), if_neg (by omega)]
  constructor
  · rintro ⟨_, h⟩
    have hp := gg_pos n d (by omega)
    rw [Int.tdiv_eq_ediv_of_nonneg (by omega)] at h
    have h2 := Int.ediv_mul_cancel (gg_dvd_right n d)
    rw [h] at h2
    have : d * gg n d = d * 1 := by omega
    exact Int.eq_of_mul_eq_mul_left (by omega) this
  · intro h; rw [h]; simp
/-- the value of a reduced fraction is that of the fraction -/
theorem red_mul (n d : Int) (hd : 1 ≤ d) : redN n d * gg n d = n ∧ redD n d * gg n d = d := by
  unfold redN redD
  rw [if_neg (by omega), if_neg (by omega)]
  exact ⟨Int.tdiv_mul_cancel (gg_dvd_left n d), Int.tdiv_mul_cancel (gg_dvd_right n d)⟩
theorem cmpI_mul (x y g : Int) (hg : 1 ≤ g) : cmpI (x * g) (y * g) = cmpI x y := by
  rcases cmpI_cases x y with ⟨h, k⟩ | ⟨h, k⟩ | ⟨h, k⟩ <;> rw [k]
  · exact cmpI_lt (Int.mul_lt_mul_of_pos_right h (by omega))
  · subst h; exact cmpI_eq rfl
  · exact cmpI_gt (Int.mul_lt_mul_of_pos_right h (by omega))
theorem cmpF_red_left (n d c e : Int) (hd : 1 ≤ d) : cmpF (redN n d) (redD n d) c e = cmpF n d c e := by
  obtain ⟨h1, h2⟩ := red_mul n d hd
  have hg := gg_pos n d (by omega)
  unfold cmpF
  have e1 : n * e = redN n d * e * gg n d := by
    conv => lhs; rw [← h1]
    rw [Int.mul_assoc, Int.mul_assoc, Int.mul_comm e]
  have e2 : c * d = c * redD n d * gg n d := by
    conv => lhs; rw [← h2]
    rw [Int.mul_assoc]
  rw [e1, e2, cmpI_mul _ _ _ hg]
theorem cmpF_red_right (n d c e : Int) (he : 1 ≤ e) : cmpF n d (redN c e) (redD c e) = cmpF n d c e := by
  have h := cmpF_red_left c e n d he
  rw [cmpF_swap, cmpF_swap n d c e] at h
  omega
/-- is a fraction right? -/
def rightB (n d : Int) : Bool := decide (-4611686018427387904 ≤ n ∧ n ≤ 4611686018427387904 ∧ 1 ≤ d ∧ d ≤ 4611686018427387904 ∧ gg n d = 1)

end Go.Proofs.YtfdpfkdfglombaaGreatDoor.Frac
