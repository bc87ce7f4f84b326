/- The arithmetic of dividing 128 bits by 64, a half at a time. -/
set_option linter.unusedVariables false
namespace Go.Proofs.YtdefjnefkdemiaaGreatDoor.Divs

theorem split (y1 y0 q : Nat) : (y1 * 4294967296 + y0) * q = q * y1 * 4294967296 + q * y0 := by
  rw [Nat.add_mul, Nat.mul_right_comm, Nat.mul_comm y1 q, Nat.mul_comm y0 q]

/-- a digit, and what is left; the numbers of 128 bits -/
def dq (u u1 y : Nat) : Nat := (u * 4294967296 + u1) / y
def dr (u u1 y : Nat) : Nat := (u * 4294967296 + u1) % y
def nq (hi lo y : Nat) : Nat := (hi * 18446744073709551616 + lo) / y
def nr (hi lo y : Nat) : Nat := (hi * 18446744073709551616 + lo) % y
/-- what holds of a digit that is tried: q and what is left by it -/
structure Trial (u u1 y1 y0 q r : Nat) : Prop where
  eq : q * y1 + r = u
  up : (u * 4294967296 + u1) / (y1 * 4294967296 + y0) ≤ q
  lt : r < 4294967296
  le : q ≤ 4294967297

theorem start (u u1 y1 y0 : Nat) (h1 : 2147483648 ≤ y1) (h2 : y1 < 4294967296) (h3 : y0 < 4294967296) (h4 : u1 < 4294967296) (hu : u < y1 * 4294967296 + y0) :
    Trial u u1 y1 y0 (u / y1) (u % y1) := by
  refine ⟨Nat.div_add_mod' u y1, ?_, Nat.lt_trans (Nat.mod_lt _ (by omega)) h2, ?_⟩
  · rw [Nat.le_div_iff_mul_le (by omega)]
    have h := Nat.div_mul_le_self (u * 4294967296 + u1) (y1 * 4294967296 + y0)
    generalize (u * 4294967296 + u1) / (y1 * 4294967296 + y0) = Q at *
    have e := split y1 y0 Q
    rw [Nat.mul_comm] at h
    generalize Q * y1 = p at *
    generalize Q * y0 = m at *
    omega
  · have : u / y1 < 4294967298 := by
      rw [Nat.div_lt_iff_lt_mul (by omega)]
      omega
    omega

theorem low (u u1 y1 y0 q r : Nat) (h : Trial u u1 y1 y0 q r) (h0 : 0 < y1) (ht : 4294967296 ≤ q ∨ 4294967296 * r + u1 < q * y0) (hu : u < y1 * 4294967296 + y0) (h4 : u1 < 4294967296) :
    (u * 4294967296 + u1) / (y1 * 4294967296 + y0) + 1 ≤ q := by
  rcases ht with ht | ht
  · have : (u * 4294967296 + u1) / (y1 * 4294967296 + y0) < 4294967296 := by
      refine Nat.div_lt_of_lt_mul ?_
      omega
    omega
  · refine Nat.div_lt_of_lt_mul ?_
    have e := split y1 y0 q
    have := h.eq
    generalize q * y1 = p at *
    generalize q * y0 = m at *
    omega

theorem step (u u1 y1 y0 q r : Nat) (h : Trial u u1 y1 y0 q r) (h0 : 0 < y1) (ht : 4294967296 ≤ q ∨ 4294967296 * r + u1 < q * y0) (hu : u < y1 * 4294967296 + y0) (h4 : u1 < 4294967296) (hr : r + y1 < 4294967296) :
    1 ≤ q ∧ Trial u u1 y1 y0 (q - 1) (r + y1) := by
  have hl := low u u1 y1 y0 q r h h0 ht hu h4
  have hl0 : 1 ≤ q := Nat.le_trans (Nat.succ_le_succ (Nat.zero_le _)) hl
  have hl1 : (u * 4294967296 + u1) / (y1 * 4294967296 + y0) ≤ q - 1 := Nat.le_sub_of_add_le hl
  refine ⟨hl0, ?_, hl1, hr, by have := h.le; omega⟩
  have := h.eq
  obtain ⟨k, rfl⟩ : ∃ k, q = k + 1 := ⟨q - 1, by omega⟩
  simp only [Nat.add_sub_cancel]
  rw [Nat.add_mul] at this
  omega

theorem stop (u u1 y1 y0 q r : Nat) (h : Trial u u1 y1 y0 q r) (h0 : 0 < y1) (ht : q * y0 ≤ 4294967296 * r + u1) :
    q = dq u u1 (y1 * 4294967296 + y0) := by
  unfold dq
  refine Nat.le_antisymm ?_ h.up
  rw [Nat.le_div_iff_mul_le (by omega), Nat.mul_comm]
  have e := split y1 y0 q
  have := h.eq
  generalize q * y1 = p at *
  generalize q * y0 = m at *
  omega

theorem brk (u u1 y1 y0 q r : Nat) (h : Trial u u1 y1 y0 q r) (h0 : 0 < y1) (h3 : y0 < 4294967296) (ht : 4294967296 ≤ q ∨ 4294967296 * r + u1 < q * y0) (hu : u < y1 * 4294967296 + y0) (h4 : u1 < 4294967296) (hr : 4294967296 ≤ r + y1) :
    1 ≤ q ∧ q - 1 = dq u u1 (y1 * 4294967296 + y0) := by
  unfold dq
  have hl := low u u1 y1 y0 q r h h0 ht hu h4
  have hl0 : 1 ≤ q := Nat.le_trans (Nat.succ_le_succ (Nat.zero_le _)) hl
  have hl1 : (u * 4294967296 + u1) / (y1 * 4294967296 + y0) ≤ q - 1 := Nat.le_sub_of_add_le hl
  refine ⟨hl0, Nat.le_antisymm ?_ hl1⟩
  rw [Nat.le_div_iff_mul_le (by omega), Nat.mul_comm]
  have := h.eq
  have hq := h.le
  obtain ⟨k, rfl⟩ : ∃ k, q = k + 1 := ⟨q - 1, by omega⟩
  simp only [Nat.add_sub_cancel]
  have e := split y1 y0 k
  rw [Nat.add_mul] at this
  have hm : k * y0 ≤ 4294967296 * 4294967295 := Nat.mul_le_mul (by omega) (by omega)
  generalize k * y1 = p at *
  generalize k * y0 = m at *
  omega

theorem digit_lt (u u1 Y : Nat) (h : u < Y) (h1 : u1 < 4294967296) : dq u u1 Y < 4294967296 := by
  refine Nat.div_lt_of_lt_mul ?_
  omega
theorem left_lt (u u1 Y : Nat) (h : 0 < Y) : dr u u1 Y < Y := Nat.mod_lt _ h
/-- the digit and what is left -/
theorem rest (u u1 y : Nat) (hy : y < 18446744073709551616) (h0 : 0 < y) :
    ((u : Int) * 4294967296 + u1 - (dq u u1 y : Int) * (y : Int)) % 18446744073709551616 = (dr u u1 y : Int) := by
  unfold dq dr
  have h := Nat.div_add_mod' (u * 4294967296 + u1) y
  have hl := Nat.mod_lt (u * 4294967296 + u1) h0
  have e : ((((u * 4294967296 + u1) / y : Nat) : Int) * (y : Int)) = (((u * 4294967296 + u1) / y * y : Nat) : Int) := (Int.natCast_mul _ _).symm
  rw [e]
  generalize (u * 4294967296 + u1) / y * y = p at *
  omega

/-- two digits, and what is left, of the numbers as they were -/
theorem whole (hi lo y s : Nat) (hlo : lo < 18446744073709551616) (hy : 0 < y) (un u1 u0 : Nat) (he : un * 18446744073709551616 + (u1 * 4294967296 + u0) = (hi * 18446744073709551616 + lo) * 2 ^ s)
    (h0 : u0 < 4294967296) :
    dq un u1 (y * 2 ^ s) * 4294967296 + dq (dr un u1 (y * 2 ^ s)) u0 (y * 2 ^ s) = nq hi lo y ∧
    dr (dr un u1 (y * 2 ^ s)) u0 (y * 2 ^ s) / 2 ^ s = nr hi lo y := by
  unfold dq dr nq nr
  have hs : 0 < 2 ^ s := Nat.two_pow_pos s
  have hY : 0 < y * 2 ^ s := Nat.mul_pos hy hs
  have h1 := Nat.div_add_mod' (un * 4294967296 + u1) (y * 2 ^ s)
  have e1 : (hi * 18446744073709551616 + lo) / y = ((hi * 18446744073709551616 + lo) * 2 ^ s) / (y * 2 ^ s) := (Nat.mul_div_mul_right _ _ hs).symm
  have e2 : ((hi * 18446744073709551616 + lo) * 2 ^ s) % (y * 2 ^ s) = (hi * 18446744073709551616 + lo) % y * 2 ^ s := Nat.mul_mod_mul_right _ _ _
  have e3 : (hi * 18446744073709551616 + lo) * 2 ^ s = (un * 4294967296 + u1) % (y * 2 ^ s) * 4294967296 + u0 + ((un * 4294967296 + u1) / (y * 2 ^ s) * 4294967296) * (y * 2 ^ s) := by
    rw [← he, Nat.mul_right_comm]
    generalize (un * 4294967296 + u1) / (y * 2 ^ s) * (y * 2 ^ s) = p at *
    omega
  rw [e3] at e2
  rw [Nat.add_mul_mod_self_right] at e2
  constructor
  · rw [e1, e3, Nat.add_mul_div_right _ _ hY, Nat.add_comm]
  · rw [e2, Nat.mul_div_cancel _ hs]
end Go.Proofs.YtdefjnefkdemiaaGreatDoor.Divs
