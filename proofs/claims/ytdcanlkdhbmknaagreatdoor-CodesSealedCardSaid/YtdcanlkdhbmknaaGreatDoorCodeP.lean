/- Codes: their signs, sums and numbers: the plain facts. -/
import Derived.Lib.Bytealg
import Derived.Lib.IndexLaws
set_option linter.unusedVariables false
namespace Go.Proofs.YtdcanlkdhbmknaaGreatDoor

/-- the signs of codes -/
def sgL : List UInt8 := [48, 49, 50, 51, 52, 53, 54, 55, 56, 57, 65, 66, 67, 68, 69, 70, 71, 72, 74, 75, 77, 78, 80, 81, 82, 84, 85, 86, 87, 88, 89]
def sgS : ByteArray := ⟨#[48, 49, 50, 51, 52, 53, 54, 55, 56, 57, 65, 66, 67, 68, 69, 70, 71, 72, 74, 75, 77, 78, 80, 81, 82, 84, 85, 86, 87, 88, 89]⟩
/-- where a byte stands among the signs; -1: nowhere -/
def ixS (c : UInt8) : Int := Lib.indexByte sgL c
theorem ixS_bd (c : UInt8) : -1 ≤ ixS c ∧ ixS c ≤ 30 := by
  have h : ∀ n, n < 256 → (decide (-1 ≤ ixS (UInt8.ofNat n)) && decide (ixS (UInt8.ofNat n) ≤ 30)) = true := by decide +kernel
  have := h c.toNat (UInt8.toNat_lt c)
  simpa using this
theorem ixS_mem (c : UInt8) : sgL.contains c = decide (0 ≤ ixS c) := by
  have h : ∀ n, n < 256 → sgL.contains (UInt8.ofNat n) = decide (0 ≤ ixS (UInt8.ofNat n)) := by decide +kernel
  have := h c.toNat (UInt8.toNat_lt c)
  simpa using this
/-- the sign at a place, as a string -/
def sgn (i : Nat) : ByteArray := sgS.extract i (i + 1)
theorem sgn_eq (i : Nat) (h : i < 31) : sgn i = ⟨#[sgL.getD i 0]⟩ := by
  have h' : ∀ i, i < 31 → sgn i = ⟨#[sgL.getD i 0]⟩ := by decide +kernel
  exact h' i h
theorem sgn_ix (i : Nat) (h : i < 31) : ixS (sgL.getD i 0) = (i : Int) := by
  have h' : ∀ i, i < 31 → ixS (sgL.getD i 0) = (i : Int) := by decide +kernel
  exact h' i h
theorem sgn_mem (i : Nat) (h : i < 31) : sgL.contains (sgL.getD i 0) = true := by
  rw [ixS_mem, sgn_ix i h]; simp

/-- all the bytes of a list are signs -/
def sgnB (l : List UInt8) : Bool := l.all (sgL.contains ·)
theorem sgnB_app (l m : List UInt8) : sgnB (l ++ m) = (sgnB l && sgnB m) := by simp [sgnB]

/-- the sum of a list of signs, the first of which has the weight i + 1 -/
def sumN : List UInt8 → Nat → Int
  | [], _ => 0
  | c :: l, i => ((i : Int) + 1) * ixS c + sumN l (i + 1)
theorem sumN_snoc (c : UInt8) : ∀ (l : List UInt8) (i : Nat), sumN (l ++ [c]) i = sumN l i + ((i : Int) + (l.length : Int) + 1) * ixS c
  | [], i => by simp [sumN]
  | d :: l, i => by
    simp only [List.cons_append, sumN, sumN_snoc c l (i + 1), List.length_cons]
    rw [show ((i + 1 : Nat) : Int) + (l.length : Int) + 1 = (i : Int) + ((l.length + 1 : Nat) : Int) + 1 by omega]
    omega
theorem mul_bd (a x : Int) (h0 : 0 ≤ a) (hx : -1 ≤ x ∧ x ≤ 30) : -a ≤ a * x ∧ a * x ≤ 30 * a := by
  have h1 : a * (-1) ≤ a * x := Int.mul_le_mul_of_nonneg_left hx.1 h0
  have h2 : a * x ≤ a * 30 := Int.mul_le_mul_of_nonneg_left hx.2 h0
  omega
theorem sumN_bd (B : Int) : ∀ (l : List UInt8) (i : Nat), ((i : Int) + l.length) ≤ B → -(B * l.length) ≤ sumN l i ∧ sumN l i ≤ 30 * (B * l.length)
  | [], i, h => by simp [sumN]
  | c :: l, i, h => by
    have ih := sumN_bd B l (i + 1) (by simp only [List.length_cons] at h; omega)
    have hm := mul_bd ((i : Int) + 1) (ixS c) (by omega) (ixS_bd c)
    simp only [List.length_cons] at h ⊢
    simp only [sumN]
    have e : B * ((l.length + 1 : Nat) : Int) = B * (l.length : Int) + B := by rw [Int.natCast_add, Int.mul_add]; simp
    rw [e]
    generalize B * (l.length : Int) = M at *
    generalize ((i : Int) + 1) * ixS c = x at *
    omega
theorem sumN_pos (l : List UInt8) (h : sgnB l = true) : ∀ i, 0 ≤ sumN l i := by
  induction l with
  | nil => intro i; simp [sumN]
  | cons c l ih =>
    intro i
    simp only [sgnB, List.all_cons, Bool.and_eq_true] at h
    have h1 : 0 ≤ ixS c := by have := h.1; rw [ixS_mem] at this; simpa using this
    have h2 := ih h.2 (i + 1)
    simp only [sumN]
    have h3 : 0 ≤ ((i : Int) + 1) * ixS c := Int.mul_nonneg (by omega) h1
    omega
/-- the check sum -/
def codeV (s : ByteArray) : Int := (sumN s.data.toList 0).tmod 31
theorem app_list (a b : ByteArray) : (a ++ b).data.toList = a.data.toList ++ b.data.toList := by rw [ByteArray.data_append, Array.toList_append]
theorem codeV_sgn (b : ByteArray) (hb : sgnB b.data.toList = true) (i : Nat) (hi : i < 31) : codeV (b ++ sgn i) = (sumN b.data.toList 0 + ((b.size : Int) + 1) * (i : Int)) % 31 := by
  have e : (b ++ sgn i).data.toList = b.data.toList ++ [sgL.getD i 0] := by rw [app_list, sgn_eq i hi]
  unfold codeV
  rw [e, sumN_snoc, sgn_ix i hi]
  have hl : (b.data.toList.length : Int) = (b.size : Int) := by rw [Array.length_toList]; rfl
  rw [hl]
  have h0 := sumN_pos _ hb 0
  have h1 : 0 ≤ ((b.size : Int) + 1) * (i : Int) := Int.mul_nonneg (by omega) (by omega)
  simp only [Int.natCast_zero, Int.zero_add] at *
  exact Int.tmod_eq_emod_of_nonneg (by omega)
theorem find31 : ∀ m, 0 < m → m < 31 → ∀ s, s < 31 → ∃ i, i < 31 ∧ (s + m * i) % 31 = 0 := by
  have h : ∀ m, m < 31 → 0 < m → ∀ s, s < 31 → ((List.range 31).any fun i => (s + m * i) % 31 == 0) = true := by decide +kernel
  intro m h0 h1 s hs
  have := h m h1 h0 s hs
  rw [List.any_eq_true] at this
  obtain ⟨i, hi, hx⟩ := this
  exact ⟨i, List.mem_range.1 hi, by simpa using hx⟩
theorem seal_ex (b : ByteArray) (hb : sgnB b.data.toList = true) (hs : b.size < 30) : ∃ i, i < 31 ∧ codeV (b ++ sgn i) = 0 := by
  have h0 := sumN_pos _ hb 0
  obtain ⟨s, hs'⟩ := Int.eq_ofNat_of_zero_le h0
  obtain ⟨i, hi, hx⟩ := find31 (b.size + 1) (by omega) (by omega) (s % 31) (Nat.mod_lt _ (by omega))
  refine ⟨i, hi, ?_⟩
  rw [codeV_sgn b hb i hi, hs']
  have e : ((s : Int) + ((b.size : Int) + 1) * (i : Int)) % 31 = (((s + (b.size + 1) * i) % 31 : Nat) : Int) := by push_cast; rfl
  rw [e]
  have : (s + (b.size + 1) * i) % 31 = 0 := by rw [Nat.add_mod, ← hx, Nat.add_mod (s % 31) ((b.size + 1) * i), Nat.mod_mod]
  rw [this]; rfl
/-- the body with its check sign: the first that fits -/
def sealF (b : ByteArray) : Nat → Nat → ByteArray
  | 0, _ => b
  | f + 1, i => if codeV (b ++ sgn i) = 0 then b ++ sgn i else sealF b f (i + 1)
def sealS (b : ByteArray) : ByteArray := sealF b 31 0
theorem sealF_step (b : ByteArray) (k : Nat) (hk : k < 31) : sealF b (31 - k) k = if codeV (b ++ sgn k) = 0 then b ++ sgn k else sealF b (31 - (k + 1)) (k + 1) := by
  rw [show 31 - k = (31 - (k + 1)) + 1 by omega]; rfl
theorem sgn_size (i : Nat) (hi : i < 31) : (sgn i).size = 1 := by rw [sgn_eq i hi]; rfl
theorem sealF_size (b : ByteArray) : ∀ f i, i + f ≤ 31 → (sealF b f i).size ≤ b.size + 1
  | 0, i, h => by simp [sealF]
  | f + 1, i, h => by
    unfold sealF
    split
    · rw [ByteArray.size_append, sgn_size i (by omega)]; omega
    · exact sealF_size b f (i + 1) (by omega)
theorem sealS_size (b : ByteArray) : (sealS b).size ≤ b.size + 1 := sealF_size b 31 0 (by omega)

/-- 31 to a power -/
def pw (n : Nat) : Nat := 31 ^ n
theorem pw_succ (n : Nat) : pw (n + 1) = pw n * 31 := rfl
theorem pw_pos (n : Nat) : 0 < pw n := Nat.pow_pos (by omega)
theorem pw_le (n : Nat) (h : n ≤ 11) : pw n ≤ 25408476896404831 := by
  have h' : ∀ n, n < 12 → pw n ≤ 25408476896404831 := by decide
  exact h' n (by omega)
theorem pw_mono {a b : Nat} (h : a ≤ b) : pw a ≤ pw b := Nat.pow_le_pow_right (by omega) h
theorem pw_mul (a b : Nat) : pw (a + b) = pw a * pw b := Nat.pow_add _ _ _

/-- the digits of a number as signs, the greatest first -/
def digs (v : Nat) : Nat → List UInt8
  | 0 => []
  | j + 1 => sgL.getD (v / pw j % 31) 0 :: digs v j
theorem digs_len (v : Nat) : ∀ j, (digs v j).length = j
  | 0 => rfl
  | j + 1 => by simp [digs, digs_len v j]
theorem digs_sgn (v : Nat) : ∀ j, sgnB (digs v j) = true
  | 0 => rfl
  | j + 1 => by
    simp only [digs, sgnB, List.all_cons, Bool.and_eq_true]
    exact ⟨sgn_mem _ (Nat.mod_lt _ (by omega)), digs_sgn v j⟩
theorem div_pw (v j : Nat) : v / pw (j + 1) = v / pw j / 31 := by rw [pw_succ, Nat.div_div_eq_div_mul]
/-- the number that signs are -/
def valN (l : List UInt8) : Int := l.foldl (fun v c => v * 31 + ixS c) 0
theorem valN_snoc (l : List UInt8) (c : UInt8) : valN (l ++ [c]) = valN l * 31 + ixS c := by simp [valN]
theorem valN_bd (l : List UInt8) (h : sgnB l = true) : 0 ≤ valN l ∧ valN l < pw l.length := by
  have key : ∀ (l : List UInt8) (m : List UInt8), sgnB l = true → 0 ≤ valN m → valN m < pw m.length → 0 ≤ valN (m ++ l) ∧ valN (m ++ l) < pw (m ++ l).length := by
    intro l
    induction l with
    | nil => intro m _ h1 h2; simpa using ⟨h1, h2⟩
    | cons c l ih =>
      intro m h h1 h2
      simp only [sgnB, List.all_cons, Bool.and_eq_true] at h
      have hc : 0 ≤ ixS c := by have := h.1; rw [ixS_mem] at this; simpa using this
      have hc2 := (ixS_bd c).2
      have := ih (m ++ [c]) h.2 (by rw [valN_snoc]; omega) (by
        rw [valN_snoc, List.length_append, List.length_singleton, pw_succ]
        have : ((pw m.length * 31 : Nat) : Int) = (pw m.length : Int) * 31 := by push_cast; rfl
        omega)
      simpa using this
  have := key l [] h (by simp [valN]) (by simp [valN, pw])
  simpa using this

/-! the inverse of 7919 -/
def stI (m : Nat) : Nat → Int × Int × Int × Int
  | 0 => ((7919 : Int) % m, m, 1, 0)
  | k + 1 => let s := stI m k; (s.2.1 - s.2.1 / s.1 * s.1, s.1, s.2.2.2 - s.2.1 / s.1 * s.2.2.1, s.2.2.1)
/-- after how many steps it ends, and what it finds -/
def nI (c : Nat) : Nat := ((List.range 40).find? fun k => (stI (pw c) k).1 == 0).getD 0
def inv (c : Nat) : Nat := (((stI (pw c) (nI c)).2.2.2 % (pw c : Int) + pw c) % (pw c : Int)).toNat
def okI (m : Nat) (k : Nat) : Bool :=
  let s := stI m k
  decide (0 < s.1) && decide (s.1 ≤ 36028797018963968) && decide (0 ≤ s.2.1) && decide (s.2.1 ≤ 36028797018963968) && decide (-36028797018963968 ≤ s.2.2.1) && decide (s.2.2.1 ≤ 36028797018963968) && decide (-36028797018963968 ≤ s.2.2.2) && decide (s.2.2.2 ≤ 36028797018963968)
    && decide (s.2.1 / s.1 ≤ 36028797018963968) && decide (-36028797018963968 ≤ s.2.1 / s.1 * s.2.2.1) && decide (s.2.1 / s.1 * s.2.2.1 ≤ 36028797018963968)
def okJ (m : Nat) (k : Nat) : Bool := let s := stI m k; decide (s.1 = 0) && decide (-36028797018963968 ≤ s.2.2.2) && decide (s.2.2.2 ≤ 36028797018963968)
theorem inv_all : (List.range 12).all (fun c => decide (c < 3) || (decide (nI c ≤ 40) && (List.range (nI c)).all (okI (pw c)) && okJ (pw c) (nI c) && decide (7919 * inv c % pw c = 1) && decide (inv c < pw c) && decide (((stI (pw c) (nI c)).2.2.2.tmod (pw c : Int) + pw c).tmod (pw c : Int) = inv c))) = true := by decide +kernel
structure InvOk (c : Nat) : Prop where
  fuel : nI c ≤ 40
  step : ∀ k, k < nI c → okI (pw c) k = true
  done : okJ (pw c) (nI c) = true
  one : 7919 * inv c % pw c = 1
  lt : inv c < pw c
  res : ((stI (pw c) (nI c)).2.2.2.tmod (pw c : Int) + pw c).tmod (pw c : Int) = inv c
theorem inv_ok (c : Nat) (h1 : 3 ≤ c) (h2 : c ≤ 11) : InvOk c := by
  have h := List.all_eq_true.1 inv_all c (List.mem_range.2 (by omega))
  rw [decide_eq_false (by omega : ¬ c < 3), Bool.false_or] at h
  simp only [Bool.and_eq_true, decide_eq_true_eq] at h
  obtain ⟨⟨⟨⟨⟨a, b⟩, d⟩, e⟩, f⟩, g⟩ := h
  exact ⟨a, fun k hk => List.all_eq_true.1 b k (List.mem_range.2 hk), d, e, f, g⟩

/-! multiplying step by step -/
theorem scr_odd (out n q m : Nat) : ((out + n) % m + 2 * n % m * q) % m = (out + n * (2 * q + 1)) % m := by
  have e : 2 * n % m * q % m = 2 * n * q % m := by rw [Nat.mul_mod, Nat.mod_mod, ← Nat.mul_mod]
  rw [Nat.add_mod, Nat.mod_mod, e, ← Nat.add_mod]
  congr 1
  rw [Nat.mul_add, Nat.mul_one, Nat.mul_right_comm 2 n q, Nat.mul_comm (2 * q) n]
  omega
theorem scr_even (out n q m : Nat) : (out + 2 * n % m * q) % m = (out + n * (2 * q)) % m := by
  have e : 2 * n % m * q % m = 2 * n * q % m := by rw [Nat.mul_mod, Nat.mod_mod, ← Nat.mul_mod]
  rw [Nat.add_mod, e, ← Nat.add_mod]
  congr 2
  rw [Nat.mul_right_comm 2 n q, Nat.mul_comm (2 * q) n]
theorem pw_dvd {j c : Nat} (h : j ≤ c) : pw j ∣ pw c := Nat.pow_dvd_pow 31 h
/-- a number is found by its product -/
theorem found_iff (c j x v : Nat) (hj : j ≤ c) (h : InvOk c) (hc : 0 < c) : x * 7919 % pw j = v % pw j ↔ x % pw j = v * inv c % pw c % pw j := by
  have hone : ∀ y, y * 7919 * inv c % pw j = y % pw j := fun y => by
    have h1 : 7919 * inv c % pw j = 1 % pw j := by rw [← h.one, Nat.mod_mod_of_dvd _ (pw_dvd hj)]
    rw [Nat.mul_assoc, Nat.mul_mod, h1, ← Nat.mul_mod, Nat.mul_one]
  rw [Nat.mod_mod_of_dvd _ (pw_dvd hj)]
  constructor
  · intro e
    rw [← hone x, Nat.mul_mod, e, ← Nat.mul_mod]
  · intro e
    rw [Nat.mul_mod, e, ← Nat.mul_mod, Nat.mul_right_comm, hone v]
theorem digit_iff (N j d : Nat) (hd : d < 31) : (N % pw j + d * pw j) % pw (j + 1) = N % pw (j + 1) ↔ d = N / pw j % 31 := by
  have hp := pw_pos j
  have h1 : N % pw (j + 1) = N % pw j + pw j * (N / pw j % 31) := by rw [pw_succ, Nat.mod_mul]
  have h2 := Nat.mod_lt N hp
  have h3 : (N % pw j + d * pw j) % pw (j + 1) = N % pw j + pw j * d := by
    rw [Nat.mul_comm d]
    refine Nat.mod_eq_of_lt ?_
    rw [pw_succ]
    have : pw j * d ≤ pw j * 30 := Nat.mul_le_mul_left _ (by omega)
    omega
  rw [h3, h1]
  constructor
  · intro e
    have : pw j * d = pw j * (N / pw j % 31) := by omega
    exact Nat.eq_of_mul_eq_mul_left hp this
  · rintro rfl; rfl
theorem digit_next (N j : Nat) : N % pw j + N / pw j % 31 * pw j = N % pw (j + 1) := by rw [pw_succ, Nat.mod_mul, Nat.mul_comm (pw j)]
end Go.Proofs.YtdcanlkdhbmknaaGreatDoor
