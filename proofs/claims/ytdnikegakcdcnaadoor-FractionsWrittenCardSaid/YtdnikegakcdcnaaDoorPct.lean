/- What Percent and PercentOf answer, in plain words. -/
import Derived.Test.YtdnikegakcdcnaaDoorFormatUint
import Derived.Test.YtdnikegakcdcnaaDoorRight
import Derived.Test.YtdnikegakcdcnaaDoorMulDiv
set_option linter.unusedVariables false
namespace Go.Proofs.YtdnikegakcdcnaaDoor
open Go.RowKit

def pcZ (p q : Nat) : ByteArray := ⟨(List.replicate (p + 1 - (Lib.decDigits q).length) 48 ++ Lib.decDigits q).toArray⟩
theorem pcZ_size (p q : Nat) : p < (pcZ p q).size ∧ (pcZ p q).size ≤ p + 1 + (Lib.decDigits q).length := by
  have e : (pcZ p q).size = (List.replicate (p + 1 - (Lib.decDigits q).length) (48 : UInt8) ++ Lib.decDigits q).length := rfl
  rw [e]
  simp
  omega
def pcP (p : Nat) (z : ByteArray) : ByteArray := if p = 0 then z else z.extract 0 (z.size - p) ++ ⟨#[46]⟩ ++ z.extract (z.size - p) z.size
def pcS (n : Int) (p q : Nat) : ByteArray := if n < 0 ∧ q ≠ 0 then ⟨#[45]⟩ ++ pcP p (pcZ p q) else pcP p (pcZ p q)
def pcQ (n d p : Nat) : Nat := n * (100 * 10 ^ p) / d + if d ≤ 2 * (n * (100 * 10 ^ p) % d) then 1 else 0
def pcE (n d pl : Int) : Int := if Frac.rightB n d = false then 3 else if d.natAbs * 1000000 < n.natAbs then 2 else if pl < 0 ∨ 6 < pl then 1 else 0
def pcT (n d pl : Int) : ByteArray := if pcE n d pl = 0 then pcS n pl.toNat (pcQ n.natAbs d.natAbs pl.toNat) else ⟨#[]⟩
def PctOut (w : World) (n d pl : Int) (e : Ending) (w' : World) : Prop := e = .returned (.tuple #[.string (pcT n d pl), .int .i64 (pcE n d pl)]) ∧ Below w.heap.size w w'
theorem pctOut_bad {w w' : World} {n d pl k : Int} (h : pcE n d pl = k) (hk : k ≠ 0) (hb : Below w.heap.size w w') : PctOut w n d pl (.returned (.tuple #[.string ⟨#[]⟩, .int .i64 k])) w' := by
  unfold PctOut pcT
  rw [h, if_neg hk]
  exact ⟨rfl, hb⟩

theorem pctOut_ok {w w' : World} {n : Int} {D p Q : Nat} {s : ByteArray} (h : pcE n D p = 0) (hQ : pcQ n.natAbs D p = Q) (hs : pcS n p Q = s) (hb : Below w.heap.size w w') : PctOut w n D p (.returned (.tuple #[.string s, .int .i64 0])) w' := by
  unfold PctOut pcT
  rw [h, if_pos rfl, Int.toNat_natCast, Int.natAbs_natCast, hQ, hs]
  exact ⟨rfl, hb⟩
theorem append_bytes (a b : List UInt8) : (⟨a.toArray⟩ : ByteArray) ++ ⟨b.toArray⟩ = ⟨(a ++ b).toArray⟩ := by
  apply ByteArray.ext
  simp [ByteArray.data_append]
theorem pcZ_app (k Q : Nat) : (⟨(List.replicate (k + 1 - (Lib.decDigits Q).length) 48).toArray⟩ : ByteArray) ++ ⟨(Lib.decDigits Q).toArray⟩ = pcZ k Q := append_bytes _ _
theorem scale_le (p : Nat) (h : p ≤ 6) : 100 * 10 ^ p ≤ 100000000 := by
  have : 10 ^ p ≤ 10 ^ 6 := Nat.pow_le_pow_right (by omega) h
  omega
theorem decDigits_le (u : Nat) (h1 : 1 ≤ u) (h : u < 18446744073709551616) : (Lib.decDigits u).length ≤ 20 := by
  rw [Lib.decDigits_length]
  have := Lib.numDigits_eq u h1 h
  split at this <;> omega
theorem decDigits_pos (u : Nat) : 1 ≤ (Lib.decDigits u).length := by
  rw [Lib.decDigits]
  split <;> simp
theorem decDigits_len (u : Nat) (h : u < 18446744073709551616) : (Lib.decDigits u).length ≤ 20 := by
  rcases Nat.eq_zero_or_pos u with rfl | h1
  · rw [Lib.decDigits_one (by omega)]; simp
  · exact decDigits_le u h1 h
theorem repeatL_zero (c : Nat) : Lib.repeatL [48] c = List.replicate c (48 : UInt8) := by
  induction c with
  | zero => rfl
  | succ c ih => rw [Lib.repeatL, ih, List.replicate_succ]; rfl
theorem repeat_any (c : Nat) (w : World) (h : c ≤ 1000) :
    Calls Tryd.prog 175 #[.string ⟨#[48]⟩, .int .i64 c] w fun e w' => e = .returned (.string ⟨(List.replicate c 48).toArray⟩) ∧ Below w.heap.size w w' := by
  refine (Tryd.strings_Repeat ⟨#[48]⟩ c w (by omega) (by show 1 * c ≤ _; omega)).mono ?_
  rintro e w' ⟨rfl, hb⟩
  exact ⟨by rw [← repeatL_zero], hb⟩
theorem quo_le (N sc D : Nat) (h : N ≤ D * 1000000) (hsc : sc ≤ 100000000) : N * sc / D ≤ 100000000000000 := by
  refine Nat.div_le_of_le_mul (Nat.le_trans (Nat.mul_le_mul h hsc) ?_)
  rw [Nat.mul_assoc]
  exact Nat.le_refl _
theorem below_dN {B : Nat} {a w : World} (h : Below B a w) (n : Nat) : Below B a (w.drewN n) := ⟨h.os, h.tape, h.output, h.size, h.block⟩
theorem right_parts {n d : Int} (h : Frac.rightB n d = true) : -4611686018427387904 ≤ n ∧ n ≤ 4611686018427387904 ∧ 1 ≤ d ∧ d ≤ 4611686018427387904 := by
  unfold Frac.rightB at h
  have := of_decide_eq_true h
  omega

theorem big_iff (N D M : Nat) (hD : 0 < D) : D * M < N ↔ M < N / D ∨ (N / D = M ∧ 0 < N % D) := by
  have h := Nat.div_add_mod N D
  have h2 := Nat.mod_lt N hD
  constructor
  · intro h3
    rcases Nat.lt_or_ge M (N / D) with h4 | h4
    · exact .inl h4
    · right
      have h5 : M ≤ N / D := (Nat.le_div_iff_mul_le hD).2 (by rw [Nat.mul_comm]; omega)
      have h6 : N / D = M := by omega
      rw [h6] at h
      exact ⟨h6, by omega⟩
  · rintro (h4 | ⟨h4, h5⟩)
    · have h6 := (Nat.le_div_iff_mul_le hD).1 (show M + 1 ≤ N / D from h4)
      rw [Nat.succ_mul, Nat.mul_comm] at h6
      omega
    · rw [h4] at h
      omega
theorem dig_eq (x D : Nat) : x * 10 = x % D * 10 + D * (x / D * 10) := by
  have h := Nat.div_add_mod x D
  have e : D * (x / D * 10) = D * (x / D) * 10 := (Nat.mul_assoc _ _ _).symm
  rw [e]
  omega
theorem dig_div (x D : Nat) (hD : 0 < D) : x * 10 / D = x / D * 10 + x % D * 10 / D := by
  conv => lhs; rw [dig_eq x D]
  rw [Nat.add_mul_div_left _ _ hD, Nat.add_comm]
theorem dig_mod (x D : Nat) : x * 10 % D = x % D * 10 % D := by
  conv => lhs; rw [dig_eq x D]
  rw [Nat.add_mul_mod_self_left]
theorem dig_lt (r D : Nat) (h : r < D) : r * 10 / D < 10 := Nat.div_lt_of_lt_mul (by omega)
theorem whole_le (N D j : Nat) (h : N ≤ D * 1000000) (hj : j ≤ 8) : N * 10 ^ j / D ≤ 100000000000000 := by
  have : 10 ^ j ≤ 10 ^ 8 := Nat.pow_le_pow_right (by omega) hj
  exact quo_le N (10 ^ j) D h this
def dvW (N D j : Nat) : Nat := N * 10 ^ j / D
def dvR (N D j : Nat) : Nat := N * 10 ^ j % D
theorem dvW_zero (N D : Nat) : dvW N D 0 = N / D := by unfold dvW; rw [Nat.pow_zero, Nat.mul_one]
theorem dvR_zero (N D : Nat) : dvR N D 0 = N % D := by unfold dvR; rw [Nat.pow_zero, Nat.mul_one]
theorem dvW_succ (N D j : Nat) (hD : 0 < D) : dvW N D (j + 1) = dvW N D j * 10 + dvR N D j * 10 / D := by
  unfold dvW dvR
  rw [Nat.pow_succ, ← Nat.mul_assoc]
  exact dig_div _ _ hD
theorem dvR_succ (N D j : Nat) : dvR N D (j + 1) = dvR N D j * 10 % D := by
  unfold dvR
  rw [Nat.pow_succ, ← Nat.mul_assoc]
  exact dig_mod _ _
theorem dvR_lt (N D j : Nat) (hD : 0 < D) : dvR N D j < D := Nat.mod_lt _ hD
theorem dvW_le (N D j : Nat) (h : N ≤ D * 1000000) (hj : j ≤ 8) : dvW N D j ≤ 100000000000000 := whole_le N D j h hj
theorem pcQ_dv (N D p : Nat) : pcQ N D p = dvW N D (p + 2) + if D ≤ 2 * dvR N D (p + 2) then 1 else 0 := by
  unfold pcQ dvW dvR
  rw [show 10 ^ (p + 2) = 100 * 10 ^ p by rw [Nat.pow_add, Nat.mul_comm]]
def strLen : Value → Nat
  | .string b => b.size
  | _ => 0
/-- j zeros ahead of the digits -/
def zj (j : Nat) (ds : List UInt8) : ByteArray := ⟨(List.replicate j 48 ++ ds).toArray⟩
theorem zj_size (j : Nat) (ds : List UInt8) : (zj j ds).size = j + ds.length := by
  have e : (zj j ds).size = (List.replicate j (48 : UInt8) ++ ds).length := rfl
  rw [e]; simp
theorem zj_succ (j : Nat) (ds : List UInt8) : (⟨#[48]⟩ : ByteArray) ++ zj j ds = zj (j + 1) ds := by
  have := append_bytes [48] (List.replicate j 48 ++ ds)
  unfold zj
  rw [List.replicate_succ]
  exact this
end Go.Proofs.YtdnikegakcdcnaaDoor
