/- Contracts of the reference SignsOf and of measure.Exact with its closure. -/
import Derived.Test.YtdnikegakcdcnaaChooseOf
import Derived.Test.YtdnikegakcdcnaaSigns
import Derived.Test.YtdnikegakcdcnaaRef
import Derived.Test.YtdnikegakcdcnaaSums
set_option linter.unusedVariables false
namespace Go.Proofs.Ytdnikegakcdcnaa
open Go.RowKit

set_option maxHeartbeats 1000000 in
theorem SignsOf_any (n k : Nat) (w : World) (hn : n ≤ 60) (hk : k ≤ n) :
    Calls Try.prog 20 #[.int .i64 n, .int .i64 k] w fun e w' =>
      e = .returned (.agg #[.int .i64 (Frac.redN (sgSum n k (n + 1) : Nat) (2 ^ n : Nat)), .int .i64 (Frac.redD (sgSum n k (n + 1) : Nat) (2 ^ n : Nat))]) ∧ Below w.heap.size w w' := by
  go_enter Try.func20, Try.ntmps20
  go_wp2_with fail
  go_loopw [5, 10] (fun s i wr => ∃ j : Nat, j ≤ n + 1 ∧ i = .int .i64 j ∧ s = .int .i64 (sgSum n k j : Nat) ∧ Below (w.heap.size + 1) (w.alloc (.cells #[.int .i64 0, .int .i64 0] 28)) wr) (fun _ i _ => n + 1 - (intOf i).toNat)
  case atStart => exact ⟨0, by omega, rfl, rfl, Below.refl _ _⟩
  case round =>
    obtain ⟨j, hj, rfl, rfl, hbe⟩ := hrel
    have hz : w.heap.size + 1 ≤ wr.heap.size := by have := hbe.size; simpa using this
    have HBE := Lib.hid hbe
    clear hbe
    have hb := sgSum_bd n k j hn
    by_cases hlt : j < n + 1
    · have c1 := ch_bd n j hn
      have c2 := ch_bd n k hn
      have HS := Lib.hid (show sgSum n k (j + 1) = sgSum n k j + if Choose.ch n j ≤ Choose.ch n k then Choose.ch n j else 0 from rfl)
      generalize sgSum n k j = s at *
      go_wp2_with fail
      with_reducible refine (ChooseOf_any n j _ hn (by omega)).mono ?_
      rintro e w1 ⟨rfl, b1⟩
      have hz1 := b1.size
      go_wp2_with fail
      with_reducible refine (ChooseOf_any n k _ hn hk).mono ?_
      rintro e w2 ⟨rfl, b2⟩
      have HB2 := Lib.hid ((HBE.out.trans (b1.mono hz)).trans (b2.mono (by omega)))
      clear b1 b2 HBE
      generalize Choose.ch n j = cj at *
      generalize Choose.ch n k = ck at *
      by_cases hle : cj ≤ ck
      · go_wp2
        go_roundw
        case rel => exact ⟨j + 1, by omega, by go_num, by rw [HS.out, if_pos hle]; go_num, HB2.out⟩
        case measure => simp [intOf]; omega
      · go_wp2
        go_roundw
        case rel => exact ⟨j + 1, by omega, by go_num, by rw [HS.out, if_neg hle]; go_num, HB2.out⟩
        case measure => simp [intOf]; omega
    · obtain rfl : j = n + 1 := by omega
      clear hlt hj
      obtain ⟨e1, e2, e3⟩ := two_pow n hn
      have HE := Lib.hid e1
      clear e1
      go_wp2_with fail
      rw [HE.out]
      generalize hs' : sgSum n k (n + 1) = s at *
      generalize hT' : (2 : Nat) ^ n = T at *
      have HS' := Lib.hid hs'
      have HT' := Lib.hid hT'
      clear hs' hT'
      with_reducible refine (reduced_any _ _ _ (by omega) (by omega) (by omega) (by omega) (by omega)).mono ?_
      rintro e w1 ⟨rfl, hb1⟩
      have B1 := HBE.out.trans (hb1.mono hz)
      have d0 : w1.cell? ⟨w.heap.size, 0, none⟩ = some (.int .i64 0) := (B1.cell (by simp)).trans (by go_simp)
      have d1 : w1.cell? ⟨w.heap.size, 1, none⟩ = some (.int .i64 0) := (B1.cell (by simp)).trans (by go_simp)
      have f0 : w1.frozen? ⟨w.heap.size, 0, none⟩ = false := (B1.frozen (by simp)).trans (by go_simp)
      have f1 : w1.frozen? ⟨w.heap.size, 1, none⟩ = false := (B1.frozen (by simp)).trans (by go_simp)
      have HB1 := Lib.hid B1
      clear HE hb1 B1 HBE
      go_wp2_with fail
      refine bodyPost_ret (v := .agg #[.int .i64 (Frac.redN s T), .int .i64 (Frac.redD s T)]) (by simp [results, Try.results20, go_sem, d0, d1]) rfl ⟨by rw [HS'.out, HT'.out], ?_⟩
      exact ((((Below.refl _ _).alloc (Nat.le_refl _) _).trans (HB1.out.mono (by omega))).setCell (Nat.le_refl _) _).setCell (Nat.le_refl _) _

/-! the sums of the exact test: m of one kind, n of the other, y taken -/
def wy (m n y x : Nat) : Nat := Choose.ch m x * Choose.ch n (y - x)
def allS (m n y : Nat) : Nat → Nat
  | 0 => 0
  | i + 1 => allS m n y i + wy m n y i
def fewS (m n y o : Nat) : Nat → Nat
  | 0 => 0
  | i + 1 => fewS m n y o i + if wy m n y i ≤ wy m n y o then wy m n y i else 0
theorem wy_le (m n y x : Nat) (h : m + n ≤ 60) : wy m n y x ≤ 1152921504606846976 := by
  unfold wy
  have h1 := Nat.mul_le_mul (Choose.ch_le m x) (Choose.ch_le n (y - x))
  rw [← Nat.pow_add] at h1
  have h2 : 2 ^ (m + n) ≤ 2 ^ 60 := Nat.pow_le_pow_right (by omega) h
  omega
theorem allS_le0 (m n y : Nat) : ∀ i, allS m n y i ≤ Choose.rowSum m i * 2 ^ n
  | 0 => by simp [allS]
  | i + 1 => by
    have h := allS_le0 m n y i
    show allS m n y i + wy m n y i ≤ (Choose.rowSum m i + Choose.ch m i) * 2 ^ n
    rw [Nat.add_mul]
    have : wy m n y i ≤ Choose.ch m i * 2 ^ n := Nat.mul_le_mul_left _ (Choose.ch_le n (y - i))
    omega
theorem allS_le (m n y i : Nat) (h : m + n ≤ 60) : allS m n y i ≤ 1152921504606846976 := by
  have h1 := allS_le0 m n y i
  have h2 := Nat.mul_le_mul_right (2 ^ n) (Choose.rowSum_le m i)
  rw [← Nat.pow_add] at h2
  have h3 : 2 ^ (m + n) ≤ 2 ^ 60 := Nat.pow_le_pow_right (by omega) h
  omega
theorem fewS_le (m n y o : Nat) : ∀ i, fewS m n y o i ≤ allS m n y i
  | 0 => Nat.le_refl _
  | i + 1 => by
    have h := fewS_le m n y o i
    show fewS m n y o i + _ ≤ allS m n y i + wy m n y i
    split <;> omega
theorem allS_mono (m n y x : Nat) : ∀ i, x < i → wy m n y x ≤ allS m n y i
  | 0, h => by omega
  | i + 1, h => by
    show _ ≤ allS m n y i + wy m n y i
    by_cases e : x = i
    · subst e; omega
    · have := allS_mono m n y x i (by omega); omega
theorem allS_pos (m n y o i : Nat) (ho : o ≤ m) (hy : o ≤ y) (hyn : y - o ≤ n) (hi : o < i) : 1 ≤ allS m n y i := by
  have h1 := allS_mono m n y o i hi
  have h2 : 0 < wy m n y o := Nat.mul_pos (Choose.ch_pos m o ho) (Choose.ch_pos n (y - o) hyn)
  omega
end Go.Proofs.Ytdnikegakcdcnaa
