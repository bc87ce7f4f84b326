/- The contract of measure.Signs. -/
import Derived.Test.YtdnikegakcdcnaaChooseGo
import Derived.Test.YtdnikegakcdcnaaReduce
set_option linter.unusedVariables false
namespace Go.Proofs.Ytdnikegakcdcnaa
open Go.RowKit

/-- the sum of those of the first i numbers of row n that are at most the k-th -/
def sgSum (n k : Nat) : Nat → Nat
  | 0 => 0
  | i + 1 => sgSum n k i + if Choose.ch n i ≤ Choose.ch n k then Choose.ch n i else 0
theorem sgSum_le (n k : Nat) : ∀ i : Nat, sgSum n k i ≤ Choose.rowSum n i
  | 0 => Nat.le_refl _
  | i + 1 => by
    have := sgSum_le n k i
    show sgSum n k i + _ ≤ Choose.rowSum n i + Choose.ch n i
    split <;> omega
theorem sgSum_bd (n k i : Nat) (hn : n ≤ 60) : sgSum n k i ≤ 1152921504606846976 := by
  have h1 := sgSum_le n k i
  have h2 := Choose.rowSum_le n i
  have h3 : 2 ^ n ≤ 2 ^ 60 := Nat.pow_le_pow_right (by omega) hn
  omega
/-- what Signs answers -/
def sgV (n k : Int) : Int × Int × Int := if n < 0 ∨ 60 < n ∨ k < 0 ∨ n < k then (0, 0, 1)
  else (Frac.redN (sgSum n.toNat k.toNat (n.toNat + 1) : Nat) (2 ^ n.toNat : Nat), Frac.redD (sgSum n.toNat k.toNat (n.toNat + 1) : Nat) (2 ^ n.toNat : Nat), 0)

theorem two_pow (n : Nat) (hn : n ≤ 60) : wrap64 ((2 : Int) ^ n) = ((2 ^ n : Nat) : Int) ∧ 1 ≤ 2 ^ n ∧ 2 ^ n ≤ 1152921504606846976 := by
  have h1 : 1 ≤ 2 ^ n := Nat.one_le_two_pow
  have h2 : 2 ^ n ≤ 2 ^ 60 := Nat.pow_le_pow_right (by omega) hn
  have h3 : ((2 ^ n : Nat) : Int) = (2 : Int) ^ n := by rw [Int.natCast_pow]; rfl
  refine ⟨?_, h1, by omega⟩
  rw [← h3]
  exact IntWalk.wrap64_in _ ⟨by omega, by omega⟩

set_option maxHeartbeats 1000000 in
theorem Signs_good (n k : Nat) (w : World) (hn : n ≤ 60) (hk : k ≤ n) :
    Calls Try.prog 18 #[.int .i64 n, .int .i64 k] w fun e w' =>
      e = .returned (.tuple #[.agg #[.int .i64 (Frac.redN (sgSum n k (n + 1) : Nat) (2 ^ n : Nat)), .int .i64 (Frac.redD (sgSum n k (n + 1) : Nat) (2 ^ n : Nat))], .int .i64 0]) ∧ Below w.heap.size w w' := by
  go_enter Try.func18, Try.ntmps18
  go_wp2_with fail
  with_reducible refine (within_yes _ _ _ _ (by omega) (by omega)).mono ?_
  rintro e w' ⟨rfl, rfl⟩
  go_wp2_with fail
  with_reducible refine (within_yes _ _ _ _ (by omega) (by omega)).mono ?_
  rintro e w' ⟨rfl, rfl⟩
  go_wp2_with fail
  go_loopw [6, 21] (fun s i wr => ∃ (j q : Nat), j ≤ n + 1 ∧ i = .int .i64 j ∧ s = .int .i64 (sgSum n k j : Nat) ∧ wr = (w.alloc (.cells #[.int .i64 0, .int .i64 0] 28)).drewN q) (fun _ i _ => n + 1 - (intOf i).toNat)
  case atStart => exact ⟨0, 0, by omega, rfl, rfl, rfl⟩
  case round =>
    obtain ⟨j, q, hj, rfl, rfl, rfl⟩ := hrel
    have hb := sgSum_bd n k j hn
    by_cases hlt : j < n + 1
    · have c1 := ch_bd n j hn
      have c2 := ch_bd n k hn
      have HS := Lib.hid (show sgSum n k (j + 1) = sgSum n k j + if Choose.ch n j ≤ Choose.ch n k then Choose.ch n j else 0 from rfl)
      generalize sgSum n k j = s at *
      go_wp2_with fail
      with_reducible refine (choose_any n j _ hn (by omega)).mono ?_
      rintro e w1 ⟨rfl, q1, rfl⟩
      go_wp2_with fail
      with_reducible refine (choose_any n k _ hn hk).mono ?_
      rintro e w1 ⟨rfl, q2, rfl⟩
      generalize Choose.ch n j = cj at *
      generalize Choose.ch n k = ck at *
      by_cases hle : cj ≤ ck
      · go_wp2
        go_roundw
        case rel => exact ⟨j + 1, _, by omega, by go_num, by rw [HS.out, if_pos hle]; go_num, rfl⟩
        case measure => simp [intOf]; omega
      · go_wp2
        go_roundw
        case rel => exact ⟨j + 1, _, by omega, by go_num, by rw [HS.out, if_neg hle]; go_num, rfl⟩
        case measure => simp [intOf]; omega
    · obtain rfl : j = n + 1 := by omega
      clear hlt hj
      obtain ⟨e1, e2, e3⟩ := two_pow n hn
      have HE := Lib.hid e1
      clear e1
      go_wp2_with fail
      rw [HE.out]
      generalize hs' : sgSum n k (n + 1) = s at *
      generalize hT' : (2 : Nat) ^ n = T at *
      have HS' := Lib.hid hs'
      have HT' := Lib.hid hT'
      clear hs' hT'
      with_reducible refine (reduce_pos _ _ _ (by omega) (by omega) (by omega) (by omega)).mono ?_
      rintro e w1 ⟨rfl, hb1⟩
      unfold fr
      have d0 : w1.cell? ⟨w.heap.size, 0, none⟩ = some (.int .i64 0) := (hb1.cell (by simp)).trans (by go_simp)
      have d1 : w1.cell? ⟨w.heap.size, 1, none⟩ = some (.int .i64 0) := (hb1.cell (by simp)).trans (by go_simp)
      have f0 : w1.frozen? ⟨w.heap.size, 0, none⟩ = false := (hb1.frozen (by simp)).trans (by go_simp)
      have f1 : w1.frozen? ⟨w.heap.size, 1, none⟩ = false := (hb1.frozen (by simp)).trans (by go_simp)
      clear HE
      go_wp2_with fail
      refine bodyPost_ret (v := .tuple #[.agg #[.int .i64 (Frac.redN s T), .int .i64 (Frac.redD s T)], .int .i64 0]) (by simp [results, Try.results18, go_sem, d0, d1]) rfl ⟨by rw [HS'.out, HT'.out], ?_⟩
      exact ((((below_drewN ((Below.refl _ _).alloc (Nat.le_refl _) _) _)).trans (hb1.mono (by simp))).setCell (Nat.le_refl _) _).setCell (Nat.le_refl _) _
set_option maxHeartbeats 1000000 in
theorem Signs_any (n k : Int) (w : World) :
    Calls Try.prog 18 #[.int .i64 n, .int .i64 k] w fun e w' =>
      e = .returned (.tuple #[.agg #[.int .i64 (sgV n k).1, .int .i64 (sgV n k).2.1], .int .i64 (sgV n k).2.2]) ∧ Below w.heap.size w w' := by
  by_cases h1 : n < 0 ∨ 60 < n
  · have H := Lib.hid (show sgV n k = (0, 0, 1) by unfold sgV; rw [if_pos (by omega)])
    rw [H.out]
    clear H
    go_enter Try.func18, Try.ntmps18
    go_wp2_with fail
    with_reducible refine (within_no _ _ _ _ h1).mono ?_
    rintro e w' ⟨rfl, rfl⟩
    clear h1
    go_wp2_with fail
    go_returns
    exact ⟨rfl, by go_grown⟩
  · by_cases h2 : k < 0 ∨ n < k
    · have H := Lib.hid (show sgV n k = (0, 0, 1) by unfold sgV; rw [if_pos (by omega)])
      rw [H.out]
      clear H
      go_enter Try.func18, Try.ntmps18
      go_wp2_with fail
      with_reducible refine (within_yes _ _ _ _ (by omega) (by omega)).mono ?_
      rintro e w' ⟨rfl, rfl⟩
      go_wp2_with fail
      with_reducible refine (within_no _ _ _ _ h2).mono ?_
      rintro e w' ⟨rfl, rfl⟩
      clear h1 h2
      go_wp2_with fail
      go_returns
      exact ⟨rfl, by go_grown⟩
    · obtain ⟨x, rfl⟩ := Int.eq_ofNat_of_zero_le (show 0 ≤ n by omega)
      obtain ⟨y, rfl⟩ := Int.eq_ofNat_of_zero_le (show 0 ≤ k by omega)
      have H : sgV x y = (Frac.redN (sgSum x y (x + 1) : Nat) (2 ^ x : Nat), Frac.redD (sgSum x y (x + 1) : Nat) (2 ^ x : Nat), 0) := by
        unfold sgV; rw [if_neg (by omega)]; rfl
      rw [H]
      exact Signs_good x y w (by omega) (by omega)
end Go.Proofs.Ytdnikegakcdcnaa
