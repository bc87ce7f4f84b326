/- The contract of the reference QuantileOf. -/
import Derived.Test.YtdnikegakcdcnaaInts
import Derived.Test.YtdnikegakcdcnaaQuant
set_option linter.unusedVariables false
namespace Go.Proofs.Ytdnikegakcdcnaa
open Go.RowKit Quant

def qV (l : List Int) (num den : Int) : Int × Int :=
  if l.length = 0 then (0, 8) else if den < 1 ∨ 1000 < den ∨ num < 0 ∨ den < num then (0, 1) else ((srt l).getD (place l.length num den) 0, 0)

set_option maxRecDepth 100000 in
set_option maxHeartbeats 4000000 in
theorem QuantileOf_any (a : Option Addr) (zs : List Int) (n c : Nat) (num den : Int) (w : World) (hn : zs.length = n) (hn1 : n ≤ 1000) (hr : IntsAt w a zs) (h1 : -10000 ≤ num ∧ num ≤ 10000) (h2 : -10000 ≤ den ∧ den ≤ 10000) :
    Calls Try.prog 36 #[.slice a n c, .int .i64 num, .int .i64 den] w fun e w' => e = .returned (.tuple #[.int .i64 (qV zs num den).1, .int .i64 (qV zs num den).2]) ∧ w = w' := by
  have HN := Lib.hid hn
  have HR := Lib.hid hr
  have HQ := Lib.hid (show qV zs num den = if zs.length = 0 then (0, 8) else if den < 1 ∨ 1000 < den ∨ num < 0 ∨ den < num then (0, 1) else ((srt zs).getD (place zs.length num den) 0, 0) from rfl)
  rw [hn] at HQ
  clear hn hr
  by_cases h0 : n = 0
  · have HQ' := Lib.hid (HQ.out.trans (if_pos h0))
    clear HQ
    generalize qV zs num den = r at *
    subst h0
    go_enter Try.func36, Try.ntmps36
    go_wp2
    go_ret2
    rw [HQ'.out]
    exact ⟨rfl, rfl⟩
  have HQ1 := Lib.hid (HQ.out.trans (if_neg h0))
  clear HQ
  by_cases hb : den < 1 ∨ 1000 < den ∨ num < 0 ∨ den < num
  · have HQ' := Lib.hid (HQ1.out.trans (if_pos hb))
    clear HQ1
    generalize qV zs num den = r at *
    go_enter Try.func36, Try.ntmps36
    go_wp2
    all_goals first
      | (exfalso; omega)
      | (go_ret2
         rw [HQ'.out]
         exact ⟨rfl, rfl⟩)
  have HQ' := Lib.hid (HQ1.out.trans (if_neg hb))
  clear HQ1
  have HL := Lib.hid (quant zs num den (by rw [HN.out]; omega) (by omega) (by omega) (by omega))
  generalize qV zs num den = r at *
  have m1 : 0 ≤ num * (n : Int) ∧ num * (n : Int) ≤ 10000000 := by
    have := Int.mul_nonneg (show 0 ≤ num by omega) (show (0 : Int) ≤ n by omega)
    have := Int.mul_le_mul (show num ≤ 1000 by omega) (show (n : Int) ≤ 1000 by omega) (by omega) (by omega)
    omega
  go_enter Try.func36, Try.ntmps36
  go_wp2
  go_loop [8, 9, 41] (fun f b i => ∃ k : Nat, k ≤ n ∧ i = .int .i64 k ∧ f = .bool (least (enough zs num den) (zs.take k)).isSome ∧ b = .int .i64 ((least (enough zs num den) (zs.take k)).getD 0)) (fun _ _ i => n - (intOf i).toNat)
  case atStart => exact ⟨0, Nat.zero_le _, rfl, rfl, rfl⟩
  case round =>
    obtain ⟨k, hk, rfl, rfl, rfl⟩ := hrel
    by_cases hlt : k < n
    · have hkz : k < zs.length := by have := HN.out; omega
      obtain ⟨p, off, rfl, hp, hcell⟩ := HR.out.at_ hkz
      have HS := Lib.hid (least_snoc (enough zs num den) zs k hkz)
      generalize hz : zs[k] = z at *
      clear hz
      generalize least (enough zs num den) (zs.take k) = r1 at *
      go_wp2
      go_loop [12, 47] (fun m i => ∃ j : Nat, j ≤ n ∧ i = .int .i64 j ∧ m = .int .i64 (cnt (zs.take j) z : Nat)) (fun _ i => n - (intOf i).toNat)
      case atStart => exact ⟨0, Nat.zero_le _, rfl, rfl⟩
      case round =>
        obtain ⟨j, hj, rfl, rfl⟩ := hrel
        have cb : cnt (zs.take j) z ≤ j := Nat.le_trans (cnt_le _ _) (by simp; omega)
        by_cases hlt2 : j < n
        · have hjz : j < zs.length := by have := HN.out; omega
          obtain ⟨p2, off2, hpe, hp2, hcell2⟩ := HR.out.at_ hjz
          injection hpe with hpe
          injection hpe with e1 e2 e3
          subst e1 e2
          have HC := Lib.hid (cnt_snoc zs j hjz z)
          generalize hy : zs[j] = y at *
          clear hy
          generalize cnt (zs.take j) z = cj at *
          go_wp2
          all_goals
            go_round
            case rel =>
              refine ⟨j + 1, by omega, by go_num, ?_⟩
              rw [HC.out]
              split <;> first | (exfalso; omega) | (simp; done) | rfl
            case measure => simp [intOf]; omega
        · obtain rfl : j = n := by omega
          have HT := Lib.hid (List.take_of_length_le (show zs.length ≤ j by rw [HN.out]; omega))
          rw [HT.out] at cb ⊢
          have m2 : 0 ≤ (cnt zs z : Int) * den ∧ (cnt zs z : Int) * den ≤ 1000000 := by
            have := Int.mul_nonneg (show (0 : Int) ≤ (cnt zs z : Int) by omega) (show 0 ≤ den by omega)
            have := Int.mul_le_mul (show (cnt zs z : Int) ≤ 1000 by omega) (show den ≤ 1000 by omega) (by omega) (by omega)
            omega
          have HE := Lib.hid (show enough zs num den z = decide (num * (j : Int) ≤ (cnt zs z : Int) * den) by unfold enough; rw [HN.out])
          generalize cnt zs z = cz at *
          clear HT
          have HE2 : Hid (least (enough zs num den) (zs.take (k + 1)) = if decide (num * (j : Int) ≤ (cz : Int) * den) && less r1 z then some z else r1) := Lib.hid (by rw [HS.out, HE.out])
          clear HS HE
          cases r1 with
          | none =>
            go_wp2
            all_goals
              go_round
              case rel =>
                refine ⟨k + 1, by omega, by go_num, ?_, ?_⟩ <;> rw [HE2.out] <;> simp only [less, Bool.and_true, decide_eq_true_eq] <;> split <;> first | rfl | (exfalso; omega)
              case measure => simp [intOf]; omega
          | some b =>
            simp only [Option.isSome_some, Option.getD_some]
            go_wp2
            all_goals
              go_round
              case rel =>
                refine ⟨k + 1, by omega, by go_num, ?_, ?_⟩ <;> rw [HE2.out] <;> simp only [less, Bool.and_eq_true, decide_eq_true_eq] <;> split <;> first | rfl | (exfalso; omega)
              case measure => simp [intOf]; omega
    · have hk2 : zs.take k = zs := List.take_of_length_le (by rw [HN.out]; omega)
      have HL2 := Lib.hid ((congrArg (least (enough zs num den)) hk2).trans HL.out)
      clear hk2
      generalize least (enough zs num den) (zs.take k) = r1 at *
      obtain rfl := HL2.out
      go_wp2
      go_ret2
      rw [HQ'.out, HN.out]
      exact ⟨rfl, rfl⟩
end Go.Proofs.Ytdnikegakcdcnaa
