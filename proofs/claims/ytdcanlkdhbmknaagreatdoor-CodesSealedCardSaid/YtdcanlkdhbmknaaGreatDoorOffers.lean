/- The contract of the statements' own look at package offer: Seal "123" is "123C". -/
import Derived.Test.YtdcanlkdhbmknaaGreatDoorMem
import Derived.Test.YtdcanlkdhbmknaaGreatDoorShelf
set_option linter.unusedVariables false
namespace Go.Proofs.YtdcanlkdhbmknaaGreatDoor
open Go.RowKit

/-- where a byte stands among the signs -/
theorem sign_at (c : UInt8) (n : Int) (w : World) (h : Lib.indexByte [48, 49, 50, 51, 52, 53, 54, 55, 56, 57, 65, 66, 67, 68, 69, 70, 71, 72, 74, 75, 77, 78, 80, 81, 82, 84, 85, 86, 87, 88, 89] c = n) :
    Calls Tryz.prog 46 #[.string ⟨#[48, 49, 50, 51, 52, 53, 54, 55, 56, 57, 65, 66, 67, 68, 69, 70, 71, 72, 74, 75, 77, 78, 80, 81, 82, 84, 85, 86, 87, 88, 89]⟩, .int .u8 (c.toNat : Int)] w fun e w' => e = .returned (.int .i64 n) ∧ w = w' := by
  refine (Tryz.strings_IndexByte _ _ w).mono ?_
  rintro e w' ⟨rfl, rfl⟩
  refine ⟨?_, rfl⟩
  rw [← h]
  simp

set_option maxRecDepth 100000 in
theorem areSigns_123 (w : World) : Calls Tryz.prog 26 #[.string ⟨#[49, 50, 51]⟩] w fun e w' => e = .returned (.bool true) ∧ w = w' := by
  go_enter Tryz.func26, Tryz.ntmps26
  go_wp2_with fail
  go_loop [6] (fun i => ∃ k : Nat, k ≤ 3 ∧ i = .int .i64 k) (fun i => 3 - (intOf i).toNat)
  case atStart => exact ⟨0, by omega, rfl⟩
  case round =>
    obtain ⟨k, hk, rfl⟩ := hrel
    rcases (show k = 0 ∨ k = 1 ∨ k = 2 ∨ k = 3 by omega) with rfl | rfl | rfl | rfl
    · go_wp2_with fail
      with_reducible refine (sign_at _ 1 _ (by decide)).mono ?_
      rintro e w' ⟨rfl, rfl⟩
      go_wp2
      go_round
      case rel => exact ⟨1, by omega, rfl⟩
      case measure => simp [intOf]
    · go_wp2_with fail
      with_reducible refine (sign_at _ 2 _ (by decide)).mono ?_
      rintro e w' ⟨rfl, rfl⟩
      go_wp2
      go_round
      case rel => exact ⟨2, by omega, rfl⟩
      case measure => simp [intOf]
    · go_wp2_with fail
      with_reducible refine (sign_at _ 3 _ (by decide)).mono ?_
      rintro e w' ⟨rfl, rfl⟩
      go_wp2
      go_round
      case rel => exact ⟨3, by omega, rfl⟩
      case measure => simp [intOf]
    · go_wp2
      go_ret
      exact ⟨rfl, rfl⟩

set_option maxRecDepth 100000 in
theorem sum_123 (c : UInt8) (n : Nat) (w : World) (hn : n ≤ 30) (h : Lib.indexByte [48, 49, 50, 51, 52, 53, 54, 55, 56, 57, 65, 66, 67, 68, 69, 70, 71, 72, 74, 75, 77, 78, 80, 81, 82, 84, 85, 86, 87, 88, 89] c = (n : Int)) :
    Calls Tryz.prog 30 #[.string ⟨#[49, 50, 51, c]⟩] w fun e w' => e = .returned (.int .i64 ((14 + 4 * (n : Int)).tmod 31)) ∧ w = w' := by
  have H := Lib.hid h
  clear h
  go_enter Tryz.func30, Tryz.ntmps30
  go_wp2_with fail
  go_loop [3, 7] (fun s i => ∃ k : Nat, k ≤ 4 ∧ i = .int .i64 k ∧ s = .int .i64 (if k = 0 then 0 else if k = 1 then 1 else if k = 2 then 5 else if k = 3 then 14 else 14 + 4 * (n : Int))) (fun _ i => 4 - (intOf i).toNat)
  case atStart => exact ⟨0, by omega, rfl, rfl⟩
  case round =>
    obtain ⟨k, hk, rfl, rfl⟩ := hrel
    rcases (show k = 0 ∨ k = 1 ∨ k = 2 ∨ k = 3 ∨ k = 4 by omega) with rfl | rfl | rfl | rfl | rfl
    · go_wp2_with fail
      with_reducible refine (sign_at _ 1 _ ?hx).mono ?_
      case hx => exact (show Lib.indexByte _ (49 : UInt8) = 1 by decide)
      rintro e w' ⟨rfl, rfl⟩
      go_wp2
      go_round
      case rel => exact ⟨1, by omega, rfl, rfl⟩
      case measure => simp [intOf]
    · go_wp2_with fail
      with_reducible refine (sign_at _ 2 _ ?hx).mono ?_
      case hx => exact (show Lib.indexByte _ (50 : UInt8) = 2 by decide)
      rintro e w' ⟨rfl, rfl⟩
      go_wp2
      go_round
      case rel => exact ⟨2, by omega, rfl, rfl⟩
      case measure => simp [intOf]
    · go_wp2_with fail
      with_reducible refine (sign_at _ 3 _ ?hx).mono ?_
      case hx => exact (show Lib.indexByte _ (51 : UInt8) = 3 by decide)
      rintro e w' ⟨rfl, rfl⟩
      go_wp2
      go_round
      case rel => exact ⟨3, by omega, rfl, rfl⟩
      case measure => simp [intOf]
    · go_wp2_with fail
      with_reducible refine (sign_at _ n _ ?hx).mono ?_
      case hx => exact (show Lib.indexByte _ c = (n : Int) from H.out)
      rintro e w' ⟨rfl, rfl⟩
      go_wp2
      go_round
      case rel => exact ⟨4, by omega, rfl, by simp⟩
      case measure => simp [intOf]
    · simp only [show (4 : Nat) ≠ 0 by decide, show (4 : Nat) ≠ 1 by decide, show (4 : Nat) ≠ 2 by decide, show (4 : Nat) ≠ 3 by decide, if_false]
      go_wp2
      go_ret
      exact ⟨by simp [Int.tmod_eq_emod_of_nonneg (show 0 ≤ 14 + 4 * (n : Int) by omega)], rfl⟩

/-- the strings that seal looks at -/
theorem sealed_at (k : Nat) (c : UInt8) (s : ByteArray) (h : s = ⟨#[49, 50, 51, c]⟩) (n : Nat) (w : World) (hn : n ≤ 30) (hx : Lib.indexByte [48, 49, 50, 51, 52, 53, 54, 55, 56, 57, 65, 66, 67, 68, 69, 70, 71, 72, 74, 75, 77, 78, 80, 81, 82, 84, 85, 86, 87, 88, 89] c = (n : Int)) :
    Calls Tryz.prog 30 #[.string s] w fun e w' => e = .returned (.int .i64 ((14 + 4 * (n : Int)).tmod 31)) ∧ w = w' := by
  subst h
  exact sum_123 c n w hn hx

set_option maxRecDepth 100000 in
set_option maxHeartbeats 4000000 in
theorem seal_123 (w : World) : Calls Tryz.prog 27 #[.string ⟨#[49, 50, 51]⟩] w fun e w' => e = .returned (.string ⟨#[49, 50, 51, 67]⟩) ∧ w = w' := by
  go_enter Tryz.func27, Tryz.ntmps27
  go_wp2_with fail
  go_loop [5] (fun i => ∃ k : Nat, k ≤ 12 ∧ i = .int .i64 k) (fun i => 13 - (intOf i).toNat)
  case atStart => exact ⟨0, by omega, rfl⟩
  case round =>
    obtain ⟨k, hk, rfl⟩ := hrel
    rcases (show k = 0 ∨ k = 1 ∨ k = 2 ∨ k = 3 ∨ k = 4 ∨ k = 5 ∨ k = 6 ∨ k = 7 ∨ k = 8 ∨ k = 9 ∨ k = 10 ∨ k = 11 ∨ k = 12 by omega) with rfl | rfl | rfl | rfl | rfl | rfl | rfl | rfl | rfl | rfl | rfl | rfl | rfl
    · go_wp2_with fail
      with_reducible refine (sealed_at 0 48 _ ?h1 0 _ (by omega) ?h2).mono ?_
      case h1 => decide
      case h2 => decide
      rintro e w' ⟨rfl, rfl⟩
      go_wp2
      go_round
      case rel => exact ⟨1, by omega, rfl⟩
      case measure => simp [intOf]
    · go_wp2_with fail
      with_reducible refine (sealed_at 1 49 _ ?h1 1 _ (by omega) ?h2).mono ?_
      case h1 => decide
      case h2 => decide
      rintro e w' ⟨rfl, rfl⟩
      go_wp2
      go_round
      case rel => exact ⟨2, by omega, rfl⟩
      case measure => simp [intOf]
    · go_wp2_with fail
      with_reducible refine (sealed_at 2 50 _ ?h1 2 _ (by omega) ?h2).mono ?_
      case h1 => decide
      case h2 => decide
      rintro e w' ⟨rfl, rfl⟩
      go_wp2
      go_round
      case rel => exact ⟨3, by omega, rfl⟩
      case measure => simp [intOf]
    · go_wp2_with fail
      with_reducible refine (sealed_at 3 51 _ ?h1 3 _ (by omega) ?h2).mono ?_
      case h1 => decide
      case h2 => decide
      rintro e w' ⟨rfl, rfl⟩
      go_wp2
      go_round
      case rel => exact ⟨4, by omega, rfl⟩
      case measure => simp [intOf]
    · go_wp2_with fail
      with_reducible refine (sealed_at 4 52 _ ?h1 4 _ (by omega) ?h2).mono ?_
      case h1 => decide
      case h2 => decide
      rintro e w' ⟨rfl, rfl⟩
      go_wp2
      go_round
      case rel => exact ⟨5, by omega, rfl⟩
      case measure => simp [intOf]
    · go_wp2_with fail
      with_reducible refine (sealed_at 5 53 _ ?h1 5 _ (by omega) ?h2).mono ?_
      case h1 => decide
      case h2 => decide
      rintro e w' ⟨rfl, rfl⟩
      go_wp2
      go_round
      case rel => exact ⟨6, by omega, rfl⟩
      case measure => simp [intOf]
    · go_wp2_with fail
      with_reducible refine (sealed_at 6 54 _ ?h1 6 _ (by omega) ?h2).mono ?_
      case h1 => decide
      case h2 => decide
      rintro e w' ⟨rfl, rfl⟩
      go_wp2
      go_round
      case rel => exact ⟨7, by omega, rfl⟩
      case measure => simp [intOf]
    · go_wp2_with fail
      with_reducible refine (sealed_at 7 55 _ ?h1 7 _ (by omega) ?h2).mono ?_
      case h1 => decide
      case h2 => decide
      rintro e w' ⟨rfl, rfl⟩
      go_wp2
      go_round
      case rel => exact ⟨8, by omega, rfl⟩
      case measure => simp [intOf]
    · go_wp2_with fail
      with_reducible refine (sealed_at 8 56 _ ?h1 8 _ (by omega) ?h2).mono ?_
      case h1 => decide
      case h2 => decide
      rintro e w' ⟨rfl, rfl⟩
      go_wp2
      go_round
      case rel => exact ⟨9, by omega, rfl⟩
      case measure => simp [intOf]
    · go_wp2_with fail
      with_reducible refine (sealed_at 9 57 _ ?h1 9 _ (by omega) ?h2).mono ?_
      case h1 => decide
      case h2 => decide
      rintro e w' ⟨rfl, rfl⟩
      go_wp2
      go_round
      case rel => exact ⟨10, by omega, rfl⟩
      case measure => simp [intOf]
    · go_wp2_with fail
      with_reducible refine (sealed_at 10 65 _ ?h1 10 _ (by omega) ?h2).mono ?_
      case h1 => decide
      case h2 => decide
      rintro e w' ⟨rfl, rfl⟩
      go_wp2
      go_round
      case rel => exact ⟨11, by omega, rfl⟩
      case measure => simp [intOf]
    · go_wp2_with fail
      with_reducible refine (sealed_at 11 66 _ ?h1 11 _ (by omega) ?h2).mono ?_
      case h1 => decide
      case h2 => decide
      rintro e w' ⟨rfl, rfl⟩
      go_wp2
      go_round
      case rel => exact ⟨12, by omega, rfl⟩
      case measure => simp [intOf]
    · go_wp2_with fail
      with_reducible refine (sealed_at 12 67 _ ?h1 12 _ (by omega) ?h2).mono ?_
      case h1 => decide
      case h2 => decide
      rintro e w' ⟨rfl, rfl⟩
      go_wp2
      go_ret
      exact ⟨congrArg (fun s => Ending.returned (Value.string s)) (show (⟨#[49, 50, 51]⟩ : ByteArray) ++ (⟨#[48, 49, 50, 51, 52, 53, 54, 55, 56, 57, 65, 66, 67, 68, 69, 70, 71, 72, 74, 75, 77, 78, 80, 81, 82, 84, 85, 86, 87, 88, 89]⟩ : ByteArray).extract 12 13 = ⟨#[49, 50, 51, 67]⟩ by decide), rfl⟩

theorem owithin_yes (n lo hi : Int) (w : World) (h1 : lo ≤ n) (h2 : n ≤ hi) :
    Calls Tryz.prog 25 #[.int .i64 n, .int .i64 lo, .int .i64 hi] w fun e w' => e = .returned (.bool true) ∧ w = w' := by
  go_enter Tryz.func25, Tryz.ntmps25
  go_wp2
  go_ret
  exact ⟨rfl, rfl⟩
theorem owithin_no (n lo hi : Int) (w : World) (h : n < lo ∨ hi < n) :
    Calls Tryz.prog 25 #[.int .i64 n, .int .i64 lo, .int .i64 hi] w fun e w' => e = .returned (.bool false) ∧ w = w' := by
  by_cases h1 : n < lo
  · have h1' : ¬ lo ≤ n := by omega
    go_enter Tryz.func25, Tryz.ntmps25
    go_wp2
    go_ret
    exact ⟨rfl, rfl⟩
  · have h1' : lo ≤ n := by omega
    have h2 : ¬ n ≤ hi := by omega
    go_enter Tryz.func25, Tryz.ntmps25
    go_wp2
    go_ret
    exact ⟨rfl, rfl⟩
theorem Seal_123 (w : World) : Calls Tryz.prog 7 #[.string ⟨#[49, 50, 51]⟩] w fun e w' => e = .returned (.tuple #[.string ⟨#[49, 50, 51, 67]⟩, .int .i64 0]) ∧ w = w' := by
  go_enter Tryz.func7, Tryz.ntmps7
  go_wp2_with fail
  with_reducible refine (owithin_yes _ _ _ _ ?h1 ?h2).mono ?_
  case h1 => decide
  case h2 => decide
  rintro e w' ⟨rfl, rfl⟩
  go_wp2_with fail
  with_reducible refine (areSigns_123 _).mono ?_
  rintro e w' ⟨rfl, rfl⟩
  go_wp2_with fail
  with_reducible refine (seal_123 _).mono ?_
  rintro e w' ⟨rfl, rfl⟩
  go_wp2
  go_ret2
  exact ⟨rfl, rfl⟩
theorem offers_any (w : World) : Calls Tryz.prog 15 #[] w fun e w' => e = .returned (.bool true) ∧ w = w' := by
  go_enter Tryz.func15, Tryz.ntmps15
  go_wp2_with fail
  with_reducible refine (Seal_123 _).mono ?_
  rintro e w' ⟨rfl, rfl⟩
  go_wp2
  go_ret
  exact ⟨rfl, rfl⟩
end Go.Proofs.YtdcanlkdhbmknaaGreatDoor
