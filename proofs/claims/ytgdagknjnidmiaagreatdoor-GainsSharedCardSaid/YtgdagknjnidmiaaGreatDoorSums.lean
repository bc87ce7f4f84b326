/- Contracts of the sums of ints: measure.sumOf, handref1.total. -/
import Derived.Test.YtgdagknjnidmiaaGreatDoorM2
set_option linter.unusedVariables false
namespace Go.Proofs.YtgdagknjnidmiaaGreatDoor
open Go.RowKit

theorem sumOf_any (a : Option Addr) (zs : List Int) (n c : Nat) (w : World) (hn : zs.length = n) (hn1 : n ≤ 1000000) (hr : IntsAt w a zs) (hb : ∀ z ∈ zs, 0 ≤ z ∧ z ≤ 1000000000000) :
    Calls Tryz.prog 108 #[.slice a n c] w fun e w' => e = .returned (.int .i64 zs.sum) ∧ w = w' := by
  have HB := Lib.hid hb
  have HN := Lib.hid hn
  have HR := Lib.hid hr
  clear hb hn hr
  go_enter Tryz.func108, Tryz.ntmps108
  go_wp2
  go_loop [3, 5, 8] (fun s _ i => ∃ k : Nat, k ≤ n ∧ i = .int .i64 k ∧ s = .int .i64 (zs.take k).sum) (fun _ _ i => n - (intOf i).toNat)
  case atStart => exact ⟨0, Nat.zero_le _, rfl, rfl⟩
  case round =>
    obtain ⟨k, hk, rfl, rfl⟩ := hrel
    obtain ⟨s1, s2⟩ := sum_bd (zs.take k) 1000000000000 (fun z hz => HB.out z (List.mem_of_mem_take hz))
    have s3 : 1000000000000 * ((zs.take k).length : Int) ≤ 1000000000000000000 := by
      have : (zs.take k).length ≤ k := List.length_take_le _ _
      omega
    by_cases hlt : k < n
    · have hkz : k < zs.length := by have := HN.out; omega
      obtain ⟨p, off, rfl, hp, hcell⟩ := HR.out.at_ hkz
      obtain ⟨z1, z2⟩ := HB.out zs[k] (List.getElem_mem hkz)
      have HS := Lib.hid (sum_snoc zs k hkz)
      generalize hz : zs[k] = z at *
      clear hz
      generalize (zs.take k).sum = s at *
      generalize ((zs.take k).length : Int) = l at *
      go_wp2
      go_round
      case rel => exact ⟨k + 1, by omega, by go_num, by rw [HS.out]⟩
      case measure => simp [intOf]; omega
    · go_wp2
      go_ret
      exact ⟨ret_int (by rw [List.take_of_length_le (by have := HN.out; omega)]), rfl⟩
end Go.Proofs.YtgdagknjnidmiaaGreatDoor
