/- offer.Seal. -/
import Derived.Test.YtdcanlkdhbmknaaGreatDoorCodeSum
set_option linter.unusedVariables false
namespace Go.Proofs.YtdcanlkdhbmknaaGreatDoor
open Go.RowKit

set_option maxHeartbeats 1000000 in
theorem Seal_any (b : ByteArray) (w : World) (hs : b.size ≤ 100) :
    Calls Tryz.prog 7 #[.string b] w fun e w' => e = .returned (.tuple #[.string (sealO b).1, .int .i64 (sealO b).2]) ∧ w = w' := by
  obtain ⟨E, hE⟩ : ∃ E, sealO b = E := ⟨_, rfl⟩
  rw [hE]
  have HE := Lib.hid hE.symm
  unfold sealO at HE
  clear hE
  have C1 := Lib.hid (fun w => areSigns_any b w (by unfold maxLen; omega))
  have C2 := Lib.hid (fun w => seal_any b w hs)
  generalize sgnB b.data.toList = sb at *
  generalize sealS b = V at *
  by_cases hsz : b.size < 3 ∨ 23 < b.size
  · obtain rfl : E = (⟨#[]⟩, 2) := HE.out.trans (if_pos hsz)
    go_enter Tryz.func7, Tryz.ntmps7
    go_wp2_with fail
    with_reducible refine (owithin_no _ _ _ _ (by omega)).mono ?_
    rintro e w1 ⟨rfl, rfl⟩
    go_wp2
    go_ret2
    exact ⟨rfl, rfl⟩
  · have HE1 := Lib.hid (HE.out.trans (if_neg hsz))
    clear HE
    go_enter Tryz.func7, Tryz.ntmps7
    go_wp2_with fail
    with_reducible refine (owithin_yes _ _ _ _ (by omega) (by omega)).mono ?_
    rintro e w1 ⟨rfl, rfl⟩
    go_wp2_with fail
    with_reducible refine (C1.out _).mono ?_
    rintro e w1 ⟨rfl, rfl⟩
    cases sb with
    | false =>
      obtain rfl : E = (⟨#[]⟩, 3) := HE1.out.trans (if_pos rfl)
      go_wp2_with fail
      go_ret2
      exact ⟨rfl, rfl⟩
    | true =>
      obtain rfl : E = (V, 0) := HE1.out.trans (if_neg (by decide))
      clear HE1
      go_wp2_with fail
      with_reducible refine (C2.out _).mono ?_
      rintro e w1 ⟨rfl, rfl⟩
      go_wp2_with fail
      go_ret2
      exact ⟨rfl, rfl⟩
end Go.Proofs.YtdcanlkdhbmknaaGreatDoor
