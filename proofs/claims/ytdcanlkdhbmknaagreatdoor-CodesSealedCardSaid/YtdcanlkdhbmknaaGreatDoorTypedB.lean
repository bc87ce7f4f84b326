/- offer.typed and handref1.shifted at one byte. -/
import Derived.Test.YtdcanlkdhbmknaaGreatDoorCodeAsc
import Derived.Test.YtdcanlkdhbmknaaGreatDoorRowG
import Derived.Laws.IdiomStrings
set_option linter.unusedVariables false
namespace Go.Proofs.YtdcanlkdhbmknaaGreatDoor
open Go.RowKit

/-- a sign that looks like another -/
def lkN (m : Nat) : Nat := if m = 79 then 48 else if m = 73 ∨ m = 76 then 49 else if m = 83 then 53 else if m = 90 then 50 else m
/-- what typed makes of a byte -/
def tyN (n : Nat) : Nat := lkN (if 97 ≤ n ∧ n ≤ 122 then n - 32 else n)

set_option maxRecDepth 100000 in
set_option maxHeartbeats 1000000 in
theorem typed_any (n : Nat) (w : World) (hn : n < 256) :
    Calls Tryz.prog 32 #[.int .u8 (n : Int)] w fun e w' => e = .returned (.int .u8 (tyN n : Nat)) ∧ w = w' := by
  obtain ⟨T, hT⟩ : ∃ T, tyN n = T := ⟨_, rfl⟩
  rw [hT]
  have HT := Lib.hid hT.symm
  unfold tyN at HT
  clear hT
  have go : ∀ m : Nat, m < 256 → (97 ≤ n ∧ n ≤ 122 → n = m + 32) → (¬ (97 ≤ n ∧ n ≤ 122) → n = m) → T = lkN m →
      Calls Tryz.prog 32 #[.int .u8 (n : Int)] w fun e w' => e = .returned (.int .u8 (T : Nat)) ∧ w = w' := by
    intro m hm hy hno hTm
    have HTM := Lib.hid hTm
    unfold lkN at HTM
    clear hTm HT
    by_cases h97 : 97 ≤ n
    · by_cases h122 : n ≤ 122
      · obtain rfl := hy ⟨h97, h122⟩
        have e1 : IntKind.u8.wrap ((m : Int) + 32 - 32) = (m : Int) := by rw [show (m : Int) + 32 - 32 = m by omega, IntKind.wrap_u8]; omega
        clear hy hno
        by_cases c1 : m = 79
        · obtain rfl : T = 48 := HTM.out.trans (if_pos c1)
          subst c1
          go_enter Tryz.func32, Tryz.ntmps32
          go_wp2_with fail
          go_ret
          exact ⟨rfl, rfl⟩
        by_cases c2 : m = 73
        · obtain rfl : T = 49 := (HTM.out.trans (if_neg c1)).trans (if_pos (.inl c2))
          subst c2
          go_enter Tryz.func32, Tryz.ntmps32
          go_wp2_with fail
          go_ret
          exact ⟨rfl, rfl⟩
        by_cases c3 : m = 76
        · obtain rfl : T = 49 := (HTM.out.trans (if_neg c1)).trans (if_pos (.inr c3))
          subst c3
          go_enter Tryz.func32, Tryz.ntmps32
          go_wp2_with fail
          go_ret
          exact ⟨rfl, rfl⟩
        by_cases c4 : m = 83
        · obtain rfl : T = 53 := ((HTM.out.trans (if_neg c1)).trans (if_neg (not_or.2 ⟨c2, c3⟩))).trans (if_pos c4)
          subst c4
          go_enter Tryz.func32, Tryz.ntmps32
          go_wp2_with fail
          go_ret
          exact ⟨rfl, rfl⟩
        by_cases c5 : m = 90
        · obtain rfl : T = 50 := (((HTM.out.trans (if_neg c1)).trans (if_neg (not_or.2 ⟨c2, c3⟩))).trans (if_neg c4)).trans (if_pos c5)
          subst c5
          go_enter Tryz.func32, Tryz.ntmps32
          go_wp2_with fail
          go_ret
          exact ⟨rfl, rfl⟩
        obtain rfl : T = m := (((HTM.out.trans (if_neg c1)).trans (if_neg (not_or.2 ⟨c2, c3⟩))).trans (if_neg c4)).trans (if_neg c5)
        go_enter Tryz.func32, Tryz.ntmps32
        go_wp2_with fail
        go_ret
        exact ⟨rfl, rfl⟩
      · have hnm : m = n := (hno (fun h => h122 h.2)).symm
        subst hnm
        clear hy hno
        by_cases c1 : m = 79
        · obtain rfl : T = 48 := HTM.out.trans (if_pos c1)
          subst c1
          go_enter Tryz.func32, Tryz.ntmps32
          go_wp2_with fail
          go_ret
          exact ⟨rfl, rfl⟩
        by_cases c2 : m = 73
        · obtain rfl : T = 49 := (HTM.out.trans (if_neg c1)).trans (if_pos (.inl c2))
          subst c2
          go_enter Tryz.func32, Tryz.ntmps32
          go_wp2_with fail
          go_ret
          exact ⟨rfl, rfl⟩
        by_cases c3 : m = 76
        · obtain rfl : T = 49 := (HTM.out.trans (if_neg c1)).trans (if_pos (.inr c3))
          subst c3
          go_enter Tryz.func32, Tryz.ntmps32
          go_wp2_with fail
          go_ret
          exact ⟨rfl, rfl⟩
        by_cases c4 : m = 83
        · obtain rfl : T = 53 := ((HTM.out.trans (if_neg c1)).trans (if_neg (not_or.2 ⟨c2, c3⟩))).trans (if_pos c4)
          subst c4
          go_enter Tryz.func32, Tryz.ntmps32
          go_wp2_with fail
          go_ret
          exact ⟨rfl, rfl⟩
        by_cases c5 : m = 90
        · obtain rfl : T = 50 := (((HTM.out.trans (if_neg c1)).trans (if_neg (not_or.2 ⟨c2, c3⟩))).trans (if_neg c4)).trans (if_pos c5)
          subst c5
          go_enter Tryz.func32, Tryz.ntmps32
          go_wp2_with fail
          go_ret
          exact ⟨rfl, rfl⟩
        obtain rfl : T = m := (((HTM.out.trans (if_neg c1)).trans (if_neg (not_or.2 ⟨c2, c3⟩))).trans (if_neg c4)).trans (if_neg c5)
        go_enter Tryz.func32, Tryz.ntmps32
        go_wp2_with fail
        go_ret
        exact ⟨rfl, rfl⟩
    · have hnm : m = n := (hno (fun h => h97 h.1)).symm
      subst hnm
      clear hy hno
      by_cases c1 : m = 79
      · obtain rfl : T = 48 := HTM.out.trans (if_pos c1)
        subst c1
        go_enter Tryz.func32, Tryz.ntmps32
        go_wp2_with fail
        go_ret
        exact ⟨rfl, rfl⟩
      by_cases c2 : m = 73
      · obtain rfl : T = 49 := (HTM.out.trans (if_neg c1)).trans (if_pos (.inl c2))
        subst c2
        go_enter Tryz.func32, Tryz.ntmps32
        go_wp2_with fail
        go_ret
        exact ⟨rfl, rfl⟩
      by_cases c3 : m = 76
      · obtain rfl : T = 49 := (HTM.out.trans (if_neg c1)).trans (if_pos (.inr c3))
        subst c3
        go_enter Tryz.func32, Tryz.ntmps32
        go_wp2_with fail
        go_ret
        exact ⟨rfl, rfl⟩
      by_cases c4 : m = 83
      · obtain rfl : T = 53 := ((HTM.out.trans (if_neg c1)).trans (if_neg (not_or.2 ⟨c2, c3⟩))).trans (if_pos c4)
        subst c4
        go_enter Tryz.func32, Tryz.ntmps32
        go_wp2_with fail
        go_ret
        exact ⟨rfl, rfl⟩
      by_cases c5 : m = 90
      · obtain rfl : T = 50 := (((HTM.out.trans (if_neg c1)).trans (if_neg (not_or.2 ⟨c2, c3⟩))).trans (if_neg c4)).trans (if_pos c5)
        subst c5
        go_enter Tryz.func32, Tryz.ntmps32
        go_wp2_with fail
        go_ret
        exact ⟨rfl, rfl⟩
      obtain rfl : T = m := (((HTM.out.trans (if_neg c1)).trans (if_neg (not_or.2 ⟨c2, c3⟩))).trans (if_neg c4)).trans (if_neg c5)
      go_enter Tryz.func32, Tryz.ntmps32
      go_wp2_with fail
      go_ret
      exact ⟨rfl, rfl⟩
  by_cases hs : 97 ≤ n ∧ n ≤ 122
  · exact go (n - 32) (by omega) (fun _ => by omega) (fun h => absurd hs h) (by rw [HT.out, if_pos hs])
  · exact go n hn (fun h => absurd h hs) (fun _ => rfl) (by rw [HT.out, if_neg hs])
end Go.Proofs.YtdcanlkdhbmknaaGreatDoor
