/- handref2.points: the code points of a text. -/
import Derived.Test.YtdiioecpponnmaaGreatDoorPtsP
import Derived.Test.YtdiioecpponnmaaGreatDoorSgV
import Derived.Test.YtdiioecpponnmaaGreatDoorInts
import Derived.OwnWalk
set_option linter.unusedVariables false
namespace Go.Proofs.YtdiioecpponnmaaGreatDoor
open Go.RowKit Go.Lib

theorem infoR_int : (Tryz.prog.info? 3).map (fun i => (i.zero, i.size, i.bytes)) = some (some (.int .i64 0), 1, 8) := by kernel_rfl
theorem ptsL_fuel : ∀ (n m : Nat) (l : List UInt8), l.length ≤ n → l.length ≤ m → ptsL n l = ptsL m l
  | 0, 0, l, _, _ => rfl
  | 0, m + 1, l, h, _ => by
    obtain rfl := List.eq_nil_of_length_eq_zero (by omega : l.length = 0)
    rfl
  | n + 1, 0, l, _, h => by
    obtain rfl := List.eq_nil_of_length_eq_zero (by omega : l.length = 0)
    rfl
  | n + 1, m + 1, l, h1, h2 => by
    unfold ptsL
    by_cases h0 : l = []
    · rw [if_pos h0, if_pos h0]
    · rw [if_neg h0, if_neg h0]
      have hl : 0 < l.length := by cases l with
        | nil => exact absurd rfl h0
        | cons _ _ => simp
      have hk : 1 ≤ (decodeL l).2 := by
        rcases decL_shape l hl with ⟨_, e⟩ | ⟨_, e⟩ | ⟨_, e, _⟩
        · rw [e]; exact Nat.le_refl _
        · rw [e]; exact Nat.le_refl _
        · omega
      congr 1
      exact ptsL_fuel n m _ (by rw [List.length_drop]; omega) (by rw [List.length_drop]; omega)
/-- the code points of a text -/
def ptS (s : ByteArray) : List Int := ptsL s.size s.data.toList
theorem decodeN_le (n b0 b1 b2 b3 : Nat) (h : b0 < 256) : (decodeN n b0 b1 b2 b3).1 ≤ 1114111 := by
  unfold decodeN
  repeat' split
  all_goals simp only
  all_goals omega
theorem decodeL_le (l : List UInt8) : (decodeL l).1 ≤ 1114111 := by
  unfold decodeL
  rw [decode_at]
  exact decodeN_le _ _ _ _ _ (UInt8.toNat_lt _)
theorem decodeGo_L (s : ByteArray) (h : 0 < s.size) : decodeGo s = decodeL s.data.toList := by
  unfold decodeGo decodeL
  rw [if_neg (by omega)]
/-- the first code point of a text, as the reference gives it -/
def ptC (c n b : Nat) : Int := if c = 65533 ∧ n = 1 then -1 - (b : Int) else (c : Int)
theorem decGo_bd (s : ByteArray) (h : 0 < s.size) : 1 ≤ (decodeGo s).2 ∧ (decodeGo s).2 ≤ s.size := by
  rw [decodeGo_L s h]
  have hl : 0 < s.data.toList.length := by rw [Array.length_toList]; exact h
  rcases decL_shape s.data.toList hl with ⟨_, e⟩ | ⟨_, e⟩ | ⟨_, e1, e2, _⟩
  · rw [e]; exact ⟨Nat.le_refl _, h⟩
  · rw [e]; exact ⟨Nat.le_refl _, h⟩
  · rw [Array.length_toList] at e2; exact ⟨by omega, e2⟩
theorem decGo_le (s : ByteArray) (h : 0 < s.size) : (decodeGo s).1 ≤ 1114111 := by
  rw [decodeGo_L s h]; exact decodeL_le _
theorem ptS_step (s : ByteArray) (h : 0 < s.size) : ptS s = ptC (decodeGo s).1 (decodeGo s).2 (s[0]'h).toNat :: ptS (s.extract (decodeGo s).2 s.size) := by
  have hb := decGo_bd s h
  rw [decodeGo_L s h] at hb ⊢
  have hl : 0 < s.data.toList.length := by rw [Array.length_toList]; exact h
  obtain ⟨m, hm⟩ : ∃ m, s.size = m + 1 := ⟨s.size - 1, by omega⟩
  have e1 : ptS s = ptC (decodeL s.data.toList).1 (decodeL s.data.toList).2 (s.data.toList.getD 0 0).toNat :: ptsL m (s.data.toList.drop (decodeL s.data.toList).2) := by
    show ptsL s.size s.data.toList = _
    rw [hm]
    conv => lhs; unfold ptsL
    rw [if_neg (by intro e; rw [e] at hl; simp at hl)]
    unfold ptC
    with_reducible rfl
  rw [e1]
  clear e1
  have e0 : s.data.toList.getD 0 0 = s[0] := by
    rw [List.getD_eq_getElem?_getD, List.getElem?_eq_getElem hl]
    rfl
  rw [e0]
  clear e0
  generalize ptC _ _ _ = y
  generalize (decodeL s.data.toList).2 = k at *
  congr 1
  have ed : (s.extract k s.size).data.toList = s.data.toList.drop k := by
    rw [Lib.extract_data, List.take_of_length_le]
    rw [List.length_drop, Array.length_toList]
    exact Nat.le_refl _
  unfold ptS
  rw [ed]
  have es : (s.extract k s.size).size = s.size - k := by simp
  rw [es]
  refine ptsL_fuel _ _ _ ?_ ?_
  · rw [List.length_drop, Array.length_toList]; show s.size - _ ≤ _; omega
  · rw [List.length_drop, Array.length_toList]; exact Nat.le_refl _
theorem ptS_empty (s : ByteArray) (h : s.size = 0) : ptS s = [] := by
  unfold ptS; rw [h]; rfl
end Go.Proofs.YtdiioecpponnmaaGreatDoor
