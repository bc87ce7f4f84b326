/- person.CheckValue: what is wrong with a value. -/
import Derived.Test.YtfdpfkdfglombaaGreatDoorSgW
import Derived.Test.YtfdpfkdfglombaaGreatDoorTbs
set_option linter.unusedVariables false
namespace Go.Proofs.YtfdpfkdfglombaaGreatDoor
open Go.RowKit

def bytC (c : UInt8) : Bool := decide (32 ≤ c.toNat) && !decide (c.toNat = 127)
theorem txt1_any (c : UInt8) (w : World) : Calls Tryz.prog 237 #[.int .u8 (c.toNat : Int)] w fun e w' => e = .returned (.bool (bytC c)) ∧ w = w' := by
  have HE := Lib.hid (show bytC c = (decide (32 ≤ c.toNat) && !decide (c.toNat = 127)) from rfl)
  generalize bytC c = b at *
  generalize c.toNat = n at *
  by_cases h1 : 32 ≤ n
  · by_cases h2 : n = 127
    · subst h2
      go_enter Tryz.func237, Tryz.ntmps237
      go_wp2
      go_ret
      exact ⟨ret_bool (HE.out.trans (by decide)).symm, rfl⟩
    · have h3 : ((n : Int) != 127) = true := by simp; omega
      have H2 := Lib.hid h2
      clear h2
      go_enter Tryz.func237, Tryz.ntmps237
      go_wp2
      go_ret
      exact ⟨ret_bool (HE.out.trans (by rw [decide_eq_true h1, decide_eq_false H2.out]; rfl)).symm, rfl⟩
  · go_enter Tryz.func237, Tryz.ntmps237
    go_wp2
    go_ret
    exact ⟨ret_bool (HE.out.trans (by rw [decide_eq_false h1]; rfl)).symm, rfl⟩
def allT (s : ByteArray) : Bool := s.data.toList.all bytC
theorem txB_eq (s : ByteArray) : txB s = (Lib.validD s.data.toList && allT s) := rfl
theorem take_allT (s : ByteArray) (k : Nat) (h : k < s.size) : (s.data.toList.take (k + 1)).all bytC = ((s.data.toList.take k).all bytC && bytC s[k]) := by
  rw [List.take_succ_eq_append_getElem (by simpa using h), List.all_append]
  simp
  rfl
theorem allT_of_take (s : ByteArray) (k : Nat) (h : s.size ≤ k) : (s.data.toList.take k).all bytC = allT s := by
  rw [List.take_of_length_le (by simpa using h)]; rfl
theorem allT_no (s : ByteArray) (k : Nat) (h : k < s.size) (hc : bytC s[k] = false) : allT s = false := by
  have e := take_allT s k h
  rw [hc, Bool.and_false] at e
  unfold allT
  rw [← List.take_append_drop (k + 1) s.data.toList, List.all_append, e]
  rfl
theorem allT_any (s : ByteArray) (w : World) (hs : s.size ≤ maxLen) :
    Calls Tryz.prog 145 #[.string s, .func (.func 237) #[] #[]] w fun e w' => e = .returned (.bool (allT s)) ∧ w = w' := by
  unfold maxLen at hs
  go_enter Tryz.func145, Tryz.ntmps145
  go_wp2_with fail
  go_loop [8] (fun i => ∃ k : Nat, k ≤ s.size ∧ i = .int .i64 k ∧ (s.data.toList.take k).all bytC = true) (fun i => s.size - (intOf i).toNat)
  case atStart => exact ⟨0, Nat.zero_le _, rfl, rfl⟩
  case round =>
    obtain ⟨k, hk, rfl, hall⟩ := hrel
    have HA := Lib.hid hall
    clear hall
    by_cases hlt : k < s.size
    · have HT := Lib.hid (take_allT s k hlt)
      have HN := Lib.hid (allT_no s k hlt)
      have C := Lib.hid (fun w => txt1_any s[k] w)
      generalize bytC s[k] = b at *
      cases b with
      | true =>
        go_wp2_with fail
        with_reducible refine (C.out _).mono ?_
        rintro e w1 ⟨rfl, rfl⟩
        go_wp2
        go_round
        case rel => exact ⟨k + 1, by omega, by go_num, by rw [HT.out, HA.out]; rfl⟩
        case measure => simp [intOf]; omega
      | false =>
        go_wp2_with fail
        with_reducible refine (C.out _).mono ?_
        rintro e w1 ⟨rfl, rfl⟩
        go_wp2
        go_ret
        exact ⟨ret_bool (HN.out (by trivial)).symm, rfl⟩
    · have HF := Lib.hid (allT_of_take s k (by omega))
      go_wp2_with fail
      go_ret
      exact ⟨ret_bool (HF.out.symm.trans HA.out).symm, rfl⟩
/-- a call that gives a number, and leaves what was there alone -/
def IntO (w : World) (r : Int) (e : Ending) (w' : World) : Prop := e = .returned (.int .i64 r) ∧ Below w.heap.size w w'
def ckT (s : ByteArray) : Int := if 200 < s.size then 2 else if txB s = false then 3 else 0
theorem checkText_any (s : ByteArray) (w : World) (hs : s.size ≤ maxLen) (hT : Tbs w) :
    Calls Tryz.prog 195 #[.string s] w (IntO w (ckT s)) := by
  have CV := Lib.hid (valid_any s w hs hT)
  have CA := Lib.hid (fun w => allT_any s w hs)
  clear hT
  unfold maxLen at hs
  by_cases h0 : 200 < s.size
  · have HE := Lib.hid (show ckT s = 2 by unfold ckT; rw [if_pos h0])
    go_enter Tryz.func195, Tryz.ntmps195
    go_wp2
    go_ret
    exact ⟨ret_int HE.out.symm, Below.refl _ _⟩
  · have HE := Lib.hid (show ckT s = if (Lib.validD s.data.toList && allT s) = false then 3 else 0 by unfold ckT; rw [if_neg h0, txB_eq])
    generalize Lib.validD s.data.toList = v at *
    generalize allT s = a at *
    cases v with
    | false =>
      go_enter Tryz.func195, Tryz.ntmps195
      go_wp2_with fail
      with_reducible refine (CV.out).mono ?_
      rintro e w1 ⟨rfl, hb⟩
      go_wp2
      go_ret
      exact ⟨ret_int (HE.out.trans rfl).symm, hb⟩
    | true =>
      cases a with
      | false =>
        go_enter Tryz.func195, Tryz.ntmps195
        go_wp2_with fail
        with_reducible refine (CV.out).mono ?_
        rintro e w1 ⟨rfl, hb⟩
        go_wp2_with fail
        with_reducible refine (CA.out _).mono ?_
        rintro e w2 ⟨rfl, rfl⟩
        go_wp2
        go_ret
        exact ⟨ret_int (HE.out.trans rfl).symm, hb⟩
      | true =>
        go_enter Tryz.func195, Tryz.ntmps195
        go_wp2_with fail
        with_reducible refine (CV.out).mono ?_
        rintro e w1 ⟨rfl, hb⟩
        go_wp2_with fail
        with_reducible refine (CA.out _).mono ?_
        rintro e w2 ⟨rfl, rfl⟩
        go_wp2
        go_ret
        exact ⟨ret_int (HE.out.trans rfl).symm, hb⟩
theorem pwithin_any (n lo hi : Int) (w : World) : Calls Tryz.prog 143 #[.int .i64 n, .int .i64 lo, .int .i64 hi] w fun e w' => e = .returned (.bool (decide (lo ≤ n ∧ n ≤ hi))) ∧ w = w' := by
  by_cases h : lo ≤ n ∧ n ≤ hi
  · rw [decide_eq_true h]; exact pwithin_yes n lo hi w h.1 h.2
  · rw [decide_eq_false h]; exact pwithin_no n lo hi w (by omega)
theorem out_if (n lo hi : Int) : (if n < lo ∨ hi < n then (1 : Int) else 0) = if decide (lo ≤ n ∧ n ≤ hi) = true then 0 else 1 := by
  by_cases h : lo ≤ n ∧ n ≤ hi
  · rw [if_neg (by omega), decide_eq_true h, if_pos rfl]
  · rw [if_pos (by omega), decide_eq_false h, if_neg (by simp)]
theorem checkValue_any (v : Vl) (w : World) (hv : v.ok) (hT : Tbs w) :
    Calls Tryz.prog 141 #[.agg #[.int .i64 v.kind, .string v.text, .int .i64 v.num]] w (IntO w (vlE v)) := by
  obtain ⟨k, s, n⟩ := v
  obtain ⟨hk, hs, hn⟩ := hv
  unfold i64B at hk hn
  simp only at hk hs hn
  have hsm : s.size ≤ maxLen := by unfold maxLen; omega
  have CT := Lib.hid (fun w h => checkText_any s w hsm h)
  have HE := Lib.hid (show vlE ⟨k, s, n⟩ = (if k < 1 ∨ 4 < k then 4 else if k = 1 then (if n ≠ 0 then 3 else ckT s) else if s.size ≠ 0 then 3 else if n < loV k ∨ hiV k < n then 1 else 0) by
    unfold vlE ckT; rfl)
  generalize vlE ⟨k, s, n⟩ = r at *
  generalize ckT s = c at *
  have HT := Lib.hid (hT.alloc (.cells #[.int .i64 k, .string s, .int .i64 n] 72))
  clear hT hsm
  by_cases h1 : k = 1
  · subst h1
    rw [if_neg (by omega), if_pos rfl] at HE
    by_cases h2 : n = 0
    · subst h2
      rw [if_neg (by omega)] at HE
      obtain rfl : r = c := HE.out
      go_enter Tryz.func141, Tryz.ntmps141
      go_wp2_with fail
      with_reducible refine (CT.out _ HT.out).mono ?_
      rintro e w1 ⟨rfl, hb⟩
      go_wp2
      go_ret
      exact ⟨rfl, (((Below.refl _ _).alloc (Nat.le_refl _) _).trans (hb.mono (by simp)))⟩
    · rw [if_pos h2] at HE
      have h3 : (n != 0) = true := by simpa using h2
      clear h2
      obtain rfl : r = 3 := HE.out
      go_enter Tryz.func141, Tryz.ntmps141
      go_wp2
      go_ret
      exact ⟨rfl, (Below.refl _ _).alloc (Nat.le_refl _) _⟩
  · have b1 : (k == 1) = false := by simpa using h1
    rw [if_neg h1] at HE
    by_cases h0 : k < 1 ∨ 4 < k
    · rw [if_pos h0] at HE
      obtain rfl : r = 4 := HE.out
      have b2 : (k == 2) = false := by simp; omega
      have b3 : (k == 3) = false := by simp; omega
      have b4 : (k == 4) = false := by simp; omega
      clear h1 h0
      go_enter Tryz.func141, Tryz.ntmps141
      go_wp2
      go_ret
      exact ⟨rfl, (Below.refl _ _).alloc (Nat.le_refl _) _⟩
    · rw [if_neg h0] at HE
      have hx : (k = 2 ∨ k = 3 ∨ k = 4) := by omega
      clear h1 h0 b1
      by_cases h5 : s.size = 0
      · obtain rfl : s = ⟨#[]⟩ := by
          cases s with | mk d => rw [ByteArray.size] at h5; simp only [ByteArray.mk.injEq]; exact Array.size_eq_zero_iff.1 h5
        rw [if_neg (fun h => h rfl)] at HE
        clear h5
        rcases hx with rfl | rfl | rfl
        · replace HE : Hid (r = if n < -1000000000000 ∨ 1000000000000 < n then 1 else 0) := HE
          rw [out_if] at HE
          have CW := Lib.hid (fun w => pwithin_any n (-1000000000000) 1000000000000 w)
          generalize decide (-1000000000000 ≤ n ∧ n ≤ 1000000000000) = d at *
          cases d
          all_goals
            go_enter Tryz.func141, Tryz.ntmps141
            go_wp2_with fail
            with_reducible refine (CW.out _).mono ?_
            rintro e w1 ⟨rfl, rfl⟩
            go_wp2
            go_ret
            exact ⟨ret_int (HE.out.trans rfl).symm, (Below.refl _ _).alloc (Nat.le_refl _) _⟩
        · replace HE : Hid (r = if n < 0 ∨ 1 < n then 1 else 0) := HE
          rw [out_if] at HE
          have CW := Lib.hid (fun w => pwithin_any n (0) 1 w)
          generalize decide (0 ≤ n ∧ n ≤ 1) = d at *
          cases d
          all_goals
            go_enter Tryz.func141, Tryz.ntmps141
            go_wp2_with fail
            with_reducible refine (CW.out _).mono ?_
            rintro e w1 ⟨rfl, rfl⟩
            go_wp2
            go_ret
            exact ⟨ret_int (HE.out.trans rfl).symm, (Below.refl _ _).alloc (Nat.le_refl _) _⟩
        · replace HE : Hid (r = if n < 0 ∨ 4321439 < n then 1 else 0) := HE
          rw [out_if] at HE
          have CW := Lib.hid (fun w => pwithin_any n (0) 4321439 w)
          generalize decide (0 ≤ n ∧ n ≤ 4321439) = d at *
          cases d
          all_goals
            go_enter Tryz.func141, Tryz.ntmps141
            go_wp2_with fail
            with_reducible refine (CW.out _).mono ?_
            rintro e w1 ⟨rfl, rfl⟩
            go_wp2
            go_ret
            exact ⟨ret_int (HE.out.trans rfl).symm, (Below.refl _ _).alloc (Nat.le_refl _) _⟩
      · rw [if_pos h5] at HE
        obtain rfl : r = 3 := HE.out
        have h6 : s.toList.isEmpty = false := by
          rw [Lib.toList_data, List.isEmpty_eq_false_iff]
          intro e
          apply h5
          show s.data.size = 0
          rw [← Array.length_toList, e]
          rfl
        have h7 : (!s.toList.isEmpty) = true := by rw [h6]; rfl
        clear h5 hs hk hn HE CT HT
        rcases hx with rfl | rfl | rfl
        all_goals
          go_enter Tryz.func141, Tryz.ntmps141
          go_wp2
          go_ret
          exact ⟨rfl, (Below.refl _ _).alloc (Nat.le_refl _) _⟩
end Go.Proofs.YtfdpfkdfglombaaGreatDoor
