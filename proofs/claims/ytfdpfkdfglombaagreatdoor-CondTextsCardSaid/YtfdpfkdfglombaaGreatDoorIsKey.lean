/- person.IsKey and handref2.Key: both answer keyB, a plain predicate of the bytes. -/
import Derived.Test.YtfdpfkdfglombaaGreatDoorStream
import Derived.Test.YtfdpfkdfglombaaGreatDoorShelf
import Derived.Shelf.Strings.SlTrimAscii
set_option linter.unusedVariables false
namespace Go.Proofs.YtfdpfkdfglombaaGreatDoor
open Go.RowKit

def smallB (c : UInt8) : Bool := decide (97 ≤ c.toNat ∧ c.toNat ≤ 122)
def digitB (c : UInt8) : Bool := decide (48 ≤ c.toNat ∧ c.toNat ≤ 57)
def keyC (c : UInt8) : Bool := smallB c || digitB c || decide (c.toNat = 45) || decide (c.toNat = 95)

theorem psmall_any (c : UInt8) (w : World) : Calls Tryz.prog 144 #[.int .u8 (c.toNat : Int)] w fun e w' => e = .returned (.bool (smallB c)) ∧ w = w' := by
  have HE := Lib.hid (show smallB c = decide (97 ≤ c.toNat ∧ c.toNat ≤ 122) from rfl)
  generalize smallB c = b at *
  generalize c.toNat = n at *
  by_cases h1 : 97 ≤ n
  · by_cases h2 : n ≤ 122
    · obtain rfl : b = true := HE.out.trans (decide_eq_true ⟨h1, h2⟩)
      go_enter Tryz.func144, Tryz.ntmps144
      go_wp2
      go_ret
      exact ⟨ret_bool (by simp; omega), rfl⟩
    · obtain rfl : b = false := HE.out.trans (decide_eq_false (by omega))
      go_enter Tryz.func144, Tryz.ntmps144
      go_wp2
      go_ret
      exact ⟨ret_bool (by simp; omega), rfl⟩
  · obtain rfl : b = false := HE.out.trans (decide_eq_false (by omega))
    go_enter Tryz.func144, Tryz.ntmps144
    go_wp2
    go_ret
    exact ⟨rfl, rfl⟩
theorem pdigit_any (c : UInt8) (w : World) : Calls Tryz.prog 147 #[.int .u8 (c.toNat : Int)] w fun e w' => e = .returned (.bool (digitB c)) ∧ w = w' := by
  have HE := Lib.hid (show digitB c = decide (48 ≤ c.toNat ∧ c.toNat ≤ 57) from rfl)
  generalize digitB c = b at *
  generalize c.toNat = n at *
  by_cases h1 : 48 ≤ n
  · by_cases h2 : n ≤ 57
    · obtain rfl : b = true := HE.out.trans (decide_eq_true ⟨h1, h2⟩)
      go_enter Tryz.func147, Tryz.ntmps147
      go_wp2
      go_ret
      exact ⟨ret_bool (by simp; omega), rfl⟩
    · obtain rfl : b = false := HE.out.trans (decide_eq_false (by omega))
      go_enter Tryz.func147, Tryz.ntmps147
      go_wp2
      go_ret
      exact ⟨ret_bool (by simp; omega), rfl⟩
  · obtain rfl : b = false := HE.out.trans (decide_eq_false (by omega))
    go_enter Tryz.func147, Tryz.ntmps147
    go_wp2
    go_ret
    exact ⟨rfl, rfl⟩

theorem isKey1_any (c : UInt8) (w : World) : Calls Tryz.prog 146 #[.int .u8 (c.toNat : Int)] w fun e w' => e = .returned (.bool (keyC c)) ∧ w = w' := by
  have HE := Lib.hid (show keyC c = (smallB c || digitB c || decide (c.toNat = 45) || decide (c.toNat = 95)) from rfl)
  have C1 := Lib.hid (fun w => psmall_any c w)
  have C2 := Lib.hid (fun w => pdigit_any c w)
  generalize smallB c = s at *
  generalize digitB c = d at *
  generalize keyC c = k at *
  generalize c.toNat = n at *
  cases s with
  | true =>
    obtain rfl : k = true := HE.out.trans (by simp)
    go_enter Tryz.func146, Tryz.ntmps146
    go_wp2_with fail
    with_reducible refine (C1.out _).mono ?_
    rintro e w1 ⟨rfl, rfl⟩
    go_wp2
    go_ret
    exact ⟨rfl, rfl⟩
  | false =>
    cases d with
    | true =>
      obtain rfl : k = true := HE.out.trans (by simp)
      go_enter Tryz.func146, Tryz.ntmps146
      go_wp2_with fail
      with_reducible refine (C1.out _).mono ?_
      rintro e w1 ⟨rfl, rfl⟩
      go_wp2_with fail
      with_reducible refine (C2.out _).mono ?_
      rintro e w1 ⟨rfl, rfl⟩
      go_wp2
      go_ret
      exact ⟨rfl, rfl⟩
    | false =>
      have e1 : k = (decide (n = 45) || decide (n = 95)) := HE.out.trans (by simp)
      subst e1
      by_cases h1 : n = 45
      · have h2 : ((n : Int) == 45) = true := by simp; omega
        have H1 := Lib.hid h1
        clear h1
        go_enter Tryz.func146, Tryz.ntmps146
        go_wp2_with fail
        with_reducible refine (C1.out _).mono ?_
        rintro e w1 ⟨rfl, rfl⟩
        go_wp2_with fail
        with_reducible refine (C2.out _).mono ?_
        rintro e w1 ⟨rfl, rfl⟩
        go_wp2
        go_ret
        exact ⟨ret_bool (by rw [decide_eq_true H1.out]; rfl), rfl⟩
      · have h2 : ((n : Int) == 45) = false := by simp; omega
        go_enter Tryz.func146, Tryz.ntmps146
        go_wp2_with fail
        with_reducible refine (C1.out _).mono ?_
        rintro e w1 ⟨rfl, rfl⟩
        go_wp2_with fail
        with_reducible refine (C2.out _).mono ?_
        rintro e w1 ⟨rfl, rfl⟩
        go_wp2
        go_ret
        exact ⟨ret_bool (by rw [decide_eq_false h1]; rw [Bool.eq_iff_iff]; simp; omega), rfl⟩

theorem pwithin_yes (n lo hi : Int) (w : World) (h1 : lo ≤ n) (h2 : n ≤ hi) : Calls Tryz.prog 143 #[.int .i64 n, .int .i64 lo, .int .i64 hi] w fun e w' => e = .returned (.bool true) ∧ w = w' := by
  go_enter Tryz.func143, Tryz.ntmps143
  go_wp2
  go_ret
  exact ⟨ret_bool (by simp <;> omega), rfl⟩
theorem pwithin_no (n lo hi : Int) (w : World) (h : n < lo ∨ hi < n) : Calls Tryz.prog 143 #[.int .i64 n, .int .i64 lo, .int .i64 hi] w fun e w' => e = .returned (.bool false) ∧ w = w' := by
  by_cases h1 : lo ≤ n
  · have h2 : ¬ n ≤ hi := by omega
    go_enter Tryz.func143, Tryz.ntmps143
    go_wp2
    go_ret
    exact ⟨ret_bool (by simp <;> omega), rfl⟩
  · go_enter Tryz.func143, Tryz.ntmps143
    go_wp2
    go_ret
    exact ⟨rfl, rfl⟩

/-- all the bytes of a string are bytes of keys -/
def allK (s : ByteArray) : Bool := s.data.toList.all keyC
/-- a string is a key -/
def keyB (s : ByteArray) : Bool := decide (1 ≤ s.size ∧ s.size ≤ 40) && smallB (s.data.toList.getD 0 0) && allK s

theorem take_all (s : ByteArray) (k : Nat) (h : k < s.size) : (s.data.toList.take (k + 1)).all keyC = ((s.data.toList.take k).all keyC && keyC s[k]) := by
  rw [List.take_succ_eq_append_getElem (by simpa using h), List.all_append]
  simp
  rfl
theorem allK_of_take (s : ByteArray) (k : Nat) (h : s.size ≤ k) : (s.data.toList.take k).all keyC = allK s := by
  rw [List.take_of_length_le (by simpa using h)]; rfl
theorem allK_no (s : ByteArray) (k : Nat) (h : k < s.size) (hc : keyC s[k] = false) : allK s = false := by
  have e := take_all s k h
  rw [hc, Bool.and_false] at e
  unfold allK
  rw [← List.take_append_drop (k + 1) s.data.toList, List.all_append, e]
  rfl

theorem all_any (s : ByteArray) (w : World) (hs : s.size ≤ maxLen) :
    Calls Tryz.prog 145 #[.string s, .func (.func 146) #[] #[]] w fun e w' => e = .returned (.bool (allK s)) ∧ w = w' := by
  unfold maxLen at hs
  go_enter Tryz.func145, Tryz.ntmps145
  go_wp2_with fail
  go_loop [8] (fun i => ∃ k : Nat, k ≤ s.size ∧ i = .int .i64 k ∧ (s.data.toList.take k).all keyC = true) (fun i => s.size - (intOf i).toNat)
  case atStart => exact ⟨0, Nat.zero_le _, rfl, rfl⟩
  case round =>
    obtain ⟨k, hk, rfl, hall⟩ := hrel
    have HA := Lib.hid hall
    clear hall
    by_cases hlt : k < s.size
    · have HT := Lib.hid (take_all s k hlt)
      have HN := Lib.hid (allK_no s k hlt)
      have C := Lib.hid (fun w => isKey1_any s[k] w)
      generalize keyC s[k] = b at *
      cases b with
      | true =>
        go_wp2_with fail
        with_reducible refine (C.out _).mono ?_
        rintro e w1 ⟨rfl, rfl⟩
        go_wp2
        go_round
        case rel => exact ⟨k + 1, by omega, by go_num, by rw [HT.out, HA.out]; rfl⟩
        case measure => simp [intOf]; omega
      | false =>
        go_wp2_with fail
        with_reducible refine (C.out _).mono ?_
        rintro e w1 ⟨rfl, rfl⟩
        go_wp2
        go_ret
        exact ⟨ret_bool (HN.out (by trivial)).symm, rfl⟩
    · have HF := Lib.hid (allK_of_take s k (by omega))
      go_wp2_with fail
      go_ret
      exact ⟨ret_bool (HF.out.symm.trans HA.out).symm, rfl⟩

theorem getD0 (s : ByteArray) (h : 0 < s.size) : s.data.toList.getD 0 0 = s[0] := by
  rw [List.getD_eq_getElem?_getD, List.getElem?_eq_getElem (by simpa using h)]
  rfl

theorem isKey_any (s : ByteArray) (w : World) (hs : s.size ≤ maxLen) :
    Calls Tryz.prog 78 #[.string s] w fun e w' => e = .returned (.bool (keyB s)) ∧ w = w' := by
  have CA := Lib.hid (fun w => all_any s w hs)
  unfold maxLen at hs
  by_cases hsz : 1 ≤ s.size ∧ s.size ≤ 40
  · have HK := Lib.hid (show keyB s = (smallB s[0] && allK s) by unfold keyB; rw [decide_eq_true hsz, getD0 s hsz.1]; simp)
    have C1 := Lib.hid (fun w => psmall_any s[0] w)
    obtain ⟨hs1, hs2⟩ := hsz
    have hs0 : 0 < s.size := hs1
    generalize smallB s[0] = b at *
    generalize allK s = a at *
    cases b with
    | true =>
      go_enter Tryz.func78, Tryz.ntmps78
      go_wp2_with fail
      with_reducible refine (pwithin_yes _ _ _ _ (by omega) (by omega)).mono ?_
      rintro e w1 ⟨rfl, rfl⟩
      go_wp2_with fail
      with_reducible refine (C1.out _).mono ?_
      rintro e w1 ⟨rfl, rfl⟩
      go_wp2_with fail
      with_reducible refine (CA.out _).mono ?_
      rintro e w1 ⟨rfl, rfl⟩
      go_wp2
      go_ret
      exact ⟨ret_bool (HK.out.trans (by simp)).symm, rfl⟩
    | false =>
      go_enter Tryz.func78, Tryz.ntmps78
      go_wp2_with fail
      with_reducible refine (pwithin_yes _ _ _ _ (by omega) (by omega)).mono ?_
      rintro e w1 ⟨rfl, rfl⟩
      go_wp2_with fail
      with_reducible refine (C1.out _).mono ?_
      rintro e w1 ⟨rfl, rfl⟩
      go_wp2
      go_ret
      exact ⟨ret_bool (HK.out.trans (by simp)).symm, rfl⟩
  · have HK := Lib.hid (show keyB s = false by unfold keyB; rw [decide_eq_false hsz]; simp)
    have hsz' : (s.size : Int) < 1 ∨ 40 < (s.size : Int) := by omega
    clear hsz
    go_enter Tryz.func78, Tryz.ntmps78
    go_wp2_with fail
    with_reducible refine (pwithin_no _ _ _ _ hsz').mono ?_
    rintro e w1 ⟨rfl, rfl⟩
    go_wp2
    go_ret
    exact ⟨ret_bool HK.out.symm, rfl⟩
end Go.Proofs.YtfdpfkdfglombaaGreatDoor
