/- handref2.Key and handref1.keyOf answer keyB; handref1.made tells whether all bytes are of a set. -/
import Derived.Test.YtfdpfkdfglombaaGreatDoorIsKey
set_option linter.unusedVariables false
namespace Go.Proofs.YtfdpfkdfglombaaGreatDoor
open Go.RowKit

/-- all the bytes of a string are of a set -/
def onlyB (s : ByteArray) (cs : List UInt8) : Bool := s.data.toList.all (cs.contains ·)

theorem dropWhile_nil (p : UInt8 → Bool) : ∀ l : List UInt8, l.dropWhile p = [] ↔ l.all p = true
  | [] => by simp
  | c :: r => by
    rw [List.dropWhile_cons, List.all_cons]
    cases h : p c
    · simp
    · simp only [if_true, Bool.true_and]; exact dropWhile_nil p r
theorem dropWhile_all (p : UInt8 → Bool) : ∀ l : List UInt8, (l.dropWhile p).all p = l.all p
  | [] => rfl
  | c :: r => by
    rw [List.dropWhile_cons, List.all_cons]
    cases h : p c
    · simp [h]
    · simp only [if_true, Bool.true_and]; exact dropWhile_all p r
theorem trim_all (s : ByteArray) (cs : List UInt8) : onlyB s cs = (Lib.trimS s.data.toList cs).isEmpty := by
  rw [Bool.eq_iff_iff, List.isEmpty_iff]
  unfold Lib.trimS Lib.trimLeftS Lib.trimRightS onlyB
  rw [dropWhile_nil, List.all_reverse, dropWhile_all, List.all_reverse]

def cutSmall : List UInt8 := [97, 98, 99, 100, 101, 102, 103, 104, 105, 106, 107, 108, 109, 110, 111, 112, 113, 114, 115, 116, 117, 118, 119, 120, 121, 122]
def cutKey : List UInt8 := cutSmall ++ [48, 49, 50, 51, 52, 53, 54, 55, 56, 57, 45, 95]
theorem cutSmall_eq (c : UInt8) : cutSmall.contains c = smallB c := by
  have h : ∀ n, n < 256 → cutSmall.contains (UInt8.ofNat n) = smallB (UInt8.ofNat n) := by decide +kernel
  have := h c.toNat (UInt8.toNat_lt c)
  simpa using this
theorem cutKey_eq (c : UInt8) : cutKey.contains c = keyC c := by
  have h : ∀ n, n < 256 → cutKey.contains (UInt8.ofNat n) = keyC (UInt8.ofNat n) := by decide +kernel
  have := h c.toNat (UInt8.toNat_lt c)
  simpa using this

theorem trim_any (s : ByteArray) (cs : List UInt8) (w : World) (hs : s.size ≤ maxLen) (hcs : cs.length < 4294967281) (ha : cs.all (fun b => decide (b.toNat < 128)) = true) :
    Calls Tryz.prog 197 #[.string s, .string ⟨cs.toArray⟩] w fun e w' => e = .returned (.string ⟨(Lib.trimS s.data.toList cs).toArray⟩) ∧ Below w.heap.size w w' := by
  have h := Any.strings_Trim_laid Tryz.lays160 (by kernel_rfl) s ⟨cs.toArray⟩ w (by unfold maxLen at hs; omega) (by simpa [ByteArray.size] using hcs) (ascii_of_all (by simpa using ha))
  exact h

theorem eq_empty (l : List UInt8) : ((⟨l.toArray⟩ : ByteArray).toList.isEmpty) = l.isEmpty := by
  rw [Lib.toList_data]

theorem only_any (s : ByteArray) (cs : List UInt8) (w : World) (hs : s.size ≤ maxLen) (hcs : cs.length < 4294967281) (ha : cs.all (fun b => decide (b.toNat < 128)) = true) :
    Calls Tryz.prog 155 #[.string s, .string ⟨cs.toArray⟩] w fun e w' => e = .returned (.bool (onlyB s cs)) ∧ Below w.heap.size w w' := by
  have C := Lib.hid (trim_any s cs w hs hcs ha)
  rw [trim_all]
  have HE := Lib.hid (eq_empty (Lib.trimS s.data.toList cs))
  generalize (Lib.trimS s.data.toList cs).isEmpty = b at *
  generalize (⟨(Lib.trimS s.data.toList cs).toArray⟩ : ByteArray) = r at *
  go_enter Tryz.func155, Tryz.ntmps155
  go_wp2_with fail
  with_reducible refine C.out.mono ?_
  rintro e w1 ⟨rfl, hb⟩
  go_wp2
  go_ret
  exact ⟨ret_bool (by simpa using HE.out), hb⟩

theorem in_yes (n lo hi : Int) (w : World) (h1 : lo ≤ n) (h2 : n ≤ hi) : Calls Tryz.prog 86 #[.int .i64 n, .int .i64 lo, .int .i64 hi] w fun e w' => e = .returned (.bool true) ∧ w = w' := by
  go_enter Tryz.func86, Tryz.ntmps86
  go_wp2
  go_ret
  exact ⟨ret_bool (by simp <;> omega), rfl⟩
theorem in_no (n lo hi : Int) (w : World) (h : n < lo ∨ hi < n) : Calls Tryz.prog 86 #[.int .i64 n, .int .i64 lo, .int .i64 hi] w fun e w' => e = .returned (.bool false) ∧ w = w' := by
  by_cases h1 : lo ≤ n
  · have h2 : ¬ n ≤ hi := by omega
    go_enter Tryz.func86, Tryz.ntmps86
    go_wp2
    go_ret
    exact ⟨ret_bool (by simp <;> omega), rfl⟩
  · go_enter Tryz.func86, Tryz.ntmps86
    go_wp2
    go_ret
    exact ⟨rfl, rfl⟩

theorem first_only (s : ByteArray) (h : 0 < s.size) : onlyB (s.extract 0 1) cutSmall = smallB s[0] := by
  have e : (s.extract 0 1).data.toList = [s[0]] := by
    rw [Lib.extract_data]
    have := getD0 s h
    cases hl : s.data.toList with
    | nil => rw [ByteArray.size] at h; simp [← Array.length_toList, hl] at h
    | cons c r =>
      rw [hl] at this
      simp at this
      simp [this]
  unfold onlyB
  rw [e]
  simp only [List.all_cons, List.all_nil, Bool.and_true]
  exact cutSmall_eq _
theorem all_only (s : ByteArray) : onlyB s cutKey = allK s := by
  unfold onlyB allK
  congr 1
  funext c
  exact cutKey_eq c

theorem pKey_any (s : ByteArray) (w : World) (hs : s.size ≤ maxLen) :
    Calls Tryz.prog 85 #[.string s] w fun e w' => e = .returned (.bool (keyB s)) ∧ Below w.heap.size w w' := by
  have hs' := hs
  unfold maxLen at hs'
  by_cases hsz : 1 ≤ s.size ∧ s.size ≤ 40
  · have HK := Lib.hid (show keyB s = (onlyB (s.extract 0 1) cutSmall && onlyB s cutKey) by rw [first_only s hsz.1, all_only]; unfold keyB; rw [decide_eq_true hsz, getD0 s hsz.1]; simp)
    have C1 := Lib.hid (fun w => only_any (s.extract 0 1) cutSmall w (by simp [ByteArray.size_extract]; unfold maxLen; omega) (by decide) (by decide))
    have C2 := Lib.hid (fun w => only_any s cutKey w hs (by decide) (by decide))
    obtain ⟨hs1, hs2⟩ := hsz
    have hs0 : 0 < s.size := hs1
    generalize onlyB (s.extract 0 1) cutSmall = b at *
    generalize onlyB s cutKey = a at *
    cases b with
    | true =>
      go_enter Tryz.func85, Tryz.ntmps85
      go_wp2_with fail
      with_reducible refine (in_yes _ _ _ _ (by omega) (by omega)).mono ?_
      rintro e w1 ⟨rfl, rfl⟩
      go_wp2_with fail
      refine (C1.out _).mono ?_
      rintro e w1 ⟨rfl, hb1⟩
      go_wp2_with fail
      refine (C2.out _).mono ?_
      rintro e w2 ⟨rfl, hb2⟩
      go_wp2
      go_ret
      exact ⟨ret_bool (HK.out.trans (by simp)).symm, hb1.trans (hb2.mono hb1.size)⟩
    | false =>
      go_enter Tryz.func85, Tryz.ntmps85
      go_wp2_with fail
      with_reducible refine (in_yes _ _ _ _ (by omega) (by omega)).mono ?_
      rintro e w1 ⟨rfl, rfl⟩
      go_wp2_with fail
      refine (C1.out _).mono ?_
      rintro e w1 ⟨rfl, hb1⟩
      go_wp2
      go_ret
      exact ⟨ret_bool (HK.out.trans (by simp)).symm, hb1⟩
  · have HK := Lib.hid (show keyB s = false by unfold keyB; rw [decide_eq_false hsz]; simp)
    have hsz' : (s.size : Int) < 1 ∨ 40 < (s.size : Int) := by omega
    clear hsz
    go_enter Tryz.func85, Tryz.ntmps85
    go_wp2_with fail
    with_reducible refine (in_no _ _ _ _ hsz').mono ?_
    rintro e w1 ⟨rfl, rfl⟩
    go_wp2
    go_ret
    exact ⟨ret_bool HK.out.symm, Below.refl _ _⟩

theorem keyOf_any (s : ByteArray) (w : World) (hs : s.size ≤ maxLen) :
    Calls Tryz.prog 41 #[.string s] w fun e w' => e = .returned (.bool (keyB s)) ∧ Below w.heap.size w w' := by
  have C := Lib.hid (pKey_any s w hs)
  generalize keyB s = b at *
  go_enter Tryz.func41, Tryz.ntmps41
  go_wp2_with fail
  with_reducible refine C.out.mono ?_
  rintro e w1 ⟨rfl, hb1⟩
  go_wp2
  go_ret
  exact ⟨rfl, hb1⟩
end Go.Proofs.YtfdpfkdfglombaaGreatDoor
