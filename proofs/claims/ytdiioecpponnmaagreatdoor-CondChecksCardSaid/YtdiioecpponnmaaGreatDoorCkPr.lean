/- Leaves of the parser of conditions (printed by gen_prs.py). -/
import Derived.Test.YtdiioecpponnmaaGreatDoorIsKey
import Derived.Test.YtdiioecpponnmaaGreatDoorOBox
import Derived.Test.YtdiioecpponnmaaGreatDoorLstC
import Derived.Deep.MidRow
import Derived.Test.YtdiioecpponnmaaGreatDoorMkP
import Derived.Test.YtdiioecpponnmaaGreatDoorSgW
set_option linter.unusedVariables false
namespace Go.Proofs.YtdiioecpponnmaaGreatDoor
open Go.RowKit

theorem ssmall_any (c : UInt8) (w : World) : Calls Tryz.prog 84 #[.int .u8 (c.toNat : Int)] w fun e w' => e = .returned (.bool (smallB c)) ∧ w = w' := by
  have HE := Lib.hid (show smallB c = decide (97 ≤ c.toNat ∧ c.toNat ≤ 122) from rfl)
  generalize smallB c = b at *
  generalize c.toNat = n at *
  by_cases h1 : 97 ≤ n
  · by_cases h2 : n ≤ 122
    · obtain rfl : b = true := HE.out.trans (decide_eq_true ⟨h1, h2⟩)
      go_enter Tryz.func84, Tryz.ntmps84
      go_wp2
      go_ret
      exact ⟨ret_bool (by simp; omega), rfl⟩
    · obtain rfl : b = false := HE.out.trans (decide_eq_false (by omega))
      go_enter Tryz.func84, Tryz.ntmps84
      go_wp2
      go_ret
      exact ⟨ret_bool (by simp; omega), rfl⟩
  · obtain rfl : b = false := HE.out.trans (decide_eq_false (by omega))
    go_enter Tryz.func84, Tryz.ntmps84
    go_wp2
    go_ret
    exact ⟨rfl, rfl⟩
theorem sdigit_any (c : UInt8) (w : World) : Calls Tryz.prog 86 #[.int .u8 (c.toNat : Int)] w fun e w' => e = .returned (.bool (digitB c)) ∧ w = w' := by
  have HE := Lib.hid (show digitB c = decide (48 ≤ c.toNat ∧ c.toNat ≤ 57) from rfl)
  generalize digitB c = b at *
  generalize c.toNat = n at *
  by_cases h1 : 48 ≤ n
  · by_cases h2 : n ≤ 57
    · obtain rfl : b = true := HE.out.trans (decide_eq_true ⟨h1, h2⟩)
      go_enter Tryz.func86, Tryz.ntmps86
      go_wp2
      go_ret
      exact ⟨ret_bool (by simp; omega), rfl⟩
    · obtain rfl : b = false := HE.out.trans (decide_eq_false (by omega))
      go_enter Tryz.func86, Tryz.ntmps86
      go_wp2
      go_ret
      exact ⟨ret_bool (by simp; omega), rfl⟩
  · obtain rfl : b = false := HE.out.trans (decide_eq_false (by omega))
    go_enter Tryz.func86, Tryz.ntmps86
    go_wp2
    go_ret
    exact ⟨rfl, rfl⟩

theorem scn2_any (c : UInt8) (w : World) : Calls Tryz.prog 85 #[.int .u8 (c.toNat : Int)] w fun e w' => e = .returned (.bool (keyC c)) ∧ w = w' := by
  have HE := Lib.hid (show keyC c = (smallB c || digitB c || decide (c.toNat = 45) || decide (c.toNat = 95)) from rfl)
  have C1 := Lib.hid (fun w => ssmall_any c w)
  have C2 := Lib.hid (fun w => sdigit_any c w)
  generalize smallB c = s at *
  generalize digitB c = d at *
  generalize keyC c = k at *
  generalize c.toNat = n at *
  cases s with
  | true =>
    obtain rfl : k = true := HE.out.trans (by simp)
    go_enter Tryz.func85, Tryz.ntmps85
    go_wp2_with fail
    with_reducible refine (C1.out _).mono ?_
    rintro e w1 ⟨rfl, rfl⟩
    go_wp2
    go_ret
    exact ⟨rfl, rfl⟩
  | false =>
    cases d with
    | true =>
      obtain rfl : k = true := HE.out.trans (by simp)
      go_enter Tryz.func85, Tryz.ntmps85
      go_wp2_with fail
      with_reducible refine (C1.out _).mono ?_
      rintro e w1 ⟨rfl, rfl⟩
      go_wp2_with fail
      with_reducible refine (C2.out _).mono ?_
      rintro e w1 ⟨rfl, rfl⟩
      go_wp2
      go_ret
      exact ⟨rfl, rfl⟩
    | false =>
      have e1 : k = (decide (n = 45) || decide (n = 95)) := HE.out.trans (by simp)
      subst e1
      by_cases h1 : n = 45
      · have h2 : ((n : Int) == 45) = true := by simp; omega
        have H1 := Lib.hid h1
        clear h1
        go_enter Tryz.func85, Tryz.ntmps85
        go_wp2_with fail
        with_reducible refine (C1.out _).mono ?_
        rintro e w1 ⟨rfl, rfl⟩
        go_wp2_with fail
        with_reducible refine (C2.out _).mono ?_
        rintro e w1 ⟨rfl, rfl⟩
        go_wp2
        go_ret
        exact ⟨ret_bool (by rw [decide_eq_true H1.out]; rfl), rfl⟩
      · have h2 : ((n : Int) == 45) = false := by simp; omega
        go_enter Tryz.func85, Tryz.ntmps85
        go_wp2_with fail
        with_reducible refine (C1.out _).mono ?_
        rintro e w1 ⟨rfl, rfl⟩
        go_wp2_with fail
        with_reducible refine (C2.out _).mono ?_
        rintro e w1 ⟨rfl, rfl⟩
        go_wp2
        go_ret
        exact ⟨ret_bool (by rw [decide_eq_false h1]; rw [Bool.eq_iff_iff]; simp; omega), rfl⟩

def spcB (c : UInt8) : Bool := decide (c.toNat = 32) || decide (c.toNat = 10)
theorem scn1_any (c : UInt8) (w : World) : Calls Tryz.prog 83 #[.int .u8 (c.toNat : Int)] w fun e w' => e = .returned (.bool (spcB c)) ∧ w = w' := by
  unfold spcB
  generalize c.toNat = n at *
  by_cases h1 : n = 32
  · subst h1
    go_enter Tryz.func83, Tryz.ntmps83
    go_wp2
    go_ret
    exact ⟨rfl, rfl⟩
  · have h2 : ((n : Int) == 32) = false := by simp; omega
    go_enter Tryz.func83, Tryz.ntmps83
    go_wp2
    go_ret
    exact ⟨ret_bool (by rw [decide_eq_false h1, Bool.eq_iff_iff]; simp; omega), rfl⟩
theorem ix_at (s : ByteArray) (i : Nat) (c : UInt8) (h : s.toList[i]? = some c) (w : World) : (Instr.index 9 (.string s) (.int .i64 (i : Int))).run Tryz.prog w = .ok (.int .u8 (c.toNat : Int)) w := by
  rw [Lib.toList_data] at h
  obtain ⟨h1, h2⟩ := List.getElem?_eq_some_iff.1 h
  have hs : i < s.size := by simpa using h1
  rw [run_index_string (h := Tryz.underlying9), dif_pos ⟨by omega, by omega⟩]
  subst h2
  rfl
/-- where a run of bytes that fit ends -/
def runN (p : UInt8 → Bool) (s : ByteArray) (i : Nat) : Nat := i + ((s.toList.drop i).takeWhile p).length
theorem runN_step (p : UInt8 → Bool) (s : ByteArray) (i : Nat) (c : UInt8) (h : s.toList[i]? = some c) : runN p s i = if p c = true then runN p s (i + 1) else i := by
  obtain ⟨h1, h2⟩ := List.getElem?_eq_some_iff.1 h
  unfold runN
  rw [List.drop_eq_getElem_cons h1, h2, List.takeWhile_cons]
  split <;> simp <;> omega
theorem runN_end (p : UInt8 → Bool) (s : ByteArray) : runN p s s.size = s.size := by
  unfold runN
  rw [List.drop_of_length_le (by rw [Lib.toList_data]; simp)]
  simp
set_option maxHeartbeats 1000000 in
theorem prun1_any (s : ByteArray) (q i : Nat) (w : World) (hb : w.cell? ⟨q, 0, none⟩ = some (.string s)) (hq : q < w.heap.size) (hs : s.size ≤ 1000000) (hi : i ≤ s.size) :
    Calls Tryz.prog 82 #[.pointer (some ⟨q, 0, none⟩), .int .i64 (i : Int), .func (.func 83) #[] #[]] w fun e w' => e = .returned (.int .i64 (runN spcB s i : Int)) ∧ w = w' := by
  have C1 := Lib.hid (fun c w => scn1_any c w)
  have HL := Lib.hid (show s.toList.length = s.size by rw [Lib.toList_data]; simp)
  have HST := Lib.hid (fun i c h => runN_step spcB s i c h)
  have HEN := Lib.hid (runN_end spcB s)
  obtain ⟨r, hr⟩ : ∃ z, runN spcB s i = z := ⟨_, rfl⟩
  have HR := Lib.hid hr
  rw [hr]
  clear hr
  have hm : (s.size : Int) ≤ 9223372036854775806 := by omega
  go_enter Tryz.func82, Tryz.ntmps82
  go_wp2_with fail
  go_loopw [1] (fun v wr => ∃ j : Nat, v = .int .i64 (j : Int) ∧ j ≤ s.size ∧ Hid (runN spcB s j = r) ∧ wr = w) (fun v _ => s.size - (intOf v).toNat)
  case atStart => exact ⟨i, rfl, hi, HR, rfl⟩
  case round =>
    obtain ⟨j, rfl, hj, HJ, rfl⟩ := hrel
    by_cases hlt : j < s.size
    · have h1' : (j : Int) < (s.size : Int) := by omega
      obtain ⟨c, hc⟩ : ∃ c, s.toList[j]? = some c := ⟨_, List.getElem?_eq_getElem (by rw [HL.out]; exact hlt)⟩
      have HX := fun w => ix_at s j c hc w
      have HS := Lib.hid (HST.out j c hc)
      clear hc
      go_wp2_with fail
      with_reducible refine (C1.out _ _).mono ?_
      rintro e w1 ⟨rfl, rfl⟩
      obtain ⟨b, hbb⟩ : ∃ z, spcB c = z := ⟨_, rfl⟩
      rw [hbb] at HS ⊢
      clear hbb
      cases b with
      | true =>
        go_wp2_with fail
        go_roundw
        case rel => exact ⟨j + 1, by go_num, by omega, Lib.hid (by rw [← HJ.out, HS.out]; rfl), trivial⟩
        case measure => simp [intOf]; omega
      | false =>
        go_wp2_with fail
        go_ret
        exact ⟨by rw [← HJ.out, HS.out]; rfl, rfl⟩
    · obtain rfl : j = s.size := by omega
      go_wp2_with fail
      go_ret
      exact ⟨by rw [← HJ.out, HEN.out]; rfl, rfl⟩
set_option maxHeartbeats 1000000 in
theorem prun2_any (s : ByteArray) (q i : Nat) (w : World) (hb : w.cell? ⟨q, 0, none⟩ = some (.string s)) (hq : q < w.heap.size) (hs : s.size ≤ 1000000) (hi : i ≤ s.size) :
    Calls Tryz.prog 82 #[.pointer (some ⟨q, 0, none⟩), .int .i64 (i : Int), .func (.func 85) #[] #[]] w fun e w' => e = .returned (.int .i64 (runN keyC s i : Int)) ∧ w = w' := by
  have C1 := Lib.hid (fun c w => scn2_any c w)
  have HL := Lib.hid (show s.toList.length = s.size by rw [Lib.toList_data]; simp)
  have HST := Lib.hid (fun i c h => runN_step keyC s i c h)
  have HEN := Lib.hid (runN_end keyC s)
  obtain ⟨r, hr⟩ : ∃ z, runN keyC s i = z := ⟨_, rfl⟩
  have HR := Lib.hid hr
  rw [hr]
  clear hr
  have hm : (s.size : Int) ≤ 9223372036854775806 := by omega
  go_enter Tryz.func82, Tryz.ntmps82
  go_wp2_with fail
  go_loopw [1] (fun v wr => ∃ j : Nat, v = .int .i64 (j : Int) ∧ j ≤ s.size ∧ Hid (runN keyC s j = r) ∧ wr = w) (fun v _ => s.size - (intOf v).toNat)
  case atStart => exact ⟨i, rfl, hi, HR, rfl⟩
  case round =>
    obtain ⟨j, rfl, hj, HJ, rfl⟩ := hrel
    by_cases hlt : j < s.size
    · have h1' : (j : Int) < (s.size : Int) := by omega
      obtain ⟨c, hc⟩ : ∃ c, s.toList[j]? = some c := ⟨_, List.getElem?_eq_getElem (by rw [HL.out]; exact hlt)⟩
      have HX := fun w => ix_at s j c hc w
      have HS := Lib.hid (HST.out j c hc)
      clear hc
      go_wp2_with fail
      with_reducible refine (C1.out _ _).mono ?_
      rintro e w1 ⟨rfl, rfl⟩
      obtain ⟨b, hbb⟩ : ∃ z, keyC c = z := ⟨_, rfl⟩
      rw [hbb] at HS ⊢
      clear hbb
      cases b with
      | true =>
        go_wp2_with fail
        go_roundw
        case rel => exact ⟨j + 1, by go_num, by omega, Lib.hid (by rw [← HJ.out, HS.out]; rfl), trivial⟩
        case measure => simp [intOf]; omega
      | false =>
        go_wp2_with fail
        go_ret
        exact ⟨by rw [← HJ.out, HS.out]; rfl, rfl⟩
    · obtain rfl : j = s.size := by omega
      go_wp2_with fail
      go_ret
      exact ⟨by rw [← HJ.out, HEN.out]; rfl, rfl⟩
end Go.Proofs.YtdiioecpponnmaaGreatDoor
/- (*parser).scan at a word and at the end (printed by gen_scan.py). -/
set_option linter.unusedVariables false
namespace Go.Proofs.YtdiioecpponnmaaGreatDoor
open Go.RowKit

def prL (s : ByteArray) (i k j : Nat) (tx : ByteArray) : List Value := [.string s, .int .i64 (i : Int), .int .i64 (k : Int), .int .i64 (j : Int), .string tx]
/-- a parser lies at q -/
def PrB (w : World) (q : Nat) (s : ByteArray) (i k j : Nat) (tx : ByteArray) : Prop := OB w q (prL s i k j tx) 111
theorem sizeTok : (Tryz.prog.info? 109).map (·.size) = some 3 := by kernel_rfl
theorem grown_setc (w : World) (q i : Nat) (v : Value) : w.grownBy (w.setCell ⟨q, i, none⟩ v) (some q) := ⟨rfl, rfl, rfl, by simp [World.setCell], fun j _ hne => Below.heap_setCell w _ _ j (by rintro rfl; exact hne rfl)⟩
theorem PrB.tok {w : World} {q : Nat} {s tx tx' : ByteArray} {i k j k' j' : Nat} (h : PrB w q s i k j tx) : PrB (w.setCells q 2 [.int .i64 (k' : Int), .int .i64 (j' : Int), .string tx']) q s i k' j' tx' ∧ w.grownBy (w.setCells q 2 [.int .i64 (k' : Int), .int .i64 (j' : Int), .string tx']) (some q) :=
  ⟨((OB.put (OB.put (OB.put h 2 (.int .i64 (k' : Int)) rfl) 3 (.int .i64 (j' : Int)) rfl) 4 (.string tx') rfl)), grown_trans (grown_setc _ _ _ _) (grown_trans (grown_setc _ _ _ _) (grown_setc _ _ _ _))⟩
theorem PrB.there {w : World} {q : Nat} {s tx : ByteArray} {i k j : Nat} (h : PrB w q s i k j tx) : w.there q 2 3 := fun n hn => by
  have : n = 0 ∨ n = 1 ∨ n = 2 := by omega
  rcases this with rfl | rfl | rfl
  · exact ⟨by rw [OB.cell h 2 _ rfl]; rfl, OB.free h 2⟩
  · exact ⟨by rw [OB.cell h 3 _ rfl]; rfl, OB.free h 3⟩
  · exact ⟨by rw [OB.cell h 4 _ rfl]; rfl, OB.free h 4⟩
set_option maxRecDepth 100000 in
set_option maxHeartbeats 4000000 in
theorem scan_end (s : ByteArray) (q i k at0 : Nat) (tx : ByteArray) (w : World) (hb : PrB w q s i k at0 tx) (hs : s.size ≤ 1000000) (hi : i ≤ s.size) (hj : runN spcB s i = s.size) :
    Calls Tryz.prog 62 #[.pointer (some ⟨q, 0, none⟩)] w fun e w' => e = .returned (.tuple #[]) ∧ PrB w' q s s.size 0 s.size ⟨#[]⟩ ∧ w.grownBy w' (some q) := by
  have hm0 : (s.size : Int) ≤ 1000000 := by omega
  have HL := Lib.hid (show s.toList.length = s.size by rw [Lib.toList_data]; simp)
  have C1 := Lib.hid (prun1_any s q i w (OB.cell hb 0 _ rfl) (OB.lt hb) hs hi)
  rw [hj] at C1
  have y1 := OB.cell hb 1 (.int .i64 (i : Int)) rfl
  have f1 := OB.free hb 1
  have yl := OB.lt hb
  have HB := Lib.hid hb
  clear hb
  go_enter Tryz.func62, Tryz.ntmps62
  go_wp2_with fail
  with_reducible refine C1.out.mono ?_
  rintro e w1 ⟨rfl, rfl⟩
  go_upto_region 1 with (fail)
  have HB1 := Lib.hid (show PrB (w.setCell ⟨q, 1, none⟩ (.int .i64 (s.size : Int))) q s s.size k at0 tx from OB.put HB.out 1 _ rfl)
  have HG1 := Lib.hid (grown_setc w q 1 (.int .i64 (s.size : Int)))
  clear y1 f1 yl HB C1
  generalize w.setCell _ _ = w2 at *
  have y0 := OB.cell HB1.out 0 (.string s) rfl
  have y1 := OB.cell HB1.out 1 (.int .i64 (s.size : Int)) rfl
  have yl := OB.lt HB1.out
  have y2 := OB.cell HB1.out 2 (.int .i64 (k : Int)) rfl
  have f2 := OB.free HB1.out 2
  have y3 := OB.cell HB1.out 3 (.int .i64 (at0 : Int)) rfl
  have f3 := OB.free HB1.out 3
  have y4 := OB.cell HB1.out 4 (.string tx) rfl
  have f4 := OB.free HB1.out 4
  have HB2 := Lib.hid (HB1.out.tok (k' := 0) (j' := s.size) (tx' := ⟨#[]⟩))
  go_wp2_with fail
  first | go_end0 | (simp only [Exit.inBlock, Exit.then]; refine bodyPost_ret (results_none rfl _ _ _) rfl ?_) | refine bodyPost_ret (results_none rfl _ _ _) rfl ?_
  exact ⟨rfl, HB2.out.1, grown_trans HG1.out HB2.out.2⟩
set_option maxRecDepth 100000 in
set_option maxHeartbeats 4000000 in
theorem scan_word (s : ByteArray) (q i k at0 j m : Nat) (c : UInt8) (tx : ByteArray) (w : World) (hb : PrB w q s i k at0 tx) (hs : s.size ≤ 1000000) (hi : i ≤ s.size) (hj : runN spcB s i = j) (hc : s.toList[j]? = some c) (hsm : smallB c = true) (hm : runN keyC s j = m) (hms : j ≤ m ∧ m ≤ s.size) (hjs : j < s.size) :
    Calls Tryz.prog 62 #[.pointer (some ⟨q, 0, none⟩)] w fun e w' => e = .returned (.tuple #[]) ∧ PrB w' q s m 1 j (s.extract j m) ∧ w.grownBy w' (some q) := by
  have HX := fun w => ix_at s j c hc w
  have C2 := Lib.hid (ssmall_any c)
  rw [hsm] at C2
  have C3 := Lib.hid (fun w h1 h2 => prun2_any s q j w h1 h2 hs (by omega))
  rw [hm] at C3
  have hne : ((j : Int) == (s.size : Int)) = false := by simp; omega
  have hms1 := hms.1
  have hms2 := hms.2
  clear hc hsm hms
  have hm0 : (s.size : Int) ≤ 1000000 := by omega
  have HL := Lib.hid (show s.toList.length = s.size by rw [Lib.toList_data]; simp)
  have C1 := Lib.hid (prun1_any s q i w (OB.cell hb 0 _ rfl) (OB.lt hb) hs hi)
  rw [hj] at C1
  have y1 := OB.cell hb 1 (.int .i64 (i : Int)) rfl
  have f1 := OB.free hb 1
  have yl := OB.lt hb
  have HB := Lib.hid hb
  clear hb
  go_enter Tryz.func62, Tryz.ntmps62
  go_wp2_with fail
  with_reducible refine C1.out.mono ?_
  rintro e w1 ⟨rfl, rfl⟩
  go_upto_region 1 with (fail)
  have HB1 := Lib.hid (show PrB (w.setCell ⟨q, 1, none⟩ (.int .i64 (j : Int))) q s j k at0 tx from OB.put HB.out 1 _ rfl)
  have HG1 := Lib.hid (grown_setc w q 1 (.int .i64 (j : Int)))
  clear y1 f1 yl HB C1
  generalize w.setCell _ _ = w2 at *
  have y0 := OB.cell HB1.out 0 (.string s) rfl
  have y1 := OB.cell HB1.out 1 (.int .i64 (j : Int)) rfl
  have yl := OB.lt HB1.out
  go_wp2_with fail
  with_reducible refine (C2.out _).mono ?_
  rintro e w3 ⟨rfl, rfl⟩
  go_wp2_with fail
  with_reducible refine (C3.out _ y0 yl).mono ?_
  rintro e w3 ⟨rfl, rfl⟩
  have f1 := OB.free HB1.out 1
  go_upto_region 29 with (fail)
  have HB3 := Lib.hid (show PrB (w2.setCell ⟨q, 1, none⟩ (.int .i64 (m : Int))) q s m k at0 tx from OB.put HB1.out 1 _ rfl)
  have HG3 := Lib.hid (grown_trans HG1.out (grown_setc w2 q 1 (.int .i64 (m : Int))))
  clear y0 y1 f1 yl HB1 HG1 C2 C3 HX
  generalize w2.setCell _ _ = w4 at *
  have y0 := OB.cell HB3.out 0 (.string s) rfl
  have yl := OB.lt HB3.out
  have hj0 : (0 : Int) ≤ (j : Int) := by omega
  have hjm : (j : Int) ≤ (m : Int) := by omega
  have hm0' : (0 : Int) ≤ (m : Int) := by omega
  have hmz : (m : Int) ≤ (s.size : Int) := by omega
  have y2 := OB.cell HB3.out 2 (.int .i64 (k : Int)) rfl
  have f2 := OB.free HB3.out 2
  have y3 := OB.cell HB3.out 3 (.int .i64 (at0 : Int)) rfl
  have f3 := OB.free HB3.out 3
  have y4 := OB.cell HB3.out 4 (.string tx) rfl
  have f4 := OB.free HB3.out 4
  have HB4 := Lib.hid (HB3.out.tok (k' := 1) (j' := j) (tx' := s.extract j m))
  go_wp2_with fail
  go_end0
  exact ⟨rfl, HB4.out.1, grown_trans HG3.out HB4.out.2⟩
theorem is_any (s : ByteArray) (q i k at0 : Nat) (tx u : ByteArray) (w : World) (hb : PrB w q s i k at0 tx) (hk : k = 0 ∨ k = 1) :
    Calls Tryz.prog 139 #[.pointer (some ⟨q, 0, none⟩), .string u] w fun e w' => e = .returned (.bool (decide (k = 1) && (tx.toList == u.toList))) ∧ w = w' := by
  have y2 := OB.cell hb 2 (.int .i64 (k : Int)) rfl
  have y4 := OB.cell hb 4 (.string tx) rfl
  have yl := OB.lt hb
  clear hb
  rcases hk with rfl | rfl
  · go_enter Tryz.func139, Tryz.ntmps139
    go_wp2
    go_ret
    exact ⟨rfl, rfl⟩
  · obtain ⟨b, hbb⟩ : ∃ z, (tx.toList == u.toList) = z := ⟨_, rfl⟩
    rw [hbb]
    have HE := Lib.hid hbb
    clear hbb
    go_enter Tryz.func139, Tryz.ntmps139
    go_wp2
    all_goals go_ret
    all_goals exact ⟨ret_bool (by simp [HE.out]), rfl⟩
end Go.Proofs.YtdiioecpponnmaaGreatDoor
/- What the parser makes of "has a" (printed by gen_hasa.py). -/
set_option linter.unusedVariables false
namespace Go.Proofs.YtdiioecpponnmaaGreatDoor
open Go.RowKit

def hsT : ByteArray := ⟨#[104, 97, 115, 32, 97]⟩
def hasB : ByteArray := ⟨#[104, 97, 115]⟩
def hasL : List Value := [.int .i64 6, .string ⟨#[97]⟩, .string ⟨#[]⟩, .string ⟨#[]⟩, .slice none 0 0, .slice none 0 0, .int .i64 0, .int .i64 0, .slice none 0 0]
def PrA (w : World) (q : Nat) : Prop := PrB w q hsT 3 1 0 ⟨#[104, 97, 115]⟩
def PrM (w : World) (q : Nat) : Prop := PrB w q hsT 5 1 4 ⟨#[97]⟩
def PrZ (w : World) (q : Nat) : Prop := PrB w q hsT 5 0 5 ⟨#[]⟩
theorem hsT_ix (i : Nat) (c : UInt8) (h : ([104, 97, 115, 32, 97] : List UInt8)[i]? = some c) : hsT.toList[i]? = some c := by
  rw [Lib.toList_data]; exact h
theorem hsT_run (p : UInt8 → Bool) (i m : Nat) (h : i + ((([104, 97, 115, 32, 97] : List UInt8).drop i).takeWhile p).length = m) : runN p hsT i = m := by
  unfold runN
  rw [Lib.toList_data]; exact h
theorem hsT_size : hsT.size = 5 := rfl
theorem scanA (q : Nat) (w : World) (hb : PrB w q hsT 0 0 0 ⟨#[]⟩) : Calls Tryz.prog 62 #[.pointer (some ⟨q, 0, none⟩)] w fun e w' => e = .returned (.tuple #[]) ∧ PrA w' q ∧ w.grownBy w' (some q) :=
  scan_word hsT q 0 0 0 0 3 104 ⟨#[]⟩ w hb (by decide) (by decide) (hsT_run _ _ _ rfl) (hsT_ix _ _ rfl) rfl (hsT_run _ _ _ rfl) (by decide) (by decide)
theorem scanM (q : Nat) (w : World) (hb : PrA w q) : Calls Tryz.prog 62 #[.pointer (some ⟨q, 0, none⟩)] w fun e w' => e = .returned (.tuple #[]) ∧ PrM w' q ∧ w.grownBy w' (some q) :=
  scan_word hsT q 3 1 0 4 5 97 _ w hb (by decide) (by decide) (hsT_run _ _ _ rfl) (hsT_ix _ _ rfl) rfl (hsT_run _ _ _ rfl) (by decide) (by decide)
theorem scanZ (q : Nat) (w : World) (hb : PrM w q) : Calls Tryz.prog 62 #[.pointer (some ⟨q, 0, none⟩)] w fun e w' => e = .returned (.tuple #[]) ∧ PrZ w' q ∧ w.grownBy w' (some q) :=
  scan_end hsT q 5 1 4 _ w hb (by decide) (by decide) (hsT_run _ _ _ rfl)
theorem take_no (s : ByteArray) (q i k at0 : Nat) (tx u : ByteArray) (w : World) (hb : PrB w q s i k at0 tx) (hk : k = 0 ∨ k = 1) (h : (decide (k = 1) && (tx.toList == u.toList)) = false) : Calls Tryz.prog 116 #[.pointer (some ⟨q, 0, none⟩), .string u] w fun e w' => e = .returned (.bool false) ∧ w = w' := by
  have C := Lib.hid (is_any s q i k at0 tx u w hb hk)
  rw [h] at C
  clear hb hk h
  go_enter Tryz.func116, Tryz.ntmps116
  go_wp2_with fail
  with_reducible refine C.out.mono ?_
  rintro e w1 ⟨rfl, rfl⟩
  go_wp2_with fail
  go_ret
  exact ⟨rfl, rfl⟩
theorem take_has (q : Nat) (w : World) (hb : PrA w q) : Calls Tryz.prog 116 #[.pointer (some ⟨q, 0, none⟩), .string ⟨#[104, 97, 115]⟩] w fun e w' => e = .returned (.bool true) ∧ PrM w' q ∧ w.grownBy w' (some q) := by
  have C := Lib.hid (is_any hsT q 3 1 0 _ ⟨#[104, 97, 115]⟩ w hb (.inr rfl))
  rw [show (decide (1 = 1) && ((⟨#[104, 97, 115]⟩ : ByteArray).toList == (⟨#[104, 97, 115]⟩ : ByteArray).toList)) = true by simp] at C
  have C2 := Lib.hid (scanM q w hb)
  clear hb
  go_enter Tryz.func116, Tryz.ntmps116
  go_wp2_with fail
  with_reducible refine C.out.mono ?_
  rintro e w1 ⟨rfl, rfl⟩
  go_wp2_with fail
  with_reducible refine C2.out.mono ?_
  rintro e w1 ⟨rfl, hB, hG⟩
  have HB := Lib.hid hB
  have HG := Lib.hid hG
  clear hB hG C C2
  go_wp2_with fail
  go_ret
  exact ⟨rfl, HB.out, HG.out⟩
theorem name_a (q : Nat) (w : World) (hb : PrM w q) : Calls Tryz.prog 152 #[.pointer (some ⟨q, 0, none⟩)] w fun e w' => e = .returned (.string ⟨#[97]⟩) ∧ PrZ w' q ∧ w.grownBy w' (some q) := by
  have C := Lib.hid (isName_any ⟨#[97]⟩ w (by decide))
  rw [show nmB ⟨#[97]⟩ = true from by decide] at C
  have C2 := Lib.hid (scanZ q w hb)
  have y2 := OB.cell hb 2 (.int .i64 1) rfl
  have y4 := OB.cell hb 4 (.string ⟨#[97]⟩) rfl
  have yl := OB.lt hb
  clear hb
  go_enter Tryz.func152, Tryz.ntmps152
  go_wp2_with fail
  with_reducible refine C.out.mono ?_
  rintro e w1 ⟨rfl, rfl⟩
  go_wp2_with fail
  with_reducible refine C2.out.mono ?_
  rintro e w1 ⟨rfl, hB, hG⟩
  have HB := Lib.hid hB
  have HG := Lib.hid hG
  clear hB hG C C2 y2 y4 yl
  go_wp2_with fail
  go_ret
  exact ⟨rfl, HB.out, HG.out⟩
/-- what the parser's functions leave -/
def PrO (w : World) (q : Nat) (e : Ending) (w' : World) : Prop := e = .returned (.agg #[.int .i64 6, .string ⟨#[97]⟩, .string ⟨#[]⟩, .string ⟨#[]⟩, .slice none 0 0, .slice none 0 0, .int .i64 0, .int .i64 0, .slice none 0 0]) ∧ PrZ w' q ∧ w.grownBy w' (some q)
set_option maxRecDepth 100000 in
set_option maxHeartbeats 1000000 in
theorem prim_has (q : Nat) (w : World) (hb : PrA w q) : Calls Tryz.prog 140 #[.pointer (some ⟨q, 0, none⟩)] w (PrO w q) := by
  have HB := Lib.hid (show PrA (w.alloc (.cells #[.int .i64 0, .string ⟨#[]⟩, .string ⟨#[]⟩, .string ⟨#[]⟩, .slice none 0 0, .slice none 0 0, .int .i64 0, .int .i64 0, .slice none 0 0] 30)) q from OB.alloc hb _)
  have HG := Lib.hid (World.grownBy_alloc w (.cells #[.int .i64 0, .string ⟨#[]⟩, .string ⟨#[]⟩, .string ⟨#[]⟩, .slice none 0 0, .slice none 0 0, .int .i64 0, .int .i64 0, .slice none 0 0] 30) (some q))
  have HO := Lib.hid (OB.new w [.int .i64 0, .string ⟨#[]⟩, .string ⟨#[]⟩, .string ⟨#[]⟩, .slice none 0 0, .slice none 0 0, .int .i64 0, .int .i64 0, .slice none 0 0] 30)
  have hql := OB.lt hb
  clear hb
  go_enter Tryz.func140, Tryz.ntmps140
  go_wp2_with fail
  simp only [List.toArray] at HO
  generalize w.alloc (.cells _ 30) = w1 at *
  have HO1 := Lib.hid (show OB w1 w.heap.size [.int .i64 0, .string ⟨#[]⟩, .string ⟨#[]⟩, .string ⟨#[]⟩, .slice none 0 0, .slice none 0 0, .int .i64 0, .int .i64 0, .slice none 0 0] 30 from HO.out)
  clear HO
  obtain ⟨q0, hq0⟩ : ∃ z, w.heap.size = z := ⟨_, rfl⟩
  have hq1 := Nat.le_of_eq hq0
  rw [hq0] at HO1 hql ⊢
  clear hq0
  have NA := Lib.hid (take_no hsT q 3 1 0 ⟨#[104, 97, 115]⟩ ⟨#[40]⟩ w1 HB.out (.inr rfl) (by rw [Lib.toList_data, Lib.toList_data]; rfl))
  with_reducible refine NA.out.mono ?_
  rintro e w2 ⟨rfl, rfl⟩
  clear NA
  go_wp2_with fail
  have NA := Lib.hid (take_no hsT q 3 1 0 ⟨#[104, 97, 115]⟩ ⟨#[97, 108, 108]⟩ w1 HB.out (.inr rfl) (by rw [Lib.toList_data, Lib.toList_data]; rfl))
  with_reducible refine NA.out.mono ?_
  rintro e w2 ⟨rfl, rfl⟩
  clear NA
  go_wp2_with fail
  have NA := Lib.hid (take_no hsT q 3 1 0 ⟨#[104, 97, 115]⟩ ⟨#[110, 111, 110, 101]⟩ w1 HB.out (.inr rfl) (by rw [Lib.toList_data, Lib.toList_data]; rfl))
  with_reducible refine NA.out.mono ?_
  rintro e w2 ⟨rfl, rfl⟩
  clear NA
  go_wp2_with fail
  with_reducible refine (take_has q w1 HB.out).mono ?_
  rintro e w3 ⟨rfl, hB, hG⟩
  have HB3 := Lib.hid hB
  have HG3 := Lib.hid (grown_trans HG.out hG)
  have HO3 := Lib.hid (OB.grown HO1.out hG (fun e => by have := Option.some.inj e; omega))
  clear hB hG HB HG HO1
  go_wp2_with fail
  with_reducible refine (name_a q w3 HB3.out).mono ?_
  rintro e w4 ⟨rfl, hB, hG⟩
  have HB4 := Lib.hid hB
  have HG4 := Lib.hid (grown_trans HG3.out hG)
  have HO4 := Lib.hid (OB.grown HO3.out hG (fun e => by have := Option.some.inj e; omega))
  clear hB hG HB3 HG3 HO3
  go_wp2_with (refine wpList_store_oc _ rfl _ _ _ rfl q0 _ [.int .i64 6, .string ⟨#[97]⟩, .string ⟨#[]⟩, .string ⟨#[]⟩, .slice none 0 0, .slice none 0 0, .int .i64 0, .int .i64 0, .slice none 0 0] _ rfl rfl HO4.out sizeCond rfl rfl ?_)
  intro wz oz kz
  have r0 := oz.cell 0 _ rfl
  have r1 := oz.cell 1 _ rfl
  have r2 := oz.cell 2 _ rfl
  have r3 := oz.cell 3 _ rfl
  have r4 := oz.cell 4 _ rfl
  have r5 := oz.cell 5 _ rfl
  have r6 := oz.cell 6 _ rfl
  have r7 := oz.cell 7 _ rfl
  have r8 := oz.cell 8 _ rfl
  have HBz := Lib.hid (OB.grown HB4.out kz (fun e => by have := Option.some.inj e; omega))
  have HGz := Lib.hid (grown_own HG4.out kz (fun b hb => by have := Option.some.inj hb; omega))
  clear oz kz
  go_wp2_with fail
  refine bodyPost_ret (v := .agg #[.int .i64 6, .string ⟨#[97]⟩, .string ⟨#[]⟩, .string ⟨#[]⟩, .slice none 0 0, .slice none 0 0, .int .i64 0, .int .i64 0, .slice none 0 0]) (by simp [results, Tryz.results140, go_sem, r0, r1, r2, r3, r4, r5, r6, r7, r8]) rfl ?_
  exact ⟨rfl, HBz.out, HGz.out⟩
set_option maxRecDepth 100000 in
set_option maxHeartbeats 1000000 in
theorem not_has (q : Nat) (w : World) (hb : PrA w q) : Calls Tryz.prog 117 #[.pointer (some ⟨q, 0, none⟩)] w (PrO w q) := by
  have HB := Lib.hid (show PrA (w.alloc (.cells #[.int .i64 0, .string ⟨#[]⟩, .string ⟨#[]⟩, .string ⟨#[]⟩, .slice none 0 0, .slice none 0 0, .int .i64 0, .int .i64 0, .slice none 0 0] 30)) q from OB.alloc hb _)
  have HG := Lib.hid (World.grownBy_alloc w (.cells #[.int .i64 0, .string ⟨#[]⟩, .string ⟨#[]⟩, .string ⟨#[]⟩, .slice none 0 0, .slice none 0 0, .int .i64 0, .int .i64 0, .slice none 0 0] 30) (some q))
  have HO := Lib.hid (OB.new w [.int .i64 0, .string ⟨#[]⟩, .string ⟨#[]⟩, .string ⟨#[]⟩, .slice none 0 0, .slice none 0 0, .int .i64 0, .int .i64 0, .slice none 0 0] 30)
  have hql := OB.lt hb
  clear hb
  go_enter Tryz.func117, Tryz.ntmps117
  go_wp2_with fail
  simp only [List.toArray] at HO
  generalize w.alloc (.cells _ 30) = w1 at *
  have HO1 := Lib.hid (show OB w1 w.heap.size [.int .i64 0, .string ⟨#[]⟩, .string ⟨#[]⟩, .string ⟨#[]⟩, .slice none 0 0, .slice none 0 0, .int .i64 0, .int .i64 0, .slice none 0 0] 30 from HO.out)
  clear HO
  obtain ⟨q0, hq0⟩ : ∃ z, w.heap.size = z := ⟨_, rfl⟩
  have hq1 := Nat.le_of_eq hq0
  rw [hq0] at HO1 hql ⊢
  clear hq0
  have NA := Lib.hid (take_no hsT q 3 1 0 ⟨#[104, 97, 115]⟩ ⟨#[110, 111, 116]⟩ w1 HB.out (.inr rfl) (by rw [Lib.toList_data, Lib.toList_data]; rfl))
  with_reducible refine NA.out.mono ?_
  rintro e w2 ⟨rfl, rfl⟩
  clear NA
  go_wp2_with fail
  with_reducible refine (prim_has q w1 HB.out).mono ?_
  rintro e w3 ⟨rfl, hB, hG⟩
  have HB3 := Lib.hid hB
  have HG3 := Lib.hid (grown_trans HG.out hG)
  have HO3 := Lib.hid (OB.grown HO1.out hG (fun e => by have := Option.some.inj e; omega))
  clear hB hG HB HG HO1
  go_wp2_with (refine wpList_store_oc _ rfl _ _ _ rfl q0 _ [.int .i64 6, .string ⟨#[97]⟩, .string ⟨#[]⟩, .string ⟨#[]⟩, .slice none 0 0, .slice none 0 0, .int .i64 0, .int .i64 0, .slice none 0 0] _ rfl rfl HO3.out sizeCond rfl rfl ?_)
  intro wz oz kz
  have r0 := oz.cell 0 _ rfl
  have r1 := oz.cell 1 _ rfl
  have r2 := oz.cell 2 _ rfl
  have r3 := oz.cell 3 _ rfl
  have r4 := oz.cell 4 _ rfl
  have r5 := oz.cell 5 _ rfl
  have r6 := oz.cell 6 _ rfl
  have r7 := oz.cell 7 _ rfl
  have r8 := oz.cell 8 _ rfl
  have HBz := Lib.hid (OB.grown HB3.out kz (fun e => by have := Option.some.inj e; omega))
  have HGz := Lib.hid (grown_own HG3.out kz (fun b hb => by have := Option.some.inj hb; omega))
  clear oz kz
  go_wp2_with fail
  refine bodyPost_ret (v := .agg #[.int .i64 6, .string ⟨#[97]⟩, .string ⟨#[]⟩, .string ⟨#[]⟩, .slice none 0 0, .slice none 0 0, .int .i64 0, .int .i64 0, .slice none 0 0]) (by simp [results, Tryz.results117, go_sem, r0, r1, r2, r3, r4, r5, r6, r7, r8]) rfl ?_
  exact ⟨rfl, HBz.out, HGz.out⟩
set_option maxRecDepth 100000 in
set_option maxHeartbeats 2000000 in
theorem row_and (q : Nat) (w : World) (hb : PrA w q) : Calls Tryz.prog 90 #[.pointer (some ⟨q, 0, none⟩), .int .i64 3, .string ⟨#[97, 110, 100]⟩, .func (.func 117) #[.pointer (some ⟨q, 0, none⟩)] #[]] w (PrO w q) := by
  have HB := Lib.hid (show PrA (w.alloc (.cells #[.int .i64 0, .string ⟨#[]⟩, .string ⟨#[]⟩, .string ⟨#[]⟩, .slice none 0 0, .slice none 0 0, .int .i64 0, .int .i64 0, .slice none 0 0] 30)) q from OB.alloc hb _)
  have HG := Lib.hid (World.grownBy_alloc w (.cells #[.int .i64 0, .string ⟨#[]⟩, .string ⟨#[]⟩, .string ⟨#[]⟩, .slice none 0 0, .slice none 0 0, .int .i64 0, .int .i64 0, .slice none 0 0] 30) (some q))
  have HO := Lib.hid (OB.new w [.int .i64 0, .string ⟨#[]⟩, .string ⟨#[]⟩, .string ⟨#[]⟩, .slice none 0 0, .slice none 0 0, .int .i64 0, .int .i64 0, .slice none 0 0] 30)
  have hql := OB.lt hb
  clear hb
  go_enter Tryz.func90, Tryz.ntmps90
  go_wp2_with fail
  simp only [List.toArray] at HO
  generalize w.alloc (.cells _ 30) = w1 at *
  have HO1 := Lib.hid (show OB w1 w.heap.size [.int .i64 0, .string ⟨#[]⟩, .string ⟨#[]⟩, .string ⟨#[]⟩, .slice none 0 0, .slice none 0 0, .int .i64 0, .int .i64 0, .slice none 0 0] 30 from HO.out)
  clear HO
  obtain ⟨q0, hq0⟩ : ∃ z, w.heap.size = z := ⟨_, rfl⟩
  have hq1 := Nat.le_of_eq hq0
  rw [hq0] at HO1 hql ⊢
  clear hq0
  with_reducible refine (not_has q w1 HB.out).mono ?_
  rintro e w3 ⟨rfl, hB, hG⟩
  have HB3 := Lib.hid hB
  have HG3 := Lib.hid (grown_trans HG.out hG)
  have HO3 := Lib.hid (OB.grown HO1.out hG (fun e => by have := Option.some.inj e; omega))
  clear hB hG HB HG HO1
  have HB4 := Lib.hid (show PrZ (w3.alloc (.cells #[.int .i64 6, .string ⟨#[97]⟩, .string ⟨#[]⟩, .string ⟨#[]⟩, .slice none 0 0, .slice none 0 0, .int .i64 0, .int .i64 0, .slice none 0 0] 30)) q from OB.alloc HB3.out _)
  have HG4 := Lib.hid (grown_trans HG3.out (World.grownBy_alloc w3 (.cells #[.int .i64 6, .string ⟨#[97]⟩, .string ⟨#[]⟩, .string ⟨#[]⟩, .slice none 0 0, .slice none 0 0, .int .i64 0, .int .i64 0, .slice none 0 0] 30) (some q)))
  have HO4 := Lib.hid (HO3.out.alloc (.cells #[.int .i64 6, .string ⟨#[97]⟩, .string ⟨#[]⟩, .string ⟨#[]⟩, .slice none 0 0, .slice none 0 0, .int .i64 0, .int .i64 0, .slice none 0 0] 30))
  have HN := Lib.hid (OB.new w3 [.int .i64 6, .string ⟨#[97]⟩, .string ⟨#[]⟩, .string ⟨#[]⟩, .slice none 0 0, .slice none 0 0, .int .i64 0, .int .i64 0, .slice none 0 0] 30)
  clear HB3 HG3 HO3
  go_upto_block 0 with (fail)
  simp only [List.toArray] at HN
  generalize w3.alloc (.cells _ 30) = w4 at *
  have HN4 := Lib.hid (show OB w4 w3.heap.size [.int .i64 6, .string ⟨#[97]⟩, .string ⟨#[]⟩, .string ⟨#[]⟩, .slice none 0 0, .slice none 0 0, .int .i64 0, .int .i64 0, .slice none 0 0] 30 from HN.out)
  clear HN
  generalize w3.heap.size = q5 at *
  have NA := Lib.hid (take_no hsT q 5 0 5 ⟨#[]⟩ ⟨#[97, 110, 100]⟩ w4 HB4.out (.inl rfl) rfl)
  go_cut [9] (fun v wx => v = .slice (some ⟨q5, 0, none⟩) 1 1 ∧ w4 = wx)
  case first =>
    go_wp2_with fail
    go_loopw [9] (fun v wr => v = .slice (some ⟨q5, 0, none⟩) 1 1 ∧ w4 = wr) (fun _ _ => 0)
    case atStart => exact ⟨rfl, rfl⟩
    case round =>
      obtain ⟨rfl, rfl⟩ := hrel
      go_wp2_with fail
      with_reducible refine NA.out.mono ?_
      rintro e w2 ⟨rfl, rfl⟩
      go_wp2_with fail
      go_meet
      exact ⟨rfl, rfl⟩
  case rest =>
  obtain ⟨rfl, rfl⟩ := hcut
  have z0 := HN4.out.cell 0 _ rfl
  have z1 := HN4.out.cell 1 _ rfl
  have z2 := HN4.out.cell 2 _ rfl
  have z3 := HN4.out.cell 3 _ rfl
  have z4 := HN4.out.cell 4 _ rfl
  have z5 := HN4.out.cell 5 _ rfl
  have z6 := HN4.out.cell 6 _ rfl
  have z7 := HN4.out.cell 7 _ rfl
  have z8 := HN4.out.cell 8 _ rfl
  have zl := HN4.out.lt
  go_wp2_with (refine wpList_store_oc _ rfl _ _ _ rfl q0 _ [.int .i64 6, .string ⟨#[97]⟩, .string ⟨#[]⟩, .string ⟨#[]⟩, .slice none 0 0, .slice none 0 0, .int .i64 0, .int .i64 0, .slice none 0 0] _ rfl rfl HO4.out sizeCond rfl rfl ?_)
  intro wz oz kz
  have r0 := oz.cell 0 _ rfl
  have r1 := oz.cell 1 _ rfl
  have r2 := oz.cell 2 _ rfl
  have r3 := oz.cell 3 _ rfl
  have r4 := oz.cell 4 _ rfl
  have r5 := oz.cell 5 _ rfl
  have r6 := oz.cell 6 _ rfl
  have r7 := oz.cell 7 _ rfl
  have r8 := oz.cell 8 _ rfl
  have HBz := Lib.hid (OB.grown HB4.out kz (fun e => by have := Option.some.inj e; omega))
  have HGz := Lib.hid (grown_own HG4.out kz (fun b hb => by have := Option.some.inj hb; omega))
  clear oz kz
  go_wp2_with fail
  refine bodyPost_ret (v := .agg #[.int .i64 6, .string ⟨#[97]⟩, .string ⟨#[]⟩, .string ⟨#[]⟩, .slice none 0 0, .slice none 0 0, .int .i64 0, .int .i64 0, .slice none 0 0]) (by simp [results, Tryz.results90, go_sem, r0, r1, r2, r3, r4, r5, r6, r7, r8]) rfl ?_
  exact ⟨rfl, HBz.out, HGz.out⟩
set_option maxRecDepth 100000 in
set_option maxHeartbeats 1000000 in
theorem and_has (q : Nat) (w : World) (hb : PrA w q) : Calls Tryz.prog 91 #[.pointer (some ⟨q, 0, none⟩)] w (PrO w q) := by
  have HB := Lib.hid (show PrA (w.alloc (.cells #[.int .i64 0, .string ⟨#[]⟩, .string ⟨#[]⟩, .string ⟨#[]⟩, .slice none 0 0, .slice none 0 0, .int .i64 0, .int .i64 0, .slice none 0 0] 30)) q from OB.alloc hb _)
  have HG := Lib.hid (World.grownBy_alloc w (.cells #[.int .i64 0, .string ⟨#[]⟩, .string ⟨#[]⟩, .string ⟨#[]⟩, .slice none 0 0, .slice none 0 0, .int .i64 0, .int .i64 0, .slice none 0 0] 30) (some q))
  have HO := Lib.hid (OB.new w [.int .i64 0, .string ⟨#[]⟩, .string ⟨#[]⟩, .string ⟨#[]⟩, .slice none 0 0, .slice none 0 0, .int .i64 0, .int .i64 0, .slice none 0 0] 30)
  have hql := OB.lt hb
  clear hb
  go_enter Tryz.func91, Tryz.ntmps91
  go_wp2_with fail
  simp only [List.toArray] at HO
  generalize w.alloc (.cells _ 30) = w1 at *
  have HO1 := Lib.hid (show OB w1 w.heap.size [.int .i64 0, .string ⟨#[]⟩, .string ⟨#[]⟩, .string ⟨#[]⟩, .slice none 0 0, .slice none 0 0, .int .i64 0, .int .i64 0, .slice none 0 0] 30 from HO.out)
  clear HO
  obtain ⟨q0, hq0⟩ : ∃ z, w.heap.size = z := ⟨_, rfl⟩
  have hq1 := Nat.le_of_eq hq0
  rw [hq0] at HO1 hql ⊢
  clear hq0
  with_reducible refine (row_and q w1 HB.out).mono ?_
  rintro e w3 ⟨rfl, hB, hG⟩
  have HB3 := Lib.hid hB
  have HG3 := Lib.hid (grown_trans HG.out hG)
  have HO3 := Lib.hid (OB.grown HO1.out hG (fun e => by have := Option.some.inj e; omega))
  clear hB hG HB HG HO1
  go_wp2_with (refine wpList_store_oc _ rfl _ _ _ rfl q0 _ [.int .i64 6, .string ⟨#[97]⟩, .string ⟨#[]⟩, .string ⟨#[]⟩, .slice none 0 0, .slice none 0 0, .int .i64 0, .int .i64 0, .slice none 0 0] _ rfl rfl HO3.out sizeCond rfl rfl ?_)
  intro wz oz kz
  have r0 := oz.cell 0 _ rfl
  have r1 := oz.cell 1 _ rfl
  have r2 := oz.cell 2 _ rfl
  have r3 := oz.cell 3 _ rfl
  have r4 := oz.cell 4 _ rfl
  have r5 := oz.cell 5 _ rfl
  have r6 := oz.cell 6 _ rfl
  have r7 := oz.cell 7 _ rfl
  have r8 := oz.cell 8 _ rfl
  have HBz := Lib.hid (OB.grown HB3.out kz (fun e => by have := Option.some.inj e; omega))
  have HGz := Lib.hid (grown_own HG3.out kz (fun b hb => by have := Option.some.inj hb; omega))
  clear oz kz
  go_wp2_with fail
  refine bodyPost_ret (v := .agg #[.int .i64 6, .string ⟨#[97]⟩, .string ⟨#[]⟩, .string ⟨#[]⟩, .slice none 0 0, .slice none 0 0, .int .i64 0, .int .i64 0, .slice none 0 0]) (by simp [results, Tryz.results91, go_sem, r0, r1, r2, r3, r4, r5, r6, r7, r8]) rfl ?_
  exact ⟨rfl, HBz.out, HGz.out⟩
set_option maxRecDepth 100000 in
set_option maxHeartbeats 2000000 in
theorem row_or (q : Nat) (w : World) (hb : PrA w q) : Calls Tryz.prog 90 #[.pointer (some ⟨q, 0, none⟩), .int .i64 4, .string ⟨#[111, 114]⟩, .func (.func 91) #[.pointer (some ⟨q, 0, none⟩)] #[]] w (PrO w q) := by
  have HB := Lib.hid (show PrA (w.alloc (.cells #[.int .i64 0, .string ⟨#[]⟩, .string ⟨#[]⟩, .string ⟨#[]⟩, .slice none 0 0, .slice none 0 0, .int .i64 0, .int .i64 0, .slice none 0 0] 30)) q from OB.alloc hb _)
  have HG := Lib.hid (World.grownBy_alloc w (.cells #[.int .i64 0, .string ⟨#[]⟩, .string ⟨#[]⟩, .string ⟨#[]⟩, .slice none 0 0, .slice none 0 0, .int .i64 0, .int .i64 0, .slice none 0 0] 30) (some q))
  have HO := Lib.hid (OB.new w [.int .i64 0, .string ⟨#[]⟩, .string ⟨#[]⟩, .string ⟨#[]⟩, .slice none 0 0, .slice none 0 0, .int .i64 0, .int .i64 0, .slice none 0 0] 30)
  have hql := OB.lt hb
  clear hb
  go_enter Tryz.func90, Tryz.ntmps90
  go_wp2_with fail
  simp only [List.toArray] at HO
  generalize w.alloc (.cells _ 30) = w1 at *
  have HO1 := Lib.hid (show OB w1 w.heap.size [.int .i64 0, .string ⟨#[]⟩, .string ⟨#[]⟩, .string ⟨#[]⟩, .slice none 0 0, .slice none 0 0, .int .i64 0, .int .i64 0, .slice none 0 0] 30 from HO.out)
  clear HO
  obtain ⟨q0, hq0⟩ : ∃ z, w.heap.size = z := ⟨_, rfl⟩
  have hq1 := Nat.le_of_eq hq0
  rw [hq0] at HO1 hql ⊢
  clear hq0
  with_reducible refine (and_has q w1 HB.out).mono ?_
  rintro e w3 ⟨rfl, hB, hG⟩
  have HB3 := Lib.hid hB
  have HG3 := Lib.hid (grown_trans HG.out hG)
  have HO3 := Lib.hid (OB.grown HO1.out hG (fun e => by have := Option.some.inj e; omega))
  clear hB hG HB HG HO1
  have HB4 := Lib.hid (show PrZ (w3.alloc (.cells #[.int .i64 6, .string ⟨#[97]⟩, .string ⟨#[]⟩, .string ⟨#[]⟩, .slice none 0 0, .slice none 0 0, .int .i64 0, .int .i64 0, .slice none 0 0] 30)) q from OB.alloc HB3.out _)
  have HG4 := Lib.hid (grown_trans HG3.out (World.grownBy_alloc w3 (.cells #[.int .i64 6, .string ⟨#[97]⟩, .string ⟨#[]⟩, .string ⟨#[]⟩, .slice none 0 0, .slice none 0 0, .int .i64 0, .int .i64 0, .slice none 0 0] 30) (some q)))
  have HO4 := Lib.hid (HO3.out.alloc (.cells #[.int .i64 6, .string ⟨#[97]⟩, .string ⟨#[]⟩, .string ⟨#[]⟩, .slice none 0 0, .slice none 0 0, .int .i64 0, .int .i64 0, .slice none 0 0] 30))
  have HN := Lib.hid (OB.new w3 [.int .i64 6, .string ⟨#[97]⟩, .string ⟨#[]⟩, .string ⟨#[]⟩, .slice none 0 0, .slice none 0 0, .int .i64 0, .int .i64 0, .slice none 0 0] 30)
  clear HB3 HG3 HO3
  go_upto_block 0 with (fail)
  simp only [List.toArray] at HN
  generalize w3.alloc (.cells _ 30) = w4 at *
  have HN4 := Lib.hid (show OB w4 w3.heap.size [.int .i64 6, .string ⟨#[97]⟩, .string ⟨#[]⟩, .string ⟨#[]⟩, .slice none 0 0, .slice none 0 0, .int .i64 0, .int .i64 0, .slice none 0 0] 30 from HN.out)
  clear HN
  generalize w3.heap.size = q5 at *
  have NA := Lib.hid (take_no hsT q 5 0 5 ⟨#[]⟩ ⟨#[111, 114]⟩ w4 HB4.out (.inl rfl) rfl)
  go_cut [9] (fun v wx => v = .slice (some ⟨q5, 0, none⟩) 1 1 ∧ w4 = wx)
  case first =>
    go_wp2_with fail
    go_loopw [9] (fun v wr => v = .slice (some ⟨q5, 0, none⟩) 1 1 ∧ w4 = wr) (fun _ _ => 0)
    case atStart => exact ⟨rfl, rfl⟩
    case round =>
      obtain ⟨rfl, rfl⟩ := hrel
      go_wp2_with fail
      with_reducible refine NA.out.mono ?_
      rintro e w2 ⟨rfl, rfl⟩
      go_wp2_with fail
      go_meet
      exact ⟨rfl, rfl⟩
  case rest =>
  obtain ⟨rfl, rfl⟩ := hcut
  have z0 := HN4.out.cell 0 _ rfl
  have z1 := HN4.out.cell 1 _ rfl
  have z2 := HN4.out.cell 2 _ rfl
  have z3 := HN4.out.cell 3 _ rfl
  have z4 := HN4.out.cell 4 _ rfl
  have z5 := HN4.out.cell 5 _ rfl
  have z6 := HN4.out.cell 6 _ rfl
  have z7 := HN4.out.cell 7 _ rfl
  have z8 := HN4.out.cell 8 _ rfl
  have zl := HN4.out.lt
  go_wp2_with (refine wpList_store_oc _ rfl _ _ _ rfl q0 _ [.int .i64 6, .string ⟨#[97]⟩, .string ⟨#[]⟩, .string ⟨#[]⟩, .slice none 0 0, .slice none 0 0, .int .i64 0, .int .i64 0, .slice none 0 0] _ rfl rfl HO4.out sizeCond rfl rfl ?_)
  intro wz oz kz
  have r0 := oz.cell 0 _ rfl
  have r1 := oz.cell 1 _ rfl
  have r2 := oz.cell 2 _ rfl
  have r3 := oz.cell 3 _ rfl
  have r4 := oz.cell 4 _ rfl
  have r5 := oz.cell 5 _ rfl
  have r6 := oz.cell 6 _ rfl
  have r7 := oz.cell 7 _ rfl
  have r8 := oz.cell 8 _ rfl
  have HBz := Lib.hid (OB.grown HB4.out kz (fun e => by have := Option.some.inj e; omega))
  have HGz := Lib.hid (grown_own HG4.out kz (fun b hb => by have := Option.some.inj hb; omega))
  clear oz kz
  go_wp2_with fail
  refine bodyPost_ret (v := .agg #[.int .i64 6, .string ⟨#[97]⟩, .string ⟨#[]⟩, .string ⟨#[]⟩, .slice none 0 0, .slice none 0 0, .int .i64 0, .int .i64 0, .slice none 0 0]) (by simp [results, Tryz.results90, go_sem, r0, r1, r2, r3, r4, r5, r6, r7, r8]) rfl ?_
  exact ⟨rfl, HBz.out, HGz.out⟩
set_option maxRecDepth 100000 in
set_option maxHeartbeats 1000000 in
theorem or_has (q : Nat) (w : World) (hb : PrA w q) : Calls Tryz.prog 63 #[.pointer (some ⟨q, 0, none⟩)] w (PrO w q) := by
  have HB := Lib.hid (show PrA (w.alloc (.cells #[.int .i64 0, .string ⟨#[]⟩, .string ⟨#[]⟩, .string ⟨#[]⟩, .slice none 0 0, .slice none 0 0, .int .i64 0, .int .i64 0, .slice none 0 0] 30)) q from OB.alloc hb _)
  have HG := Lib.hid (World.grownBy_alloc w (.cells #[.int .i64 0, .string ⟨#[]⟩, .string ⟨#[]⟩, .string ⟨#[]⟩, .slice none 0 0, .slice none 0 0, .int .i64 0, .int .i64 0, .slice none 0 0] 30) (some q))
  have HO := Lib.hid (OB.new w [.int .i64 0, .string ⟨#[]⟩, .string ⟨#[]⟩, .string ⟨#[]⟩, .slice none 0 0, .slice none 0 0, .int .i64 0, .int .i64 0, .slice none 0 0] 30)
  have hql := OB.lt hb
  clear hb
  go_enter Tryz.func63, Tryz.ntmps63
  go_wp2_with fail
  simp only [List.toArray] at HO
  generalize w.alloc (.cells _ 30) = w1 at *
  have HO1 := Lib.hid (show OB w1 w.heap.size [.int .i64 0, .string ⟨#[]⟩, .string ⟨#[]⟩, .string ⟨#[]⟩, .slice none 0 0, .slice none 0 0, .int .i64 0, .int .i64 0, .slice none 0 0] 30 from HO.out)
  clear HO
  obtain ⟨q0, hq0⟩ : ∃ z, w.heap.size = z := ⟨_, rfl⟩
  have hq1 := Nat.le_of_eq hq0
  rw [hq0] at HO1 hql ⊢
  clear hq0
  with_reducible refine (row_or q w1 HB.out).mono ?_
  rintro e w3 ⟨rfl, hB, hG⟩
  have HB3 := Lib.hid hB
  have HG3 := Lib.hid (grown_trans HG.out hG)
  have HO3 := Lib.hid (OB.grown HO1.out hG (fun e => by have := Option.some.inj e; omega))
  clear hB hG HB HG HO1
  go_wp2_with (refine wpList_store_oc _ rfl _ _ _ rfl q0 _ [.int .i64 6, .string ⟨#[97]⟩, .string ⟨#[]⟩, .string ⟨#[]⟩, .slice none 0 0, .slice none 0 0, .int .i64 0, .int .i64 0, .slice none 0 0] _ rfl rfl HO3.out sizeCond rfl rfl ?_)
  intro wz oz kz
  have r0 := oz.cell 0 _ rfl
  have r1 := oz.cell 1 _ rfl
  have r2 := oz.cell 2 _ rfl
  have r3 := oz.cell 3 _ rfl
  have r4 := oz.cell 4 _ rfl
  have r5 := oz.cell 5 _ rfl
  have r6 := oz.cell 6 _ rfl
  have r7 := oz.cell 7 _ rfl
  have r8 := oz.cell 8 _ rfl
  have HBz := Lib.hid (OB.grown HB3.out kz (fun e => by have := Option.some.inj e; omega))
  have HGz := Lib.hid (grown_own HG3.out kz (fun b hb => by have := Option.some.inj hb; omega))
  clear oz kz
  go_wp2_with fail
  refine bodyPost_ret (v := .agg #[.int .i64 6, .string ⟨#[97]⟩, .string ⟨#[]⟩, .string ⟨#[]⟩, .slice none 0 0, .slice none 0 0, .int .i64 0, .int .i64 0, .slice none 0 0]) (by simp [results, Tryz.results63, go_sem, r0, r1, r2, r3, r4, r5, r6, r7, r8]) rfl ?_
  exact ⟨rfl, HBz.out, HGz.out⟩
end Go.Proofs.YtdiioecpponnmaaGreatDoor
