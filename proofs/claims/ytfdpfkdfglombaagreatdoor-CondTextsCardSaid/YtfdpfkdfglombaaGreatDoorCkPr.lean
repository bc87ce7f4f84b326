/- Leaves of the parser of conditions (printed by gen_prs.py). -/
import Derived.Test.YtfdpfkdfglombaaGreatDoorIsKey
import Derived.Test.YtfdpfkdfglombaaGreatDoorOBox
import Derived.Test.YtfdpfkdfglombaaGreatDoorLstC
import Derived.Deep.MidRow
import Derived.Test.YtfdpfkdfglombaaGreatDoorCkMk
import Derived.Test.YtfdpfkdfglombaaGreatDoorSgW
import Derived.Test.YtfdpfkdfglombaaGreatDoorSgM
import Derived.Defers
import Derived.Recover
import Derived.Laws.Pointers
import Derived.Test.YtfdpfkdfglombaaGreatDoorSgV
import Derived.Laws.Cover1
import Derived.Maps.OwnOps
set_option linter.unusedVariables false
namespace Go.Proofs.YtfdpfkdfglombaaGreatDoor
open Go.RowKit

theorem ssmall_any (c : UInt8) (w : World) : Calls Tryz.prog 176 #[.int .u8 (c.toNat : Int)] w fun e w' => e = .returned (.bool (smallB c)) ∧ w = w' := by
  have HE := Lib.hid (show smallB c = decide (97 ≤ c.toNat ∧ c.toNat ≤ 122) from rfl)
  generalize smallB c = b at *
  generalize c.toNat = n at *
  by_cases h1 : 97 ≤ n
  · by_cases h2 : n ≤ 122
    · obtain rfl : b = true := HE.out.trans (decide_eq_true ⟨h1, h2⟩)
      go_enter Tryz.func176, Tryz.ntmps176
      go_wp2
      go_ret
      exact ⟨ret_bool (by simp; omega), rfl⟩
    · obtain rfl : b = false := HE.out.trans (decide_eq_false (by omega))
      go_enter Tryz.func176, Tryz.ntmps176
      go_wp2
      go_ret
      exact ⟨ret_bool (by simp; omega), rfl⟩
  · obtain rfl : b = false := HE.out.trans (decide_eq_false (by omega))
    go_enter Tryz.func176, Tryz.ntmps176
    go_wp2
    go_ret
    exact ⟨rfl, rfl⟩
theorem sdigit_any (c : UInt8) (w : World) : Calls Tryz.prog 178 #[.int .u8 (c.toNat : Int)] w fun e w' => e = .returned (.bool (digitB c)) ∧ w = w' := by
  have HE := Lib.hid (show digitB c = decide (48 ≤ c.toNat ∧ c.toNat ≤ 57) from rfl)
  generalize digitB c = b at *
  generalize c.toNat = n at *
  by_cases h1 : 48 ≤ n
  · by_cases h2 : n ≤ 57
    · obtain rfl : b = true := HE.out.trans (decide_eq_true ⟨h1, h2⟩)
      go_enter Tryz.func178, Tryz.ntmps178
      go_wp2
      go_ret
      exact ⟨ret_bool (by simp; omega), rfl⟩
    · obtain rfl : b = false := HE.out.trans (decide_eq_false (by omega))
      go_enter Tryz.func178, Tryz.ntmps178
      go_wp2
      go_ret
      exact ⟨ret_bool (by simp; omega), rfl⟩
  · obtain rfl : b = false := HE.out.trans (decide_eq_false (by omega))
    go_enter Tryz.func178, Tryz.ntmps178
    go_wp2
    go_ret
    exact ⟨rfl, rfl⟩

theorem scn2_any (c : UInt8) (w : World) : Calls Tryz.prog 177 #[.int .u8 (c.toNat : Int)] w fun e w' => e = .returned (.bool (keyC c)) ∧ w = w' := by
  have HE := Lib.hid (show keyC c = (smallB c || digitB c || decide (c.toNat = 45) || decide (c.toNat = 95)) from rfl)
  have C1 := Lib.hid (fun w => ssmall_any c w)
  have C2 := Lib.hid (fun w => sdigit_any c w)
  generalize smallB c = s at *
  generalize digitB c = d at *
  generalize keyC c = k at *
  generalize c.toNat = n at *
  cases s with
  | true =>
    obtain rfl : k = true := HE.out.trans (by simp)
    go_enter Tryz.func177, Tryz.ntmps177
    go_wp2_with fail
    with_reducible refine (C1.out _).mono ?_
    rintro e w1 ⟨rfl, rfl⟩
    go_wp2
    go_ret
    exact ⟨rfl, rfl⟩
  | false =>
    cases d with
    | true =>
      obtain rfl : k = true := HE.out.trans (by simp)
      go_enter Tryz.func177, Tryz.ntmps177
      go_wp2_with fail
      with_reducible refine (C1.out _).mono ?_
      rintro e w1 ⟨rfl, rfl⟩
      go_wp2_with fail
      with_reducible refine (C2.out _).mono ?_
      rintro e w1 ⟨rfl, rfl⟩
      go_wp2
      go_ret
      exact ⟨rfl, rfl⟩
    | false =>
      have e1 : k = (decide (n = 45) || decide (n = 95)) := HE.out.trans (by simp)
      subst e1
      by_cases h1 : n = 45
      · have h2 : ((n : Int) == 45) = true := by simp; omega
        have H1 := Lib.hid h1
        clear h1
        go_enter Tryz.func177, Tryz.ntmps177
        go_wp2_with fail
        with_reducible refine (C1.out _).mono ?_
        rintro e w1 ⟨rfl, rfl⟩
        go_wp2_with fail
        with_reducible refine (C2.out _).mono ?_
        rintro e w1 ⟨rfl, rfl⟩
        go_wp2
        go_ret
        exact ⟨ret_bool (by rw [decide_eq_true H1.out]; rfl), rfl⟩
      · have h2 : ((n : Int) == 45) = false := by simp; omega
        go_enter Tryz.func177, Tryz.ntmps177
        go_wp2_with fail
        with_reducible refine (C1.out _).mono ?_
        rintro e w1 ⟨rfl, rfl⟩
        go_wp2_with fail
        with_reducible refine (C2.out _).mono ?_
        rintro e w1 ⟨rfl, rfl⟩
        go_wp2
        go_ret
        exact ⟨ret_bool (by rw [decide_eq_false h1]; rw [Bool.eq_iff_iff]; simp; omega), rfl⟩

def spcB (c : UInt8) : Bool := decide (c.toNat = 32) || decide (c.toNat = 10)
theorem scn1_any (c : UInt8) (w : World) : Calls Tryz.prog 175 #[.int .u8 (c.toNat : Int)] w fun e w' => e = .returned (.bool (spcB c)) ∧ w = w' := by
  unfold spcB
  generalize c.toNat = n at *
  by_cases h1 : n = 32
  · subst h1
    go_enter Tryz.func175, Tryz.ntmps175
    go_wp2
    go_ret
    exact ⟨rfl, rfl⟩
  · have h2 : ((n : Int) == 32) = false := by simp; omega
    go_enter Tryz.func175, Tryz.ntmps175
    go_wp2
    go_ret
    exact ⟨ret_bool (by rw [decide_eq_false h1, Bool.eq_iff_iff]; simp; omega), rfl⟩
theorem ix_at (s : ByteArray) (i : Nat) (c : UInt8) (h : s.toList[i]? = some c) (w : World) : (Instr.index 9 (.string s) (.int .i64 (i : Int))).run Tryz.prog w = .ok (.int .u8 (c.toNat : Int)) w := by
  rw [Lib.toList_data] at h
  obtain ⟨h1, h2⟩ := List.getElem?_eq_some_iff.1 h
  have hs : i < s.size := by simpa using h1
  rw [run_index_string (h := Tryz.underlying9), dif_pos ⟨by omega, by omega⟩]
  subst h2
  rfl
/-- where a run of bytes that fit ends -/
def runN (p : UInt8 → Bool) (s : ByteArray) (i : Nat) : Nat := i + ((s.toList.drop i).takeWhile p).length
theorem runN_step (p : UInt8 → Bool) (s : ByteArray) (i : Nat) (c : UInt8) (h : s.toList[i]? = some c) : runN p s i = if p c = true then runN p s (i + 1) else i := by
  obtain ⟨h1, h2⟩ := List.getElem?_eq_some_iff.1 h
  unfold runN
  rw [List.drop_eq_getElem_cons h1, h2, List.takeWhile_cons]
  split <;> simp <;> omega
theorem runN_end (p : UInt8 → Bool) (s : ByteArray) : runN p s s.size = s.size := by
  unfold runN
  rw [List.drop_of_length_le (by rw [Lib.toList_data]; simp)]
  simp
set_option maxHeartbeats 1000000 in
theorem prun1_any (s : ByteArray) (q i : Nat) (w : World) (hb : w.cell? ⟨q, 0, none⟩ = some (.string s)) (hq : q < w.heap.size) (hs : s.size ≤ 1000000) (hi : i ≤ s.size) :
    Calls Tryz.prog 174 #[.pointer (some ⟨q, 0, none⟩), .int .i64 (i : Int), .func (.func 175) #[] #[]] w fun e w' => e = .returned (.int .i64 (runN spcB s i : Int)) ∧ w = w' := by
  have C1 := Lib.hid (fun c w => scn1_any c w)
  have HL := Lib.hid (show s.toList.length = s.size by rw [Lib.toList_data]; simp)
  have HST := Lib.hid (fun i c h => runN_step spcB s i c h)
  have HEN := Lib.hid (runN_end spcB s)
  obtain ⟨r, hr⟩ : ∃ z, runN spcB s i = z := ⟨_, rfl⟩
  have HR := Lib.hid hr
  rw [hr]
  clear hr
  have hm : (s.size : Int) ≤ 9223372036854775806 := by omega
  go_enter Tryz.func174, Tryz.ntmps174
  go_wp2_with fail
  go_loopw [1] (fun v wr => ∃ j : Nat, v = .int .i64 (j : Int) ∧ j ≤ s.size ∧ Hid (runN spcB s j = r) ∧ wr = w) (fun v _ => s.size - (intOf v).toNat)
  case atStart => exact ⟨i, rfl, hi, HR, rfl⟩
  case round =>
    obtain ⟨j, rfl, hj, HJ, rfl⟩ := hrel
    by_cases hlt : j < s.size
    · have h1' : (j : Int) < (s.size : Int) := by omega
      obtain ⟨c, hc⟩ : ∃ c, s.toList[j]? = some c := ⟨_, List.getElem?_eq_getElem (by rw [HL.out]; exact hlt)⟩
      have HX := fun w => ix_at s j c hc w
      have HS := Lib.hid (HST.out j c hc)
      clear hc
      go_wp2_with fail
      with_reducible refine (C1.out _ _).mono ?_
      rintro e w1 ⟨rfl, rfl⟩
      obtain ⟨b, hbb⟩ : ∃ z, spcB c = z := ⟨_, rfl⟩
      rw [hbb] at HS ⊢
      clear hbb
      cases b with
      | true =>
        go_wp2_with fail
        go_roundw
        case rel => exact ⟨j + 1, by go_num, by omega, Lib.hid (by rw [← HJ.out, HS.out]; rfl), trivial⟩
        case measure => simp [intOf]; omega
      | false =>
        go_wp2_with fail
        go_ret
        exact ⟨by rw [← HJ.out, HS.out]; rfl, rfl⟩
    · obtain rfl : j = s.size := by omega
      go_wp2_with fail
      go_ret
      exact ⟨by rw [← HJ.out, HEN.out]; rfl, rfl⟩
set_option maxHeartbeats 1000000 in
theorem prun2_any (s : ByteArray) (q i : Nat) (w : World) (hb : w.cell? ⟨q, 0, none⟩ = some (.string s)) (hq : q < w.heap.size) (hs : s.size ≤ 1000000) (hi : i ≤ s.size) :
    Calls Tryz.prog 174 #[.pointer (some ⟨q, 0, none⟩), .int .i64 (i : Int), .func (.func 177) #[] #[]] w fun e w' => e = .returned (.int .i64 (runN keyC s i : Int)) ∧ w = w' := by
  have C1 := Lib.hid (fun c w => scn2_any c w)
  have HL := Lib.hid (show s.toList.length = s.size by rw [Lib.toList_data]; simp)
  have HST := Lib.hid (fun i c h => runN_step keyC s i c h)
  have HEN := Lib.hid (runN_end keyC s)
  obtain ⟨r, hr⟩ : ∃ z, runN keyC s i = z := ⟨_, rfl⟩
  have HR := Lib.hid hr
  rw [hr]
  clear hr
  have hm : (s.size : Int) ≤ 9223372036854775806 := by omega
  go_enter Tryz.func174, Tryz.ntmps174
  go_wp2_with fail
  go_loopw [1] (fun v wr => ∃ j : Nat, v = .int .i64 (j : Int) ∧ j ≤ s.size ∧ Hid (runN keyC s j = r) ∧ wr = w) (fun v _ => s.size - (intOf v).toNat)
  case atStart => exact ⟨i, rfl, hi, HR, rfl⟩
  case round =>
    obtain ⟨j, rfl, hj, HJ, rfl⟩ := hrel
    by_cases hlt : j < s.size
    · have h1' : (j : Int) < (s.size : Int) := by omega
      obtain ⟨c, hc⟩ : ∃ c, s.toList[j]? = some c := ⟨_, List.getElem?_eq_getElem (by rw [HL.out]; exact hlt)⟩
      have HX := fun w => ix_at s j c hc w
      have HS := Lib.hid (HST.out j c hc)
      clear hc
      go_wp2_with fail
      with_reducible refine (C1.out _ _).mono ?_
      rintro e w1 ⟨rfl, rfl⟩
      obtain ⟨b, hbb⟩ : ∃ z, keyC c = z := ⟨_, rfl⟩
      rw [hbb] at HS ⊢
      clear hbb
      cases b with
      | true =>
        go_wp2_with fail
        go_roundw
        case rel => exact ⟨j + 1, by go_num, by omega, Lib.hid (by rw [← HJ.out, HS.out]; rfl), trivial⟩
        case measure => simp [intOf]; omega
      | false =>
        go_wp2_with fail
        go_ret
        exact ⟨by rw [← HJ.out, HS.out]; rfl, rfl⟩
    · obtain rfl : j = s.size := by omega
      go_wp2_with fail
      go_ret
      exact ⟨by rw [← HJ.out, HEN.out]; rfl, rfl⟩
end Go.Proofs.YtfdpfkdfglombaaGreatDoor
/- (*parser).scan at a word and at the end (printed by gen_scan.py). -/
set_option linter.unusedVariables false
namespace Go.Proofs.YtfdpfkdfglombaaGreatDoor
open Go.RowKit

def prL (s : ByteArray) (i k j : Nat) (tx : ByteArray) : List Value := [.string s, .int .i64 (i : Int), .int .i64 (k : Int), .int .i64 (j : Int), .string tx]
/-- a parser lies at q -/
def PrB (w : World) (q : Nat) (s : ByteArray) (i k j : Nat) (tx : ByteArray) : Prop := OB w q (prL s i k j tx) 150
theorem sizeTok : (Tryz.prog.info? 148).map (·.size) = some 3 := by kernel_rfl
theorem grown_setc (w : World) (q i : Nat) (v : Value) : w.grownBy (w.setCell ⟨q, i, none⟩ v) (some q) := ⟨rfl, rfl, rfl, by simp [World.setCell], fun j _ hne => Below.heap_setCell w _ _ j (by rintro rfl; exact hne rfl)⟩
theorem PrB.tok {w : World} {q : Nat} {s tx tx' : ByteArray} {i k j k' j' : Nat} (h : PrB w q s i k j tx) : PrB (w.setCells q 2 [.int .i64 (k' : Int), .int .i64 (j' : Int), .string tx']) q s i k' j' tx' ∧ w.grownBy (w.setCells q 2 [.int .i64 (k' : Int), .int .i64 (j' : Int), .string tx']) (some q) :=
  ⟨((OB.put (OB.put (OB.put h 2 (.int .i64 (k' : Int)) rfl) 3 (.int .i64 (j' : Int)) rfl) 4 (.string tx') rfl)), grown_trans (grown_setc _ _ _ _) (grown_trans (grown_setc _ _ _ _) (grown_setc _ _ _ _))⟩
theorem PrB.there {w : World} {q : Nat} {s tx : ByteArray} {i k j : Nat} (h : PrB w q s i k j tx) : w.there q 2 3 := fun n hn => by
  have : n = 0 ∨ n = 1 ∨ n = 2 := by omega
  rcases this with rfl | rfl | rfl
  · exact ⟨by rw [OB.cell h 2 _ rfl]; rfl, OB.free h 2⟩
  · exact ⟨by rw [OB.cell h 3 _ rfl]; rfl, OB.free h 3⟩
  · exact ⟨by rw [OB.cell h 4 _ rfl]; rfl, OB.free h 4⟩
set_option maxRecDepth 100000 in
set_option maxHeartbeats 4000000 in
theorem scan_end (s : ByteArray) (q i k at0 : Nat) (tx : ByteArray) (w : World) (hb : PrB w q s i k at0 tx) (hs : s.size ≤ 1000000) (hi : i ≤ s.size) (hj : runN spcB s i = s.size) :
    Calls Tryz.prog 128 #[.pointer (some ⟨q, 0, none⟩)] w fun e w' => e = .returned (.tuple #[]) ∧ PrB w' q s s.size 0 s.size ⟨#[]⟩ ∧ w.grownBy w' (some q) := by
  have hm0 : (s.size : Int) ≤ 1000000 := by omega
  have HL := Lib.hid (show s.toList.length = s.size by rw [Lib.toList_data]; simp)
  have C1 := Lib.hid (prun1_any s q i w (OB.cell hb 0 _ rfl) (OB.lt hb) hs hi)
  rw [hj] at C1
  have y1 := OB.cell hb 1 (.int .i64 (i : Int)) rfl
  have f1 := OB.free hb 1
  have yl := OB.lt hb
  have HB := Lib.hid hb
  clear hb
  go_enter Tryz.func128, Tryz.ntmps128
  go_wp2_with fail
  with_reducible refine C1.out.mono ?_
  rintro e w1 ⟨rfl, rfl⟩
  go_upto_region 1 with (fail)
  have HB1 := Lib.hid (show PrB (w.setCell ⟨q, 1, none⟩ (.int .i64 (s.size : Int))) q s s.size k at0 tx from OB.put HB.out 1 _ rfl)
  have HG1 := Lib.hid (grown_setc w q 1 (.int .i64 (s.size : Int)))
  clear y1 f1 yl HB C1
  generalize w.setCell _ _ = w2 at *
  have y0 := OB.cell HB1.out 0 (.string s) rfl
  have y1 := OB.cell HB1.out 1 (.int .i64 (s.size : Int)) rfl
  have yl := OB.lt HB1.out
  have y2 := OB.cell HB1.out 2 (.int .i64 (k : Int)) rfl
  have f2 := OB.free HB1.out 2
  have y3 := OB.cell HB1.out 3 (.int .i64 (at0 : Int)) rfl
  have f3 := OB.free HB1.out 3
  have y4 := OB.cell HB1.out 4 (.string tx) rfl
  have f4 := OB.free HB1.out 4
  have HB2 := Lib.hid (HB1.out.tok (k' := 0) (j' := s.size) (tx' := ⟨#[]⟩))
  go_wp2_with fail
  first | go_end0 | (simp only [Exit.inBlock, Exit.then]; refine bodyPost_ret (results_none rfl _ _ _) rfl ?_) | refine bodyPost_ret (results_none rfl _ _ _) rfl ?_
  exact ⟨rfl, HB2.out.1, grown_trans HG1.out HB2.out.2⟩
set_option maxRecDepth 100000 in
set_option maxHeartbeats 4000000 in
theorem scan_word (s : ByteArray) (q i k at0 j m : Nat) (c : UInt8) (tx : ByteArray) (w : World) (hb : PrB w q s i k at0 tx) (hs : s.size ≤ 1000000) (hi : i ≤ s.size) (hj : runN spcB s i = j) (hc : s.toList[j]? = some c) (hsm : smallB c = true) (hm : runN keyC s j = m) (hms : j ≤ m ∧ m ≤ s.size) (hjs : j < s.size) :
    Calls Tryz.prog 128 #[.pointer (some ⟨q, 0, none⟩)] w fun e w' => e = .returned (.tuple #[]) ∧ PrB w' q s m 1 j (s.extract j m) ∧ w.grownBy w' (some q) := by
  have HX := fun w => ix_at s j c hc w
  have C2 := Lib.hid (ssmall_any c)
  rw [hsm] at C2
  have C3 := Lib.hid (fun w h1 h2 => prun2_any s q j w h1 h2 hs (by omega))
  rw [hm] at C3
  have hne : ((j : Int) == (s.size : Int)) = false := by simp; omega
  have hms1 := hms.1
  have hms2 := hms.2
  clear hc hsm hms
  have hm0 : (s.size : Int) ≤ 1000000 := by omega
  have HL := Lib.hid (show s.toList.length = s.size by rw [Lib.toList_data]; simp)
  have C1 := Lib.hid (prun1_any s q i w (OB.cell hb 0 _ rfl) (OB.lt hb) hs hi)
  rw [hj] at C1
  have y1 := OB.cell hb 1 (.int .i64 (i : Int)) rfl
  have f1 := OB.free hb 1
  have yl := OB.lt hb
  have HB := Lib.hid hb
  clear hb
  go_enter Tryz.func128, Tryz.ntmps128
  go_wp2_with fail
  with_reducible refine C1.out.mono ?_
  rintro e w1 ⟨rfl, rfl⟩
  go_upto_region 1 with (fail)
  have HB1 := Lib.hid (show PrB (w.setCell ⟨q, 1, none⟩ (.int .i64 (j : Int))) q s j k at0 tx from OB.put HB.out 1 _ rfl)
  have HG1 := Lib.hid (grown_setc w q 1 (.int .i64 (j : Int)))
  clear y1 f1 yl HB C1
  generalize w.setCell _ _ = w2 at *
  have y0 := OB.cell HB1.out 0 (.string s) rfl
  have y1 := OB.cell HB1.out 1 (.int .i64 (j : Int)) rfl
  have yl := OB.lt HB1.out
  go_wp2_with fail
  with_reducible refine (C2.out _).mono ?_
  rintro e w3 ⟨rfl, rfl⟩
  go_wp2_with fail
  with_reducible refine (C3.out _ y0 yl).mono ?_
  rintro e w3 ⟨rfl, rfl⟩
  have f1 := OB.free HB1.out 1
  go_upto_region 29 with (fail)
  have HB3 := Lib.hid (show PrB (w2.setCell ⟨q, 1, none⟩ (.int .i64 (m : Int))) q s m k at0 tx from OB.put HB1.out 1 _ rfl)
  have HG3 := Lib.hid (grown_trans HG1.out (grown_setc w2 q 1 (.int .i64 (m : Int))))
  clear y0 y1 f1 yl HB1 HG1 C2 C3 HX
  generalize w2.setCell _ _ = w4 at *
  have y0 := OB.cell HB3.out 0 (.string s) rfl
  have yl := OB.lt HB3.out
  have hj0 : (0 : Int) ≤ (j : Int) := by omega
  have hjm : (j : Int) ≤ (m : Int) := by omega
  have hm0' : (0 : Int) ≤ (m : Int) := by omega
  have hmz : (m : Int) ≤ (s.size : Int) := by omega
  have y2 := OB.cell HB3.out 2 (.int .i64 (k : Int)) rfl
  have f2 := OB.free HB3.out 2
  have y3 := OB.cell HB3.out 3 (.int .i64 (at0 : Int)) rfl
  have f3 := OB.free HB3.out 3
  have y4 := OB.cell HB3.out 4 (.string tx) rfl
  have f4 := OB.free HB3.out 4
  have HB4 := Lib.hid (HB3.out.tok (k' := 1) (j' := j) (tx' := s.extract j m))
  go_wp2_with fail
  go_end0
  exact ⟨rfl, HB4.out.1, grown_trans HG3.out HB4.out.2⟩
theorem is_any (s : ByteArray) (q i k at0 : Nat) (tx u : ByteArray) (w : World) (hb : PrB w q s i k at0 tx) (hk : k = 0 ∨ k = 1) :
    Calls Tryz.prog 264 #[.pointer (some ⟨q, 0, none⟩), .string u] w fun e w' => e = .returned (.bool (decide (k = 1) && (tx.toList == u.toList))) ∧ w = w' := by
  have y2 := OB.cell hb 2 (.int .i64 (k : Int)) rfl
  have y4 := OB.cell hb 4 (.string tx) rfl
  have yl := OB.lt hb
  clear hb
  rcases hk with rfl | rfl
  · go_enter Tryz.func264, Tryz.ntmps264
    go_wp2
    go_ret
    exact ⟨rfl, rfl⟩
  · obtain ⟨b, hbb⟩ : ∃ z, (tx.toList == u.toList) = z := ⟨_, rfl⟩
    rw [hbb]
    have HE := Lib.hid hbb
    clear hbb
    go_enter Tryz.func264, Tryz.ntmps264
    go_wp2
    all_goals go_ret
    all_goals exact ⟨ret_bool (by simp [HE.out]), rfl⟩
end Go.Proofs.YtfdpfkdfglombaaGreatDoor
/- What the parser makes of "has a" (printed by gen_hasa.py). -/
set_option linter.unusedVariables false
namespace Go.Proofs.YtfdpfkdfglombaaGreatDoor
open Go.RowKit

def hsT : ByteArray := ⟨#[104, 97, 115, 32, 97]⟩
def hasB : ByteArray := ⟨#[104, 97, 115]⟩
def hasL : List Value := [.int .i64 6, .string ⟨#[97]⟩, .string ⟨#[]⟩, .string ⟨#[]⟩, .slice none 0 0, .slice none 0 0, .int .i64 0, .int .i64 0, .slice none 0 0]
def PrA (w : World) (q : Nat) : Prop := PrB w q hsT 3 1 0 ⟨#[104, 97, 115]⟩
def PrM (w : World) (q : Nat) : Prop := PrB w q hsT 5 1 4 ⟨#[97]⟩
def PrZ (w : World) (q : Nat) : Prop := PrB w q hsT 5 0 5 ⟨#[]⟩
theorem hsT_ix (i : Nat) (c : UInt8) (h : ([104, 97, 115, 32, 97] : List UInt8)[i]? = some c) : hsT.toList[i]? = some c := by
  rw [Lib.toList_data]; exact h
theorem hsT_run (p : UInt8 → Bool) (i m : Nat) (h : i + ((([104, 97, 115, 32, 97] : List UInt8).drop i).takeWhile p).length = m) : runN p hsT i = m := by
  unfold runN
  rw [Lib.toList_data]; exact h
theorem hsT_size : hsT.size = 5 := rfl
theorem scanA (q : Nat) (w : World) (hb : PrB w q hsT 0 0 0 ⟨#[]⟩) : Calls Tryz.prog 128 #[.pointer (some ⟨q, 0, none⟩)] w fun e w' => e = .returned (.tuple #[]) ∧ PrA w' q ∧ w.grownBy w' (some q) :=
  scan_word hsT q 0 0 0 0 3 104 ⟨#[]⟩ w hb (by decide) (by decide) (hsT_run _ _ _ rfl) (hsT_ix _ _ rfl) rfl (hsT_run _ _ _ rfl) (by decide) (by decide)
theorem scanM (q : Nat) (w : World) (hb : PrA w q) : Calls Tryz.prog 128 #[.pointer (some ⟨q, 0, none⟩)] w fun e w' => e = .returned (.tuple #[]) ∧ PrM w' q ∧ w.grownBy w' (some q) :=
  scan_word hsT q 3 1 0 4 5 97 _ w hb (by decide) (by decide) (hsT_run _ _ _ rfl) (hsT_ix _ _ rfl) rfl (hsT_run _ _ _ rfl) (by decide) (by decide)
theorem scanZ (q : Nat) (w : World) (hb : PrM w q) : Calls Tryz.prog 128 #[.pointer (some ⟨q, 0, none⟩)] w fun e w' => e = .returned (.tuple #[]) ∧ PrZ w' q ∧ w.grownBy w' (some q) :=
  scan_end hsT q 5 1 4 _ w hb (by decide) (by decide) (hsT_run _ _ _ rfl)
theorem take_no (s : ByteArray) (q i k at0 : Nat) (tx u : ByteArray) (w : World) (hb : PrB w q s i k at0 tx) (hk : k = 0 ∨ k = 1) (h : (decide (k = 1) && (tx.toList == u.toList)) = false) : Calls Tryz.prog 225 #[.pointer (some ⟨q, 0, none⟩), .string u] w fun e w' => e = .returned (.bool false) ∧ w = w' := by
  have C := Lib.hid (is_any s q i k at0 tx u w hb hk)
  rw [h] at C
  clear hb hk h
  go_enter Tryz.func225, Tryz.ntmps225
  go_wp2_with fail
  with_reducible refine C.out.mono ?_
  rintro e w1 ⟨rfl, rfl⟩
  go_wp2_with fail
  go_ret
  exact ⟨rfl, rfl⟩
theorem take_has (q : Nat) (w : World) (hb : PrA w q) : Calls Tryz.prog 225 #[.pointer (some ⟨q, 0, none⟩), .string ⟨#[104, 97, 115]⟩] w fun e w' => e = .returned (.bool true) ∧ PrM w' q ∧ w.grownBy w' (some q) := by
  have C := Lib.hid (is_any hsT q 3 1 0 _ ⟨#[104, 97, 115]⟩ w hb (.inr rfl))
  rw [show (decide (1 = 1) && ((⟨#[104, 97, 115]⟩ : ByteArray).toList == (⟨#[104, 97, 115]⟩ : ByteArray).toList)) = true by simp] at C
  have C2 := Lib.hid (scanM q w hb)
  clear hb
  go_enter Tryz.func225, Tryz.ntmps225
  go_wp2_with fail
  with_reducible refine C.out.mono ?_
  rintro e w1 ⟨rfl, rfl⟩
  go_wp2_with fail
  with_reducible refine C2.out.mono ?_
  rintro e w1 ⟨rfl, hB, hG⟩
  have HB := Lib.hid hB
  have HG := Lib.hid hG
  clear hB hG C C2
  go_wp2_with fail
  go_ret
  exact ⟨rfl, HB.out, HG.out⟩
theorem name_a (q : Nat) (w : World) (hb : PrM w q) : Calls Tryz.prog 279 #[.pointer (some ⟨q, 0, none⟩)] w fun e w' => e = .returned (.string ⟨#[97]⟩) ∧ PrZ w' q ∧ w.grownBy w' (some q) := by
  have C := Lib.hid (isName_any ⟨#[97]⟩ w (by decide))
  rw [show nmB ⟨#[97]⟩ = true from by decide] at C
  have C2 := Lib.hid (scanZ q w hb)
  have y2 := OB.cell hb 2 (.int .i64 1) rfl
  have y4 := OB.cell hb 4 (.string ⟨#[97]⟩) rfl
  have yl := OB.lt hb
  clear hb
  go_enter Tryz.func279, Tryz.ntmps279
  go_wp2_with fail
  with_reducible refine C.out.mono ?_
  rintro e w1 ⟨rfl, rfl⟩
  go_wp2_with fail
  with_reducible refine C2.out.mono ?_
  rintro e w1 ⟨rfl, hB, hG⟩
  have HB := Lib.hid hB
  have HG := Lib.hid hG
  clear hB hG C C2 y2 y4 yl
  go_wp2_with fail
  go_ret
  exact ⟨rfl, HB.out, HG.out⟩
/-- what the parser's functions leave -/
def PrO (w : World) (q : Nat) (e : Ending) (w' : World) : Prop := e = .returned (.agg #[.int .i64 6, .string ⟨#[97]⟩, .string ⟨#[]⟩, .string ⟨#[]⟩, .slice none 0 0, .slice none 0 0, .int .i64 0, .int .i64 0, .slice none 0 0]) ∧ PrZ w' q ∧ w.grownBy w' (some q)
set_option maxRecDepth 100000 in
set_option maxHeartbeats 1000000 in
theorem prim_has (q : Nat) (w : World) (hb : PrA w q) : Calls Tryz.prog 265 #[.pointer (some ⟨q, 0, none⟩)] w (PrO w q) := by
  have HB := Lib.hid (show PrA (w.alloc (.cells #[.int .i64 0, .string ⟨#[]⟩, .string ⟨#[]⟩, .string ⟨#[]⟩, .slice none 0 0, .slice none 0 0, .int .i64 0, .int .i64 0, .slice none 0 0] 30)) q from OB.alloc hb _)
  have HG := Lib.hid (World.grownBy_alloc w (.cells #[.int .i64 0, .string ⟨#[]⟩, .string ⟨#[]⟩, .string ⟨#[]⟩, .slice none 0 0, .slice none 0 0, .int .i64 0, .int .i64 0, .slice none 0 0] 30) (some q))
  have HO := Lib.hid (OB.new w [.int .i64 0, .string ⟨#[]⟩, .string ⟨#[]⟩, .string ⟨#[]⟩, .slice none 0 0, .slice none 0 0, .int .i64 0, .int .i64 0, .slice none 0 0] 30)
  have hql := OB.lt hb
  clear hb
  go_enter Tryz.func265, Tryz.ntmps265
  go_wp2_with fail
  simp only [List.toArray] at HO
  generalize w.alloc (.cells _ 30) = w1 at *
  have HO1 := Lib.hid (show OB w1 w.heap.size [.int .i64 0, .string ⟨#[]⟩, .string ⟨#[]⟩, .string ⟨#[]⟩, .slice none 0 0, .slice none 0 0, .int .i64 0, .int .i64 0, .slice none 0 0] 30 from HO.out)
  clear HO
  obtain ⟨q0, hq0⟩ : ∃ z, w.heap.size = z := ⟨_, rfl⟩
  have hq1 := Nat.le_of_eq hq0
  rw [hq0] at HO1 hql ⊢
  clear hq0
  have NA := Lib.hid (take_no hsT q 3 1 0 ⟨#[104, 97, 115]⟩ ⟨#[40]⟩ w1 HB.out (.inr rfl) (by rw [Lib.toList_data, Lib.toList_data]; rfl))
  with_reducible refine NA.out.mono ?_
  rintro e w2 ⟨rfl, rfl⟩
  clear NA
  go_wp2_with fail
  have NA := Lib.hid (take_no hsT q 3 1 0 ⟨#[104, 97, 115]⟩ ⟨#[97, 108, 108]⟩ w1 HB.out (.inr rfl) (by rw [Lib.toList_data, Lib.toList_data]; rfl))
  with_reducible refine NA.out.mono ?_
  rintro e w2 ⟨rfl, rfl⟩
  clear NA
  go_wp2_with fail
  have NA := Lib.hid (take_no hsT q 3 1 0 ⟨#[104, 97, 115]⟩ ⟨#[110, 111, 110, 101]⟩ w1 HB.out (.inr rfl) (by rw [Lib.toList_data, Lib.toList_data]; rfl))
  with_reducible refine NA.out.mono ?_
  rintro e w2 ⟨rfl, rfl⟩
  clear NA
  go_wp2_with fail
  with_reducible refine (take_has q w1 HB.out).mono ?_
  rintro e w3 ⟨rfl, hB, hG⟩
  have HB3 := Lib.hid hB
  have HG3 := Lib.hid (grown_trans HG.out hG)
  have HO3 := Lib.hid (OB.grown HO1.out hG (fun e => by have := Option.some.inj e; omega))
  clear hB hG HB HG HO1
  go_wp2_with fail
  with_reducible refine (name_a q w3 HB3.out).mono ?_
  rintro e w4 ⟨rfl, hB, hG⟩
  have HB4 := Lib.hid hB
  have HG4 := Lib.hid (grown_trans HG3.out hG)
  have HO4 := Lib.hid (OB.grown HO3.out hG (fun e => by have := Option.some.inj e; omega))
  clear hB hG HB3 HG3 HO3
  go_wp2_with (refine wpList_store_oc _ rfl _ _ _ rfl q0 _ [.int .i64 6, .string ⟨#[97]⟩, .string ⟨#[]⟩, .string ⟨#[]⟩, .slice none 0 0, .slice none 0 0, .int .i64 0, .int .i64 0, .slice none 0 0] _ rfl rfl HO4.out sizeCond rfl rfl ?_)
  intro wz oz kz
  have r0 := oz.cell 0 _ rfl
  have r1 := oz.cell 1 _ rfl
  have r2 := oz.cell 2 _ rfl
  have r3 := oz.cell 3 _ rfl
  have r4 := oz.cell 4 _ rfl
  have r5 := oz.cell 5 _ rfl
  have r6 := oz.cell 6 _ rfl
  have r7 := oz.cell 7 _ rfl
  have r8 := oz.cell 8 _ rfl
  have HBz := Lib.hid (OB.grown HB4.out kz (fun e => by have := Option.some.inj e; omega))
  have HGz := Lib.hid (grown_own HG4.out kz (fun b hb => by have := Option.some.inj hb; omega))
  clear oz kz
  go_wp2_with fail
  refine bodyPost_ret (v := .agg #[.int .i64 6, .string ⟨#[97]⟩, .string ⟨#[]⟩, .string ⟨#[]⟩, .slice none 0 0, .slice none 0 0, .int .i64 0, .int .i64 0, .slice none 0 0]) (by simp [results, Tryz.results265, go_sem, r0, r1, r2, r3, r4, r5, r6, r7, r8]) rfl ?_
  exact ⟨rfl, HBz.out, HGz.out⟩
set_option maxRecDepth 100000 in
set_option maxHeartbeats 1000000 in
theorem not_has (q : Nat) (w : World) (hb : PrA w q) : Calls Tryz.prog 226 #[.pointer (some ⟨q, 0, none⟩)] w (PrO w q) := by
  have HB := Lib.hid (show PrA (w.alloc (.cells #[.int .i64 0, .string ⟨#[]⟩, .string ⟨#[]⟩, .string ⟨#[]⟩, .slice none 0 0, .slice none 0 0, .int .i64 0, .int .i64 0, .slice none 0 0] 30)) q from OB.alloc hb _)
  have HG := Lib.hid (World.grownBy_alloc w (.cells #[.int .i64 0, .string ⟨#[]⟩, .string ⟨#[]⟩, .string ⟨#[]⟩, .slice none 0 0, .slice none 0 0, .int .i64 0, .int .i64 0, .slice none 0 0] 30) (some q))
  have HO := Lib.hid (OB.new w [.int .i64 0, .string ⟨#[]⟩, .string ⟨#[]⟩, .string ⟨#[]⟩, .slice none 0 0, .slice none 0 0, .int .i64 0, .int .i64 0, .slice none 0 0] 30)
  have hql := OB.lt hb
  clear hb
  go_enter Tryz.func226, Tryz.ntmps226
  go_wp2_with fail
  simp only [List.toArray] at HO
  generalize w.alloc (.cells _ 30) = w1 at *
  have HO1 := Lib.hid (show OB w1 w.heap.size [.int .i64 0, .string ⟨#[]⟩, .string ⟨#[]⟩, .string ⟨#[]⟩, .slice none 0 0, .slice none 0 0, .int .i64 0, .int .i64 0, .slice none 0 0] 30 from HO.out)
  clear HO
  obtain ⟨q0, hq0⟩ : ∃ z, w.heap.size = z := ⟨_, rfl⟩
  have hq1 := Nat.le_of_eq hq0
  rw [hq0] at HO1 hql ⊢
  clear hq0
  have NA := Lib.hid (take_no hsT q 3 1 0 ⟨#[104, 97, 115]⟩ ⟨#[110, 111, 116]⟩ w1 HB.out (.inr rfl) (by rw [Lib.toList_data, Lib.toList_data]; rfl))
  with_reducible refine NA.out.mono ?_
  rintro e w2 ⟨rfl, rfl⟩
  clear NA
  go_wp2_with fail
  with_reducible refine (prim_has q w1 HB.out).mono ?_
  rintro e w3 ⟨rfl, hB, hG⟩
  have HB3 := Lib.hid hB
  have HG3 := Lib.hid (grown_trans HG.out hG)
  have HO3 := Lib.hid (OB.grown HO1.out hG (fun e => by have := Option.some.inj e; omega))
  clear hB hG HB HG HO1
  go_wp2_with (refine wpList_store_oc _ rfl _ _ _ rfl q0 _ [.int .i64 6, .string ⟨#[97]⟩, .string ⟨#[]⟩, .string ⟨#[]⟩, .slice none 0 0, .slice none 0 0, .int .i64 0, .int .i64 0, .slice none 0 0] _ rfl rfl HO3.out sizeCond rfl rfl ?_)
  intro wz oz kz
  have r0 := oz.cell 0 _ rfl
  have r1 := oz.cell 1 _ rfl
  have r2 := oz.cell 2 _ rfl
  have r3 := oz.cell 3 _ rfl
  have r4 := oz.cell 4 _ rfl
  have r5 := oz.cell 5 _ rfl
  have r6 := oz.cell 6 _ rfl
  have r7 := oz.cell 7 _ rfl
  have r8 := oz.cell 8 _ rfl
  have HBz := Lib.hid (OB.grown HB3.out kz (fun e => by have := Option.some.inj e; omega))
  have HGz := Lib.hid (grown_own HG3.out kz (fun b hb => by have := Option.some.inj hb; omega))
  clear oz kz
  go_wp2_with fail
  refine bodyPost_ret (v := .agg #[.int .i64 6, .string ⟨#[97]⟩, .string ⟨#[]⟩, .string ⟨#[]⟩, .slice none 0 0, .slice none 0 0, .int .i64 0, .int .i64 0, .slice none 0 0]) (by simp [results, Tryz.results226, go_sem, r0, r1, r2, r3, r4, r5, r6, r7, r8]) rfl ?_
  exact ⟨rfl, HBz.out, HGz.out⟩
set_option maxRecDepth 100000 in
set_option maxHeartbeats 2000000 in
theorem row_and (q : Nat) (w : World) (hb : PrA w q) : Calls Tryz.prog 182 #[.pointer (some ⟨q, 0, none⟩), .int .i64 3, .string ⟨#[97, 110, 100]⟩, .func (.func 226) #[.pointer (some ⟨q, 0, none⟩)] #[]] w (PrO w q) := by
  have HB := Lib.hid (show PrA (w.alloc (.cells #[.int .i64 0, .string ⟨#[]⟩, .string ⟨#[]⟩, .string ⟨#[]⟩, .slice none 0 0, .slice none 0 0, .int .i64 0, .int .i64 0, .slice none 0 0] 30)) q from OB.alloc hb _)
  have HG := Lib.hid (World.grownBy_alloc w (.cells #[.int .i64 0, .string ⟨#[]⟩, .string ⟨#[]⟩, .string ⟨#[]⟩, .slice none 0 0, .slice none 0 0, .int .i64 0, .int .i64 0, .slice none 0 0] 30) (some q))
  have HO := Lib.hid (OB.new w [.int .i64 0, .string ⟨#[]⟩, .string ⟨#[]⟩, .string ⟨#[]⟩, .slice none 0 0, .slice none 0 0, .int .i64 0, .int .i64 0, .slice none 0 0] 30)
  have hql := OB.lt hb
  clear hb
  go_enter Tryz.func182, Tryz.ntmps182
  go_wp2_with fail
  simp only [List.toArray] at HO
  generalize w.alloc (.cells _ 30) = w1 at *
  have HO1 := Lib.hid (show OB w1 w.heap.size [.int .i64 0, .string ⟨#[]⟩, .string ⟨#[]⟩, .string ⟨#[]⟩, .slice none 0 0, .slice none 0 0, .int .i64 0, .int .i64 0, .slice none 0 0] 30 from HO.out)
  clear HO
  obtain ⟨q0, hq0⟩ : ∃ z, w.heap.size = z := ⟨_, rfl⟩
  have hq1 := Nat.le_of_eq hq0
  rw [hq0] at HO1 hql ⊢
  clear hq0
  with_reducible refine (not_has q w1 HB.out).mono ?_
  rintro e w3 ⟨rfl, hB, hG⟩
  have HB3 := Lib.hid hB
  have HG3 := Lib.hid (grown_trans HG.out hG)
  have HO3 := Lib.hid (OB.grown HO1.out hG (fun e => by have := Option.some.inj e; omega))
  clear hB hG HB HG HO1
  have HB4 := Lib.hid (show PrZ (w3.alloc (.cells #[.int .i64 6, .string ⟨#[97]⟩, .string ⟨#[]⟩, .string ⟨#[]⟩, .slice none 0 0, .slice none 0 0, .int .i64 0, .int .i64 0, .slice none 0 0] 30)) q from OB.alloc HB3.out _)
  have HG4 := Lib.hid (grown_trans HG3.out (World.grownBy_alloc w3 (.cells #[.int .i64 6, .string ⟨#[97]⟩, .string ⟨#[]⟩, .string ⟨#[]⟩, .slice none 0 0, .slice none 0 0, .int .i64 0, .int .i64 0, .slice none 0 0] 30) (some q)))
  have HO4 := Lib.hid (HO3.out.alloc (.cells #[.int .i64 6, .string ⟨#[97]⟩, .string ⟨#[]⟩, .string ⟨#[]⟩, .slice none 0 0, .slice none 0 0, .int .i64 0, .int .i64 0, .slice none 0 0] 30))
  have HN := Lib.hid (OB.new w3 [.int .i64 6, .string ⟨#[97]⟩, .string ⟨#[]⟩, .string ⟨#[]⟩, .slice none 0 0, .slice none 0 0, .int .i64 0, .int .i64 0, .slice none 0 0] 30)
  clear HB3 HG3 HO3
  go_upto_block 0 with (fail)
  simp only [List.toArray] at HN
  generalize w3.alloc (.cells _ 30) = w4 at *
  have HN4 := Lib.hid (show OB w4 w3.heap.size [.int .i64 6, .string ⟨#[97]⟩, .string ⟨#[]⟩, .string ⟨#[]⟩, .slice none 0 0, .slice none 0 0, .int .i64 0, .int .i64 0, .slice none 0 0] 30 from HN.out)
  clear HN
  generalize w3.heap.size = q5 at *
  have NA := Lib.hid (take_no hsT q 5 0 5 ⟨#[]⟩ ⟨#[97, 110, 100]⟩ w4 HB4.out (.inl rfl) rfl)
  go_cut [9] (fun v wx => v = .slice (some ⟨q5, 0, none⟩) 1 1 ∧ w4 = wx)
  case first =>
    go_wp2_with fail
    go_loopw [9] (fun v wr => v = .slice (some ⟨q5, 0, none⟩) 1 1 ∧ w4 = wr) (fun _ _ => 0)
    case atStart => exact ⟨rfl, rfl⟩
    case round =>
      obtain ⟨rfl, rfl⟩ := hrel
      go_wp2_with fail
      with_reducible refine NA.out.mono ?_
      rintro e w2 ⟨rfl, rfl⟩
      go_wp2_with fail
      go_meet
      exact ⟨rfl, rfl⟩
  case rest =>
  obtain ⟨rfl, rfl⟩ := hcut
  have z0 := HN4.out.cell 0 _ rfl
  have z1 := HN4.out.cell 1 _ rfl
  have z2 := HN4.out.cell 2 _ rfl
  have z3 := HN4.out.cell 3 _ rfl
  have z4 := HN4.out.cell 4 _ rfl
  have z5 := HN4.out.cell 5 _ rfl
  have z6 := HN4.out.cell 6 _ rfl
  have z7 := HN4.out.cell 7 _ rfl
  have z8 := HN4.out.cell 8 _ rfl
  have zl := HN4.out.lt
  go_wp2_with (refine wpList_store_oc _ rfl _ _ _ rfl q0 _ [.int .i64 6, .string ⟨#[97]⟩, .string ⟨#[]⟩, .string ⟨#[]⟩, .slice none 0 0, .slice none 0 0, .int .i64 0, .int .i64 0, .slice none 0 0] _ rfl rfl HO4.out sizeCond rfl rfl ?_)
  intro wz oz kz
  have r0 := oz.cell 0 _ rfl
  have r1 := oz.cell 1 _ rfl
  have r2 := oz.cell 2 _ rfl
  have r3 := oz.cell 3 _ rfl
  have r4 := oz.cell 4 _ rfl
  have r5 := oz.cell 5 _ rfl
  have r6 := oz.cell 6 _ rfl
  have r7 := oz.cell 7 _ rfl
  have r8 := oz.cell 8 _ rfl
  have HBz := Lib.hid (OB.grown HB4.out kz (fun e => by have := Option.some.inj e; omega))
  have HGz := Lib.hid (grown_own HG4.out kz (fun b hb => by have := Option.some.inj hb; omega))
  clear oz kz
  go_wp2_with fail
  refine bodyPost_ret (v := .agg #[.int .i64 6, .string ⟨#[97]⟩, .string ⟨#[]⟩, .string ⟨#[]⟩, .slice none 0 0, .slice none 0 0, .int .i64 0, .int .i64 0, .slice none 0 0]) (by simp [results, Tryz.results182, go_sem, r0, r1, r2, r3, r4, r5, r6, r7, r8]) rfl ?_
  exact ⟨rfl, HBz.out, HGz.out⟩
set_option maxRecDepth 100000 in
set_option maxHeartbeats 1000000 in
theorem and_has (q : Nat) (w : World) (hb : PrA w q) : Calls Tryz.prog 183 #[.pointer (some ⟨q, 0, none⟩)] w (PrO w q) := by
  have HB := Lib.hid (show PrA (w.alloc (.cells #[.int .i64 0, .string ⟨#[]⟩, .string ⟨#[]⟩, .string ⟨#[]⟩, .slice none 0 0, .slice none 0 0, .int .i64 0, .int .i64 0, .slice none 0 0] 30)) q from OB.alloc hb _)
  have HG := Lib.hid (World.grownBy_alloc w (.cells #[.int .i64 0, .string ⟨#[]⟩, .string ⟨#[]⟩, .string ⟨#[]⟩, .slice none 0 0, .slice none 0 0, .int .i64 0, .int .i64 0, .slice none 0 0] 30) (some q))
  have HO := Lib.hid (OB.new w [.int .i64 0, .string ⟨#[]⟩, .string ⟨#[]⟩, .string ⟨#[]⟩, .slice none 0 0, .slice none 0 0, .int .i64 0, .int .i64 0, .slice none 0 0] 30)
  have hql := OB.lt hb
  clear hb
  go_enter Tryz.func183, Tryz.ntmps183
  go_wp2_with fail
  simp only [List.toArray] at HO
  generalize w.alloc (.cells _ 30) = w1 at *
  have HO1 := Lib.hid (show OB w1 w.heap.size [.int .i64 0, .string ⟨#[]⟩, .string ⟨#[]⟩, .string ⟨#[]⟩, .slice none 0 0, .slice none 0 0, .int .i64 0, .int .i64 0, .slice none 0 0] 30 from HO.out)
  clear HO
  obtain ⟨q0, hq0⟩ : ∃ z, w.heap.size = z := ⟨_, rfl⟩
  have hq1 := Nat.le_of_eq hq0
  rw [hq0] at HO1 hql ⊢
  clear hq0
  with_reducible refine (row_and q w1 HB.out).mono ?_
  rintro e w3 ⟨rfl, hB, hG⟩
  have HB3 := Lib.hid hB
  have HG3 := Lib.hid (grown_trans HG.out hG)
  have HO3 := Lib.hid (OB.grown HO1.out hG (fun e => by have := Option.some.inj e; omega))
  clear hB hG HB HG HO1
  go_wp2_with (refine wpList_store_oc _ rfl _ _ _ rfl q0 _ [.int .i64 6, .string ⟨#[97]⟩, .string ⟨#[]⟩, .string ⟨#[]⟩, .slice none 0 0, .slice none 0 0, .int .i64 0, .int .i64 0, .slice none 0 0] _ rfl rfl HO3.out sizeCond rfl rfl ?_)
  intro wz oz kz
  have r0 := oz.cell 0 _ rfl
  have r1 := oz.cell 1 _ rfl
  have r2 := oz.cell 2 _ rfl
  have r3 := oz.cell 3 _ rfl
  have r4 := oz.cell 4 _ rfl
  have r5 := oz.cell 5 _ rfl
  have r6 := oz.cell 6 _ rfl
  have r7 := oz.cell 7 _ rfl
  have r8 := oz.cell 8 _ rfl
  have HBz := Lib.hid (OB.grown HB3.out kz (fun e => by have := Option.some.inj e; omega))
  have HGz := Lib.hid (grown_own HG3.out kz (fun b hb => by have := Option.some.inj hb; omega))
  clear oz kz
  go_wp2_with fail
  refine bodyPost_ret (v := .agg #[.int .i64 6, .string ⟨#[97]⟩, .string ⟨#[]⟩, .string ⟨#[]⟩, .slice none 0 0, .slice none 0 0, .int .i64 0, .int .i64 0, .slice none 0 0]) (by simp [results, Tryz.results183, go_sem, r0, r1, r2, r3, r4, r5, r6, r7, r8]) rfl ?_
  exact ⟨rfl, HBz.out, HGz.out⟩
set_option maxRecDepth 100000 in
set_option maxHeartbeats 2000000 in
theorem row_or (q : Nat) (w : World) (hb : PrA w q) : Calls Tryz.prog 182 #[.pointer (some ⟨q, 0, none⟩), .int .i64 4, .string ⟨#[111, 114]⟩, .func (.func 183) #[.pointer (some ⟨q, 0, none⟩)] #[]] w (PrO w q) := by
  have HB := Lib.hid (show PrA (w.alloc (.cells #[.int .i64 0, .string ⟨#[]⟩, .string ⟨#[]⟩, .string ⟨#[]⟩, .slice none 0 0, .slice none 0 0, .int .i64 0, .int .i64 0, .slice none 0 0] 30)) q from OB.alloc hb _)
  have HG := Lib.hid (World.grownBy_alloc w (.cells #[.int .i64 0, .string ⟨#[]⟩, .string ⟨#[]⟩, .string ⟨#[]⟩, .slice none 0 0, .slice none 0 0, .int .i64 0, .int .i64 0, .slice none 0 0] 30) (some q))
  have HO := Lib.hid (OB.new w [.int .i64 0, .string ⟨#[]⟩, .string ⟨#[]⟩, .string ⟨#[]⟩, .slice none 0 0, .slice none 0 0, .int .i64 0, .int .i64 0, .slice none 0 0] 30)
  have hql := OB.lt hb
  clear hb
  go_enter Tryz.func182, Tryz.ntmps182
  go_wp2_with fail
  simp only [List.toArray] at HO
  generalize w.alloc (.cells _ 30) = w1 at *
  have HO1 := Lib.hid (show OB w1 w.heap.size [.int .i64 0, .string ⟨#[]⟩, .string ⟨#[]⟩, .string ⟨#[]⟩, .slice none 0 0, .slice none 0 0, .int .i64 0, .int .i64 0, .slice none 0 0] 30 from HO.out)
  clear HO
  obtain ⟨q0, hq0⟩ : ∃ z, w.heap.size = z := ⟨_, rfl⟩
  have hq1 := Nat.le_of_eq hq0
  rw [hq0] at HO1 hql ⊢
  clear hq0
  with_reducible refine (and_has q w1 HB.out).mono ?_
  rintro e w3 ⟨rfl, hB, hG⟩
  have HB3 := Lib.hid hB
  have HG3 := Lib.hid (grown_trans HG.out hG)
  have HO3 := Lib.hid (OB.grown HO1.out hG (fun e => by have := Option.some.inj e; omega))
  clear hB hG HB HG HO1
  have HB4 := Lib.hid (show PrZ (w3.alloc (.cells #[.int .i64 6, .string ⟨#[97]⟩, .string ⟨#[]⟩, .string ⟨#[]⟩, .slice none 0 0, .slice none 0 0, .int .i64 0, .int .i64 0, .slice none 0 0] 30)) q from OB.alloc HB3.out _)
  have HG4 := Lib.hid (grown_trans HG3.out (World.grownBy_alloc w3 (.cells #[.int .i64 6, .string ⟨#[97]⟩, .string ⟨#[]⟩, .string ⟨#[]⟩, .slice none 0 0, .slice none 0 0, .int .i64 0, .int .i64 0, .slice none 0 0] 30) (some q)))
  have HO4 := Lib.hid (HO3.out.alloc (.cells #[.int .i64 6, .string ⟨#[97]⟩, .string ⟨#[]⟩, .string ⟨#[]⟩, .slice none 0 0, .slice none 0 0, .int .i64 0, .int .i64 0, .slice none 0 0] 30))
  have HN := Lib.hid (OB.new w3 [.int .i64 6, .string ⟨#[97]⟩, .string ⟨#[]⟩, .string ⟨#[]⟩, .slice none 0 0, .slice none 0 0, .int .i64 0, .int .i64 0, .slice none 0 0] 30)
  clear HB3 HG3 HO3
  go_upto_block 0 with (fail)
  simp only [List.toArray] at HN
  generalize w3.alloc (.cells _ 30) = w4 at *
  have HN4 := Lib.hid (show OB w4 w3.heap.size [.int .i64 6, .string ⟨#[97]⟩, .string ⟨#[]⟩, .string ⟨#[]⟩, .slice none 0 0, .slice none 0 0, .int .i64 0, .int .i64 0, .slice none 0 0] 30 from HN.out)
  clear HN
  generalize w3.heap.size = q5 at *
  have NA := Lib.hid (take_no hsT q 5 0 5 ⟨#[]⟩ ⟨#[111, 114]⟩ w4 HB4.out (.inl rfl) rfl)
  go_cut [9] (fun v wx => v = .slice (some ⟨q5, 0, none⟩) 1 1 ∧ w4 = wx)
  case first =>
    go_wp2_with fail
    go_loopw [9] (fun v wr => v = .slice (some ⟨q5, 0, none⟩) 1 1 ∧ w4 = wr) (fun _ _ => 0)
    case atStart => exact ⟨rfl, rfl⟩
    case round =>
      obtain ⟨rfl, rfl⟩ := hrel
      go_wp2_with fail
      with_reducible refine NA.out.mono ?_
      rintro e w2 ⟨rfl, rfl⟩
      go_wp2_with fail
      go_meet
      exact ⟨rfl, rfl⟩
  case rest =>
  obtain ⟨rfl, rfl⟩ := hcut
  have z0 := HN4.out.cell 0 _ rfl
  have z1 := HN4.out.cell 1 _ rfl
  have z2 := HN4.out.cell 2 _ rfl
  have z3 := HN4.out.cell 3 _ rfl
  have z4 := HN4.out.cell 4 _ rfl
  have z5 := HN4.out.cell 5 _ rfl
  have z6 := HN4.out.cell 6 _ rfl
  have z7 := HN4.out.cell 7 _ rfl
  have z8 := HN4.out.cell 8 _ rfl
  have zl := HN4.out.lt
  go_wp2_with (refine wpList_store_oc _ rfl _ _ _ rfl q0 _ [.int .i64 6, .string ⟨#[97]⟩, .string ⟨#[]⟩, .string ⟨#[]⟩, .slice none 0 0, .slice none 0 0, .int .i64 0, .int .i64 0, .slice none 0 0] _ rfl rfl HO4.out sizeCond rfl rfl ?_)
  intro wz oz kz
  have r0 := oz.cell 0 _ rfl
  have r1 := oz.cell 1 _ rfl
  have r2 := oz.cell 2 _ rfl
  have r3 := oz.cell 3 _ rfl
  have r4 := oz.cell 4 _ rfl
  have r5 := oz.cell 5 _ rfl
  have r6 := oz.cell 6 _ rfl
  have r7 := oz.cell 7 _ rfl
  have r8 := oz.cell 8 _ rfl
  have HBz := Lib.hid (OB.grown HB4.out kz (fun e => by have := Option.some.inj e; omega))
  have HGz := Lib.hid (grown_own HG4.out kz (fun b hb => by have := Option.some.inj hb; omega))
  clear oz kz
  go_wp2_with fail
  refine bodyPost_ret (v := .agg #[.int .i64 6, .string ⟨#[97]⟩, .string ⟨#[]⟩, .string ⟨#[]⟩, .slice none 0 0, .slice none 0 0, .int .i64 0, .int .i64 0, .slice none 0 0]) (by simp [results, Tryz.results182, go_sem, r0, r1, r2, r3, r4, r5, r6, r7, r8]) rfl ?_
  exact ⟨rfl, HBz.out, HGz.out⟩
set_option maxRecDepth 100000 in
set_option maxHeartbeats 1000000 in
theorem or_has (q : Nat) (w : World) (hb : PrA w q) : Calls Tryz.prog 129 #[.pointer (some ⟨q, 0, none⟩)] w (PrO w q) := by
  have HB := Lib.hid (show PrA (w.alloc (.cells #[.int .i64 0, .string ⟨#[]⟩, .string ⟨#[]⟩, .string ⟨#[]⟩, .slice none 0 0, .slice none 0 0, .int .i64 0, .int .i64 0, .slice none 0 0] 30)) q from OB.alloc hb _)
  have HG := Lib.hid (World.grownBy_alloc w (.cells #[.int .i64 0, .string ⟨#[]⟩, .string ⟨#[]⟩, .string ⟨#[]⟩, .slice none 0 0, .slice none 0 0, .int .i64 0, .int .i64 0, .slice none 0 0] 30) (some q))
  have HO := Lib.hid (OB.new w [.int .i64 0, .string ⟨#[]⟩, .string ⟨#[]⟩, .string ⟨#[]⟩, .slice none 0 0, .slice none 0 0, .int .i64 0, .int .i64 0, .slice none 0 0] 30)
  have hql := OB.lt hb
  clear hb
  go_enter Tryz.func129, Tryz.ntmps129
  go_wp2_with fail
  simp only [List.toArray] at HO
  generalize w.alloc (.cells _ 30) = w1 at *
  have HO1 := Lib.hid (show OB w1 w.heap.size [.int .i64 0, .string ⟨#[]⟩, .string ⟨#[]⟩, .string ⟨#[]⟩, .slice none 0 0, .slice none 0 0, .int .i64 0, .int .i64 0, .slice none 0 0] 30 from HO.out)
  clear HO
  obtain ⟨q0, hq0⟩ : ∃ z, w.heap.size = z := ⟨_, rfl⟩
  have hq1 := Nat.le_of_eq hq0
  rw [hq0] at HO1 hql ⊢
  clear hq0
  with_reducible refine (row_or q w1 HB.out).mono ?_
  rintro e w3 ⟨rfl, hB, hG⟩
  have HB3 := Lib.hid hB
  have HG3 := Lib.hid (grown_trans HG.out hG)
  have HO3 := Lib.hid (OB.grown HO1.out hG (fun e => by have := Option.some.inj e; omega))
  clear hB hG HB HG HO1
  go_wp2_with (refine wpList_store_oc _ rfl _ _ _ rfl q0 _ [.int .i64 6, .string ⟨#[97]⟩, .string ⟨#[]⟩, .string ⟨#[]⟩, .slice none 0 0, .slice none 0 0, .int .i64 0, .int .i64 0, .slice none 0 0] _ rfl rfl HO3.out sizeCond rfl rfl ?_)
  intro wz oz kz
  have r0 := oz.cell 0 _ rfl
  have r1 := oz.cell 1 _ rfl
  have r2 := oz.cell 2 _ rfl
  have r3 := oz.cell 3 _ rfl
  have r4 := oz.cell 4 _ rfl
  have r5 := oz.cell 5 _ rfl
  have r6 := oz.cell 6 _ rfl
  have r7 := oz.cell 7 _ rfl
  have r8 := oz.cell 8 _ rfl
  have HBz := Lib.hid (OB.grown HB3.out kz (fun e => by have := Option.some.inj e; omega))
  have HGz := Lib.hid (grown_own HG3.out kz (fun b hb => by have := Option.some.inj hb; omega))
  clear oz kz
  go_wp2_with fail
  refine bodyPost_ret (v := .agg #[.int .i64 6, .string ⟨#[97]⟩, .string ⟨#[]⟩, .string ⟨#[]⟩, .slice none 0 0, .slice none 0 0, .int .i64 0, .int .i64 0, .slice none 0 0]) (by simp [results, Tryz.results129, go_sem, r0, r1, r2, r3, r4, r5, r6, r7, r8]) rfl ?_
  exact ⟨rfl, HBz.out, HGz.out⟩
end Go.Proofs.YtfdpfkdfglombaaGreatDoor
/- segment.Parse at "has a". -/
set_option linter.unusedVariables false
namespace Go.Proofs.YtfdpfkdfglombaaGreatDoor
open Go.RowKit

theorem catch_idle (a b c : Value) (w : World) :
    CallsD Tryz.prog 127 #[a, b, c] .returning w fun e u' w' => e = .returned (.tuple #[]) ∧ u' = .returning ∧ w' = w := by
  refine callsD_of_wpS Tryz.func127 rfl fun c₀ cs hu => ?_
  apply wpS_seq
  apply wpS_region
  simp [wpOpsS, go_sem, recoverD, hu, Tryz.ntmps127, Exit.thenS]
  apply wpS_seq
  apply wpS_region
  simp [wpOpsS, go_sem, recoverD, hu, Exit.thenS]
  refine wpS_cond (t := false) (by simp [Act.eval, Array.replicate]) ?_
  simp only [Bool.false_eq_true, if_false]
  refine wpS_of_wp (wp_skip ?_)
  cases c₀
  simp_all [bodyPostS, results, Tryz.results127]
/-- the condition "has a" -/
def hasC : Cn := .mk ⟨6, ⟨#[97]⟩, ⟨#[]⟩, ⟨#[]⟩, none, 0, [], none, 0, [], 0, 0, none, 0⟩ []
theorem hasC_ok : hasC.nd.ok := by
  unfold Nd.ok i64B maxLen hasC
  refine ⟨by decide, by decide, by decide, by decide, by decide, by decide, by decide, by decide, ?_, ?_⟩ <;> simp [Cn.nd]
theorem hasC_at (w : World) : TAt 1 w hasC :=
  ⟨hasC_ok, ⟨Nat.le_refl _, Nat.zero_le _, Nat.zero_le _⟩, RAt.nil _ _ _ _, RAt.nil _ _ _ _, RAt.nil _ _ _ _, fun x h => by cases h⟩
theorem hasC_E : cnE 1 hasC = 0 := by decide
theorem below_row {B q : Nat} {w w' : World} (k : w.grownBy w' (some q)) (hB : B ≤ q) (hs : B ≤ w.heap.size) : Below B w w' :=
  ⟨k.os, k.tape, k.output, k.size, fun i hi => k.block i (by omega) (fun e => by have := Option.some.inj e; omega)⟩
/-- what Parse leaves at "has a" -/
def PsO (w : World) (e : Ending) (w' : World) : Prop := e = .returned (.tuple #[.agg #[.int .i64 6, .string ⟨#[97]⟩, .string ⟨#[]⟩, .string ⟨#[]⟩, .slice none 0 0, .slice none 0 0, .int .i64 0, .int .i64 0, .slice none 0 0], .int .i64 0, .int .i64 0]) ∧ Below w.heap.size w w'
set_option maxRecDepth 100000 in
set_option maxHeartbeats 4000000 in
theorem parse_has (w : World) (hT : Tbs w) : Calls Tryz.prog 74 #[.string hsT] w (PsO w) := by
  have hmf : ∀ (fn : Fn) (first cap : Array Value) (w : World), (Instr.makeFunc fn first cap).run Tryz.prog w = .ok (.func fn first cap) w := fun _ _ _ _ => rfl
  have hsz : hsT.size = 5 := rfl
  have h2 := OB.new w [.int .i64 0, .string ⟨#[]⟩, .string ⟨#[]⟩, .string ⟨#[]⟩, .slice none 0 0, .slice none 0 0, .int .i64 0, .int .i64 0, .slice none 0 0] 30
  have h3 := OB.new (w.alloc (.cells #[.int .i64 0, .string ⟨#[]⟩, .string ⟨#[]⟩, .string ⟨#[]⟩, .slice none 0 0, .slice none 0 0, .int .i64 0, .int .i64 0, .slice none 0 0] 30)) [.int .i64 0] 3
  rw [World.size_alloc] at h3
  have h4 := OB.new ((w.alloc (.cells #[.int .i64 0, .string ⟨#[]⟩, .string ⟨#[]⟩, .string ⟨#[]⟩, .slice none 0 0, .slice none 0 0, .int .i64 0, .int .i64 0, .slice none 0 0] 30)).alloc (.cells #[.int .i64 0] 3)) [.int .i64 0] 37
  rw [World.size_alloc, World.size_alloc] at h4
  have hp := OB.new (((w.alloc (.cells #[.int .i64 0, .string ⟨#[]⟩, .string ⟨#[]⟩, .string ⟨#[]⟩, .slice none 0 0, .slice none 0 0, .int .i64 0, .int .i64 0, .slice none 0 0] 30)).alloc (.cells #[.int .i64 0] 3)).alloc (.cells #[.int .i64 0] 37)) (prL hsT 0 0 0 ⟨#[]⟩) 150
  rw [World.size_alloc, World.size_alloc, World.size_alloc] at hp
  have H2a := Lib.hid (show OB ((((w.alloc (.cells #[.int .i64 0, .string ⟨#[]⟩, .string ⟨#[]⟩, .string ⟨#[]⟩, .slice none 0 0, .slice none 0 0, .int .i64 0, .int .i64 0, .slice none 0 0] 30)).alloc (.cells #[.int .i64 0] 3)).alloc (.cells #[.int .i64 0] 37)).alloc (.cells #[.string hsT, .int .i64 0, .int .i64 0, .int .i64 0, .string ⟨#[]⟩] 150)) w.heap.size [.int .i64 0, .string ⟨#[]⟩, .string ⟨#[]⟩, .string ⟨#[]⟩, .slice none 0 0, .slice none 0 0, .int .i64 0, .int .i64 0, .slice none 0 0] 30 from ((h2.alloc _).alloc _).alloc _)
  have H3a := Lib.hid (show OB ((((w.alloc (.cells #[.int .i64 0, .string ⟨#[]⟩, .string ⟨#[]⟩, .string ⟨#[]⟩, .slice none 0 0, .slice none 0 0, .int .i64 0, .int .i64 0, .slice none 0 0] 30)).alloc (.cells #[.int .i64 0] 3)).alloc (.cells #[.int .i64 0] 37)).alloc (.cells #[.string hsT, .int .i64 0, .int .i64 0, .int .i64 0, .string ⟨#[]⟩] 150)) (w.heap.size + 1) [.int .i64 0] 3 from (h3.alloc _).alloc _)
  have H4a := Lib.hid (show OB ((((w.alloc (.cells #[.int .i64 0, .string ⟨#[]⟩, .string ⟨#[]⟩, .string ⟨#[]⟩, .slice none 0 0, .slice none 0 0, .int .i64 0, .int .i64 0, .slice none 0 0] 30)).alloc (.cells #[.int .i64 0] 3)).alloc (.cells #[.int .i64 0] 37)).alloc (.cells #[.string hsT, .int .i64 0, .int .i64 0, .int .i64 0, .string ⟨#[]⟩] 150)) (w.heap.size + 1 + 1) [.int .i64 0] 37 from h4.alloc _)
  have HPa := Lib.hid (show PrB ((((w.alloc (.cells #[.int .i64 0, .string ⟨#[]⟩, .string ⟨#[]⟩, .string ⟨#[]⟩, .slice none 0 0, .slice none 0 0, .int .i64 0, .int .i64 0, .slice none 0 0] 30)).alloc (.cells #[.int .i64 0] 3)).alloc (.cells #[.int .i64 0] 37)).alloc (.cells #[.string hsT, .int .i64 0, .int .i64 0, .int .i64 0, .string ⟨#[]⟩] 150)) (w.heap.size + 1 + 1 + 1) hsT 0 0 0 ⟨#[]⟩ from hp)
  have HBa := Lib.hid (show Below w.heap.size w ((((w.alloc (.cells #[.int .i64 0, .string ⟨#[]⟩, .string ⟨#[]⟩, .string ⟨#[]⟩, .slice none 0 0, .slice none 0 0, .int .i64 0, .int .i64 0, .slice none 0 0] 30)).alloc (.cells #[.int .i64 0] 3)).alloc (.cells #[.int .i64 0] 37)).alloc (.cells #[.string hsT, .int .i64 0, .int .i64 0, .int .i64 0, .string ⟨#[]⟩] 150)) from ((((Below.refl _ _).alloc (Nat.le_refl _) _).alloc (by simp [World.size_alloc]) _).alloc (by simp [World.size_alloc]; omega) _).alloc (by simp [World.size_alloc]; omega) _)
  have HT := Lib.hid hT
  clear hT h2 h3 h4 hp
  go_enter_defers Tryz.func74, Tryz.ntmps74
  go_wp2_with fail
  generalize ((((w.alloc (.cells #[.int .i64 0, .string ⟨#[]⟩, .string ⟨#[]⟩, .string ⟨#[]⟩, .slice none 0 0, .slice none 0 0, .int .i64 0, .int .i64 0, .slice none 0 0] 30)).alloc (.cells #[.int .i64 0] 3)).alloc (.cells #[.int .i64 0] 37)).alloc (.cells #[.string hsT, .int .i64 0, .int .i64 0, .int .i64 0, .string ⟨#[]⟩] 150)) = w4 at *
  have C1 := Lib.hid (scanA (w.heap.size + 1 + 1 + 1) w4 HPa.out)
  with_reducible refine C1.out.mono ?_
  rintro e w5 ⟨rfl, hA, g1⟩
  clear C1 HPa
  have H2b := Lib.hid (OB.grown H2a.out g1 (fun e => by have := Option.some.inj e; omega))
  have H3b := Lib.hid (OB.grown H3a.out g1 (fun e => by have := Option.some.inj e; omega))
  have H4b := Lib.hid (OB.grown H4a.out g1 (fun e => by have := Option.some.inj e; omega))
  have HBb := Lib.hid (HBa.out.trans (below_row g1 (by omega) HBa.out.size))
  have C2 := Lib.hid (or_has (w.heap.size + 1 + 1 + 1) w5 hA)
  clear g1 hA H2a H3a H4a HBa
  go_wp2_with fail
  with_reducible refine C2.out.mono ?_
  rintro e w6 ⟨rfl, hZ, g2⟩
  have H2c := Lib.hid (OB.grown H2b.out g2 (fun e => by have := Option.some.inj e; omega))
  have H3c := Lib.hid (OB.grown H3b.out g2 (fun e => by have := Option.some.inj e; omega))
  have H4c := Lib.hid (OB.grown H4b.out g2 (fun e => by have := Option.some.inj e; omega))
  have HBc := Lib.hid (HBb.out.trans (below_row g2 (by omega) HBb.out.size))
  have HZc := Lib.hid hZ
  clear g2 hZ C2 H2b H3b H4b HBb
  go_wp2_with (refine wpList_store_oc _ rfl _ _ _ rfl w.heap.size _ [.int .i64 6, .string ⟨#[97]⟩, .string ⟨#[]⟩, .string ⟨#[]⟩, .slice none 0 0, .slice none 0 0, .int .i64 0, .int .i64 0, .slice none 0 0] _ rfl rfl H2c.out sizeCond rfl rfl ?_)
  intro w7 o7 k7
  have HZd := Lib.hid (OB.grown HZc.out k7 (fun e => by have := Option.some.inj e; omega))
  have H3d := Lib.hid (OB.grown H3c.out k7 (fun e => by have := Option.some.inj e; omega))
  have H4d := Lib.hid (OB.grown H4c.out k7 (fun e => by have := Option.some.inj e; omega))
  have HBd := Lib.hid (HBc.out.trans (below_row k7 (Nat.le_refl _) HBc.out.size))
  have H2d := Lib.hid o7
  clear o7 k7 HZc H2c H3c H4c HBc
  have r0 := OB.cell H2d.out 0 _ rfl
  have r1 := OB.cell H2d.out 1 _ rfl
  have r2 := OB.cell H2d.out 2 _ rfl
  have r3 := OB.cell H2d.out 3 _ rfl
  have r4 := OB.cell H2d.out 4 _ rfl
  have r5 := OB.cell H2d.out 5 _ rfl
  have r6 := OB.cell H2d.out 6 _ rfl
  have r7 := OB.cell H2d.out 7 _ rfl
  have r8 := OB.cell H2d.out 8 _ rfl
  have rl := OB.lt H2d.out
  have y2 := OB.cell HZd.out 2 (.int .i64 0) rfl
  have yl := OB.lt HZd.out
  have C3 : Hid (Calls Tryz.prog 35 #[.agg #[.int .i64 6, .string ⟨#[97]⟩, .string ⟨#[]⟩, .string ⟨#[]⟩, .slice none 0 0, .slice none 0 0, .int .i64 0, .int .i64 0, .slice none 0 0]] w7 (IntO w7 0)) := Lib.hid (by rw [← hasC_E]; exact checkCond_any 1 hasC w7 (hasC_at _) (HT.out.below HBd.out))
  go_wp2_with fail
  with_reducible refine C3.out.mono ?_
  rintro e w8 ⟨rfl, b8⟩
  have H2e := Lib.hid (OB.below H2d.out b8)
  have H3e := Lib.hid (OB.below H3d.out b8)
  have H4e := Lib.hid (OB.below H4d.out b8)
  have HBe := Lib.hid (HBd.out.trans (b8.mono HBd.out.size))
  clear b8 C3 HZd H2d H3d H4d HBd r0 r1 r2 r3 r4 r5 r6 r7 r8 rl y2 yl
  have r0 := OB.cell H2e.out 0 _ rfl
  have r1 := OB.cell H2e.out 1 _ rfl
  have r2 := OB.cell H2e.out 2 _ rfl
  have r3 := OB.cell H2e.out 3 _ rfl
  have r4 := OB.cell H2e.out 4 _ rfl
  have r5 := OB.cell H2e.out 5 _ rfl
  have r6 := OB.cell H2e.out 6 _ rfl
  have r7 := OB.cell H2e.out 7 _ rfl
  have r8 := OB.cell H2e.out 8 _ rfl
  have rl := OB.lt H2e.out
  go_wp2_with (refine wpList_store_oc _ rfl _ _ _ rfl w.heap.size _ [.int .i64 6, .string ⟨#[97]⟩, .string ⟨#[]⟩, .string ⟨#[]⟩, .slice none 0 0, .slice none 0 0, .int .i64 0, .int .i64 0, .slice none 0 0] _ rfl rfl H2e.out sizeCond rfl rfl ?_)
  intro w9 o9 k9
  have H3f := Lib.hid (OB.grown H3e.out k9 (fun e => by have := Option.some.inj e; omega))
  have H4f := Lib.hid (OB.grown H4e.out k9 (fun e => by have := Option.some.inj e; omega))
  have HBf := Lib.hid (HBe.out.trans (below_row k9 (Nat.le_refl _) HBe.out.size))
  have H2f := Lib.hid o9
  clear o9 k9 H2e H3e H4e HBe r0 r1 r2 r3 r4 r5 r6 r7 r8 rl
  have r0 := OB.cell H2f.out 0 _ rfl
  have r1 := OB.cell H2f.out 1 _ rfl
  have r2 := OB.cell H2f.out 2 _ rfl
  have r3 := OB.cell H2f.out 3 _ rfl
  have r4 := OB.cell H2f.out 4 _ rfl
  have r5 := OB.cell H2f.out 5 _ rfl
  have r6 := OB.cell H2f.out 6 _ rfl
  have r7 := OB.cell H2f.out 7 _ rfl
  have r8 := OB.cell H2f.out 8 _ rfl
  have c3 := OB.cell H3f.out 0 _ rfl
  have z3 := OB.free H3f.out 0
  have l3 := OB.lt H3f.out
  have c4 := OB.cell H4f.out 0 _ rfl
  have z4 := OB.free H4f.out 0
  have l4 := OB.lt H4f.out
  go_wp2_with fail
  refine leaves_cons (f := 127) (args := #[.pointer (some ⟨w.heap.size, 0, none⟩), .pointer (some ⟨(w.heap.size + 1), 0, none⟩), .pointer (some ⟨(w.heap.size + 1 + 1), 0, none⟩)]) (by simp) (by simp [go_sem]) ?_
  refine (catch_idle _ _ _ _).mono ?_
  rintro e u' w'' ⟨rfl, rfl, rfl⟩
  have g10 := Lib.hid ((HBf.out.trans (below_row (grown_setc w9 (w.heap.size + 1) 0 (.int .i64 0)) (by omega) HBf.out.size)).trans (below_row (grown_setc (w9.setCell ⟨(w.heap.size + 1), 0, none⟩ (.int .i64 0)) (w.heap.size + 1 + 1) 0 (.int .i64 0)) (by omega) (by have := HBf.out.size; simp [World.setCell]; omega)))
  simp [Leaves, settle, results, Tryz.results74, go_sem, r0, r1, r2, r3, r4, r5, r6, r7, r8, c3, c4]
  exact ⟨rfl, g10.out⟩
end Go.Proofs.YtfdpfkdfglombaaGreatDoor
/- The record {a: flag} is right, and a is found in it. -/
set_option linter.unusedVariables false
namespace Go.Proofs.YtfdpfkdfglombaaGreatDoor
open Go.RowKit

def fdL : List Value := [.string ⟨#[97]⟩, .int .i64 3, .string ⟨#[]⟩, .int .i64 1]
theorem nan_any (s : ByteArray) (w : World) : Calls Tryz.prog 196 #[.string s] w fun e w' => e = .returned (.bool false) ∧ w = w' := by
  go_enter Tryz.func196, Tryz.ntmps196
  go_wp2
  go_ret
  exact ⟨ret_bool (by simp), rfl⟩
theorem cmp_a (w : World) : Calls Tryz.prog 151 #[.string ⟨#[97]⟩, .string ⟨#[97]⟩] w fun e w' => e = .returned (.int .i64 0) ∧ w = w' := by
  go_enter Tryz.func151, Tryz.ntmps151
  go_wp2_with fail
  with_reducible refine (nan_any _ _).mono ?_
  rintro e w1 ⟨rfl, rfl⟩
  go_wp2_with fail
  with_reducible refine (nan_any _ _).mono ?_
  rintro e w1 ⟨rfl, rfl⟩
  go_wp2
  go_ret
  exact ⟨rfl, rfl⟩
set_option maxHeartbeats 1000000 in
theorem find1_a (w : World) : Calls Tryz.prog 232 #[.agg #[.string ⟨#[97]⟩, .int .i64 3, .string ⟨#[]⟩, .int .i64 1], .string ⟨#[97]⟩] w fun e w' => e = .returned (.int .i64 0) ∧ Below w.heap.size w w' := by
  have HB := Lib.hid ((Below.refl w.heap.size w).alloc (Nat.le_refl _) (.cells #[.string ⟨#[97]⟩, .int .i64 3, .string ⟨#[]⟩, .int .i64 1] 74))
  go_enter Tryz.func232, Tryz.ntmps232
  go_wp2_with fail
  with_reducible refine (cmp_a _).mono ?_
  rintro e w1 ⟨rfl, rfl⟩
  go_wp2_with fail
  go_ret
  exact ⟨rfl, HB.out⟩
set_option maxHeartbeats 1000000 in
theorem bsf_a (h : Nat) (w : World) (ho : OB w h fdL 74) : Calls Tryz.prog 231 #[.slice (some ⟨h, 0, none⟩) 1 1, .string ⟨#[97]⟩, .func (.func 232) #[] #[]] w fun e w' => e = .returned (.tuple #[.int .i64 0, .bool true]) ∧ Below w.heap.size w w' := by
  have HO := Lib.hid ho
  have y0 := ho.cell 0 _ rfl
  have y1 := ho.cell 1 _ rfl
  have y2 := ho.cell 2 _ rfl
  have y3 := ho.cell 3 _ rfl
  have yl := ho.lt
  clear ho
  go_enter Tryz.func231, Tryz.ntmps231
  go_upto_block 0 with (fail)
  go_cut [9] (fun v wx => v = .int .i64 0 ∧ Below w.heap.size w wx)
  case first =>
    go_wp2_with fail
    go_loopw [9, 10] (fun v u wr => v = .int .i64 0 ∧ ((u = .int .i64 1 ∧ wr = w) ∨ (u = .int .i64 0 ∧ Below w.heap.size w wr))) (fun _ u _ => (intOf u).toNat)
    case atStart => exact ⟨rfl, .inl ⟨rfl, rfl⟩⟩
    case round =>
      obtain ⟨rfl, ⟨rfl, rfl⟩ | ⟨rfl, hb⟩⟩ := hrel
      · go_wp2_with fail
        with_reducible refine (find1_a _).mono ?_
        rintro e w1 ⟨rfl, hb⟩
        go_wp2_with fail
        go_roundw
        case rel => exact ⟨rfl, .inr ⟨rfl, hb⟩⟩
        case measure => simp [intOf]
      · go_wp2_with fail
        go_meet
        exact ⟨rfl, hb⟩
  case rest =>
  obtain ⟨rfl, hb⟩ := hcut
  have HO2 := Lib.hid (HO.out.below hb)
  clear HO y0 y1 y2 y3 yl
  have y0 := HO2.out.cell 0 _ rfl
  have y1 := HO2.out.cell 1 _ rfl
  have y2 := HO2.out.cell 2 _ rfl
  have y3 := HO2.out.cell 3 _ rfl
  have yl := HO2.out.lt
  have HB := Lib.hid hb
  clear hb
  go_wp2_with fail
  with_reducible refine (find1_a _).mono ?_
  rintro e w1 ⟨rfl, hb1⟩
  have HB1 := Lib.hid (HB.out.trans (hb1.mono HB.out.size))
  clear hb1
  go_wp2_with fail
  go_ret2
  exact ⟨rfl, HB1.out⟩
set_option maxHeartbeats 1000000 in
theorem checkFields_a (h : Nat) (w : World) (hT : Tbs w) (ho : OB w h fdL 74) : Calls Tryz.prog 227 #[.slice (some ⟨h, 0, none⟩) 1 1] w (IntO w 0) := by
  have y0 := ho.cell 0 _ rfl
  have y1 := ho.cell 1 _ rfl
  have y2 := ho.cell 2 _ rfl
  have y3 := ho.cell 3 _ rfl
  have yl := ho.lt
  have HT := Lib.hid hT
  clear ho hT
  go_enter Tryz.func227, Tryz.ntmps227
  go_upto_block 0 with (fail)
  go_cut [] (fun wx => Below w.heap.size w wx)
  case first =>
    go_wp2_with fail
    go_loopw [11] (fun u wr => (u = .int .i64 0 ∧ wr = w) ∨ (u = .int .i64 1 ∧ Below w.heap.size w wr)) (fun u _ => 1 - (intOf u).toNat)
    case atStart => exact .inl ⟨rfl, rfl⟩
    case round =>
      obtain ⟨rfl, rfl⟩ | ⟨rfl, hb⟩ := hrel
      · have CK : Hid (∀ w, Calls Tryz.prog 78 #[.string ⟨#[97]⟩] w fun e w' => e = .returned (.bool true) ∧ w = w') := Lib.hid (fun w => by
          have := isKey_any ⟨#[97]⟩ w (by decide)
          rw [show keyB ⟨#[97]⟩ = true by decide] at this
          exact this)
        have CV : Hid (∀ w, Tbs w → Calls Tryz.prog 141 #[.agg #[.int .i64 3, .string ⟨#[]⟩, .int .i64 1]] w (IntO w 0)) := Lib.hid (fun w h => by
          have := checkValue_any ⟨3, ⟨#[]⟩, 1⟩ w ⟨by unfold i64B; decide, by decide, by unfold i64B; decide⟩ h
          rw [show vlE ⟨3, ⟨#[]⟩, 1⟩ = 0 by decide] at this
          exact this)
        have HTa := Lib.hid (HT.out.alloc (.cells #[.string ⟨#[97]⟩, .int .i64 3, .string ⟨#[]⟩, .int .i64 1] 74))
        have HBa := Lib.hid ((Below.refl wr.heap.size wr).alloc (Nat.le_refl _) (.cells #[.string ⟨#[97]⟩, .int .i64 3, .string ⟨#[]⟩, .int .i64 1] 74))
        go_wp2_with fail
        with_reducible refine (CK.out _).mono ?_
        rintro e w1 ⟨rfl, rfl⟩
        go_wp2_with fail
        with_reducible refine (CV.out _ HTa.out).mono ?_
        rintro e w1 ⟨rfl, hb1⟩
        have HB1 := Lib.hid (HBa.out.trans (hb1.mono HBa.out.size))
        clear hb1 HTa HBa CK CV
        go_upto_region 11 with (fail)
        go_quiet (fail)
        go_wp2_with fail
        go_roundw
        case rel => exact .inr ⟨rfl, ⟨HB1.out.os, HB1.out.tape, HB1.out.output, HB1.out.size, HB1.out.block⟩⟩
        case measure => simp [intOf]
      · go_wp2_with fail
        go_meet
        exact hb
  case rest =>
  have HB := Lib.hid hcut
  go_wp2_with fail
  go_ret
  exact ⟨rfl, HB.out⟩
end Go.Proofs.YtfdpfkdfglombaaGreatDoor
/- segment.Holds at "has a" and {a: flag}; handlaw1.segments (printed by gen_seg.py). -/
set_option linter.unusedVariables false
namespace Go.Proofs.YtfdpfkdfglombaaGreatDoor
open Go.RowKit

set_option maxRecDepth 100000 in
set_option maxHeartbeats 1000000 in
theorem find_a (h : Nat) (w : World) (ho : OB w h fdL 74) : Calls Tryz.prog 188 #[.slice (some ⟨h, 0, none⟩) 1 1, .string ⟨#[97]⟩] w fun e w' => e = .returned (.tuple #[.agg #[.int .i64 3, .string ⟨#[]⟩, .int .i64 1], .bool true]) ∧ Below w.heap.size w w' := by
  have HO := Lib.hid (ho.alloc (.cells #[.int .i64 0, .string ⟨#[]⟩, .int .i64 0] 72))
  have HN := Lib.hid (show OB (w.alloc (.cells #[.int .i64 0, .string ⟨#[]⟩, .int .i64 0] 72)) w.heap.size [.int .i64 0, .string ⟨#[]⟩, .int .i64 0] 72 from OB.new w [.int .i64 0, .string ⟨#[]⟩, .int .i64 0] 72)
  have HB := Lib.hid ((Below.refl w.heap.size w).alloc (Nat.le_refl _) (.cells #[.int .i64 0, .string ⟨#[]⟩, .int .i64 0] 72))
  have hl := ho.lt
  clear ho
  go_enter Tryz.func188, Tryz.ntmps188
  go_wp2_with fail
  generalize w.alloc (.cells #[.int .i64 0, .string ⟨#[]⟩, .int .i64 0] 72) = w1 at *
  have C := Lib.hid (bsf_a h w1 HO.out)
  with_reducible refine C.out.mono ?_
  rintro e w2 ⟨rfl, b2⟩
  have HO2 := Lib.hid (HO.out.below b2)
  have HN2 := Lib.hid (HN.out.below b2)
  have HB2 := Lib.hid (HB.out.trans (b2.mono HB.out.size))
  clear b2 C HO HN HB
  have y0 := HO2.out.cell 0 _ rfl
  have y1 := HO2.out.cell 1 _ rfl
  have y2 := HO2.out.cell 2 _ rfl
  have y3 := HO2.out.cell 3 _ rfl
  have yl := HO2.out.lt
  go_wp2_with (refine wpList_store_oc _ rfl _ _ _ rfl w.heap.size _ [.int .i64 3, .string ⟨#[]⟩, .int .i64 1] _ rfl rfl HN2.out sizeValue rfl rfl ?_)
  intro wz oz kz
  have r0 := oz.cell 0 _ rfl
  have r1 := oz.cell 1 _ rfl
  have r2 := oz.cell 2 _ rfl
  have HBz := Lib.hid (HB2.out.trans (below_row kz (Nat.le_refl _) HB2.out.size))
  clear oz kz y0 y1 y2 y3 yl HO2 HN2
  go_wp2_with fail
  refine bodyPost_ret (v := .tuple #[.agg #[.int .i64 3, .string ⟨#[]⟩, .int .i64 1], .bool true]) (by simp [results, Tryz.results188, go_sem, r0, r1, r2]) rfl ?_
  exact ⟨rfl, HBz.out⟩
set_option maxRecDepth 100000 in
set_option maxHeartbeats 1000000 in
theorem sw_610 (w : World) : Calls Tryz.prog 79 #[.int .i64 6, .int .i64 6, .int .i64 10] w fun e w' => e = .returned (.bool true) ∧ w = w' := by
  go_enter Tryz.func79, Tryz.ntmps79
  go_wp2
  go_ret
  exact ⟨rfl, rfl⟩
set_option maxRecDepth 100000 in
set_option maxHeartbeats 1000000 in
theorem sw_0 (w : World) : Calls Tryz.prog 79 #[.int .i64 0, .int .i64 0, .int .i64 4321439] w fun e w' => e = .returned (.bool true) ∧ w = w' := by
  go_enter Tryz.func79, Tryz.ntmps79
  go_wp2
  go_ret
  exact ⟨rfl, rfl⟩
set_option maxRecDepth 100000 in
set_option maxHeartbeats 1000000 in
theorem ofRec_a (w : World) : Calls Tryz.prog 53 #[.agg #[.int .i64 6, .string ⟨#[97]⟩, .string ⟨#[]⟩, .string ⟨#[]⟩, .slice none 0 0, .slice none 0 0, .int .i64 0, .int .i64 0, .slice none 0 0]] w fun e w' => e = .returned (.bool true) ∧ Below w.heap.size w w' := by
  have HB := Lib.hid ((Below.refl w.heap.size w).alloc (Nat.le_refl _) (.cells #[.int .i64 6, .string ⟨#[97]⟩, .string ⟨#[]⟩, .string ⟨#[]⟩, .slice none 0 0, .slice none 0 0, .int .i64 0, .int .i64 0, .slice none 0 0] 30))
  go_enter Tryz.func53, Tryz.ntmps53
  go_wp2_with fail
  with_reducible refine (sw_610 _).mono ?_
  rintro e w1 ⟨rfl, rfl⟩
  go_wp2_with fail
  go_ret
  exact ⟨rfl, HB.out⟩
set_option maxRecDepth 100000 in
set_option maxHeartbeats 1000000 in
theorem ofField_a (h : Nat) (w : World) (ho : OB w h fdL 74) : Calls Tryz.prog 185 #[.agg #[.int .i64 6, .string ⟨#[97]⟩, .string ⟨#[]⟩, .string ⟨#[]⟩, .slice none 0 0, .slice none 0 0, .int .i64 0, .int .i64 0, .slice none 0 0], .slice (some ⟨h, 0, none⟩) 1 1] w fun e w' => e = .returned (.bool true) ∧ Below w.heap.size w w' := by
  have HO := Lib.hid (ho.alloc (.cells #[.int .i64 6, .string ⟨#[97]⟩, .string ⟨#[]⟩, .string ⟨#[]⟩, .slice none 0 0, .slice none 0 0, .int .i64 0, .int .i64 0, .slice none 0 0] 30))
  have HN := Lib.hid (show OB (w.alloc (.cells #[.int .i64 6, .string ⟨#[97]⟩, .string ⟨#[]⟩, .string ⟨#[]⟩, .slice none 0 0, .slice none 0 0, .int .i64 0, .int .i64 0, .slice none 0 0] 30)) w.heap.size [.int .i64 6, .string ⟨#[97]⟩, .string ⟨#[]⟩, .string ⟨#[]⟩, .slice none 0 0, .slice none 0 0, .int .i64 0, .int .i64 0, .slice none 0 0] 30 from OB.new w [.int .i64 6, .string ⟨#[97]⟩, .string ⟨#[]⟩, .string ⟨#[]⟩, .slice none 0 0, .slice none 0 0, .int .i64 0, .int .i64 0, .slice none 0 0] 30)
  have HB := Lib.hid ((Below.refl w.heap.size w).alloc (Nat.le_refl _) (.cells #[.int .i64 6, .string ⟨#[97]⟩, .string ⟨#[]⟩, .string ⟨#[]⟩, .slice none 0 0, .slice none 0 0, .int .i64 0, .int .i64 0, .slice none 0 0] 30))
  clear ho
  go_enter Tryz.func185, Tryz.ntmps185
  go_wp2_with fail
  generalize w.alloc (.cells #[.int .i64 6, .string ⟨#[97]⟩, .string ⟨#[]⟩, .string ⟨#[]⟩, .slice none 0 0, .slice none 0 0, .int .i64 0, .int .i64 0, .slice none 0 0] 30) = w1 at *
  have C := Lib.hid (find_a h w1 HO.out)
  with_reducible refine C.out.mono ?_
  rintro e w2 ⟨rfl, b2⟩
  have HN2 := Lib.hid ((HN.out.below b2).alloc (.cells #[.int .i64 3, .string ⟨#[]⟩, .int .i64 1] 72))
  have HB2 := Lib.hid ((HB.out.trans (b2.mono HB.out.size)).alloc (Nat.le_trans HB.out.size b2.size) (.cells #[.int .i64 3, .string ⟨#[]⟩, .int .i64 1] 72))
  clear b2 C HO HN HB
  have y0 := HN2.out.cell 0 _ rfl
  have yl := HN2.out.lt
  go_wp2_with fail
  go_ret
  exact ⟨rfl, HB2.out⟩
set_option maxRecDepth 100000 in
set_option maxHeartbeats 1000000 in
theorem check_nil (w : World) : Calls Tryz.prog 228 #[.slice none 0 0] w (IntO w 0) := by
  have hmm := @run_makeMap Tryz.prog
  go_enter Tryz.func228, Tryz.ntmps228
  go_upto_block 0 with (fail)
  go_cut [] (fun wx => Below w.heap.size w wx)
  case first =>
    go_wp2_with fail
    go_loopw [13] (fun u wr => u = .int .i64 0 ∧ Below w.heap.size w wr) (fun _ _ => 0)
    case atStart => exact ⟨rfl, (Below.refl w.heap.size w).alloc (Nat.le_refl _) _⟩
    case round =>
      obtain ⟨rfl, hb⟩ := hrel
      go_wp2_with fail
      go_meet
      exact hb
  case rest =>
  have HB := Lib.hid hcut
  go_wp2_with fail
  go_ret
  exact ⟨rfl, HB.out⟩
set_option maxRecDepth 100000 in
set_option maxHeartbeats 1000000 in
theorem checkFor_a (h : Nat) (w : World) (ho : OB w h fdL 74) (hT : Tbs w) : Calls Tryz.prog 184 #[.agg #[.int .i64 6, .string ⟨#[97]⟩, .string ⟨#[]⟩, .string ⟨#[]⟩, .slice none 0 0, .slice none 0 0, .int .i64 0, .int .i64 0, .slice none 0 0], .slice (some ⟨h, 0, none⟩) 1 1, .slice none 0 0] w (IntO w 0) := by
  have CC : Hid (∀ w, Tbs w → Calls Tryz.prog 35 #[.agg #[.int .i64 6, .string ⟨#[97]⟩, .string ⟨#[]⟩, .string ⟨#[]⟩, .slice none 0 0, .slice none 0 0, .int .i64 0, .int .i64 0, .slice none 0 0]] w (IntO w 0)) := Lib.hid (fun w h => by rw [← hasC_E]; exact checkCond_any 1 hasC w (hasC_at _) h)
  have HO1 := Lib.hid (ho.alloc (.cells #[.int .i64 6, .string ⟨#[97]⟩, .string ⟨#[]⟩, .string ⟨#[]⟩, .slice none 0 0, .slice none 0 0, .int .i64 0, .int .i64 0, .slice none 0 0] 30))
  have HT1 := Lib.hid (hT.alloc (.cells #[.int .i64 6, .string ⟨#[97]⟩, .string ⟨#[]⟩, .string ⟨#[]⟩, .slice none 0 0, .slice none 0 0, .int .i64 0, .int .i64 0, .slice none 0 0] 30))
  have HB1 := Lib.hid ((Below.refl w.heap.size w).alloc (Nat.le_refl _) (.cells #[.int .i64 6, .string ⟨#[97]⟩, .string ⟨#[]⟩, .string ⟨#[]⟩, .slice none 0 0, .slice none 0 0, .int .i64 0, .int .i64 0, .slice none 0 0] 30))
  have HN1 := Lib.hid (show OB (w.alloc (.cells #[.int .i64 6, .string ⟨#[97]⟩, .string ⟨#[]⟩, .string ⟨#[]⟩, .slice none 0 0, .slice none 0 0, .int .i64 0, .int .i64 0, .slice none 0 0] 30)) w.heap.size [.int .i64 6, .string ⟨#[97]⟩, .string ⟨#[]⟩, .string ⟨#[]⟩, .slice none 0 0, .slice none 0 0, .int .i64 0, .int .i64 0, .slice none 0 0] 30 from OB.new w [.int .i64 6, .string ⟨#[97]⟩, .string ⟨#[]⟩, .string ⟨#[]⟩, .slice none 0 0, .slice none 0 0, .int .i64 0, .int .i64 0, .slice none 0 0] 30)
  clear ho hT
  go_enter Tryz.func184, Tryz.ntmps184
  go_upto_region 1 with (fail)
  generalize w.alloc (.cells #[.int .i64 6, .string ⟨#[97]⟩, .string ⟨#[]⟩, .string ⟨#[]⟩, .slice none 0 0, .slice none 0 0, .int .i64 0, .int .i64 0, .slice none 0 0] 30) = w1 at *
  have y0 := HN1.out.cell 0 _ rfl
  have y1 := HN1.out.cell 1 _ rfl
  have y2 := HN1.out.cell 2 _ rfl
  have y3 := HN1.out.cell 3 _ rfl
  have y4 := HN1.out.cell 4 _ rfl
  have y5 := HN1.out.cell 5 _ rfl
  have y6 := HN1.out.cell 6 _ rfl
  have y7 := HN1.out.cell 7 _ rfl
  have y8 := HN1.out.cell 8 _ rfl
  have yl := HN1.out.lt
  go_wp2_with fail
  have C := Lib.hid (CC.out w1 HT1.out)
  with_reducible refine C.out.mono ?_
  rintro e w2 ⟨rfl, b⟩
  have HO2 := Lib.hid (HO1.out.below b)
  have HT2 := Lib.hid (HT1.out.below b)
  have HB2 := Lib.hid (HB1.out.trans (b.mono HB1.out.size))
  clear b C HO1 HT1 HB1
  clear y0 y1 y2 y3 y4 y5 y6 y7 y8 yl
  go_wp2_with fail
  have C := Lib.hid (checkFields_a h w2 HT2.out HO2.out)
  with_reducible refine C.out.mono ?_
  rintro e w3 ⟨rfl, b⟩
  have HO3 := Lib.hid (HO2.out.below b)
  have HT3 := Lib.hid (HT2.out.below b)
  have HB3 := Lib.hid (HB2.out.trans (b.mono HB2.out.size))
  clear b C HO2 HT2 HB2
  go_wp2_with fail
  have C := Lib.hid (check_nil w3)
  with_reducible refine C.out.mono ?_
  rintro e w4 ⟨rfl, b⟩
  have HO4 := Lib.hid (HO3.out.below b)
  have HT4 := Lib.hid (HT3.out.below b)
  have HB4 := Lib.hid (HB3.out.trans (b.mono HB3.out.size))
  clear b C HO3 HT3 HB3
  go_wp2_with fail
  go_ret
  exact ⟨rfl, HB4.out⟩
set_option maxRecDepth 100000 in
set_option maxHeartbeats 1000000 in
theorem checkAll_a (h : Nat) (w : World) (ho : OB w h fdL 74) (hT : Tbs w) : Calls Tryz.prog 131 #[.agg #[.int .i64 6, .string ⟨#[97]⟩, .string ⟨#[]⟩, .string ⟨#[]⟩, .slice none 0 0, .slice none 0 0, .int .i64 0, .int .i64 0, .slice none 0 0], .slice (some ⟨h, 0, none⟩) 1 1, .slice none 0 0, .int .i64 0] w (IntO w 0) := by
  have HO1 := Lib.hid (ho.alloc (.cells #[.int .i64 6, .string ⟨#[97]⟩, .string ⟨#[]⟩, .string ⟨#[]⟩, .slice none 0 0, .slice none 0 0, .int .i64 0, .int .i64 0, .slice none 0 0] 30))
  have HT1 := Lib.hid (hT.alloc (.cells #[.int .i64 6, .string ⟨#[97]⟩, .string ⟨#[]⟩, .string ⟨#[]⟩, .slice none 0 0, .slice none 0 0, .int .i64 0, .int .i64 0, .slice none 0 0] 30))
  have HB1 := Lib.hid ((Below.refl w.heap.size w).alloc (Nat.le_refl _) (.cells #[.int .i64 6, .string ⟨#[97]⟩, .string ⟨#[]⟩, .string ⟨#[]⟩, .slice none 0 0, .slice none 0 0, .int .i64 0, .int .i64 0, .slice none 0 0] 30))
  have HN1 := Lib.hid (show OB (w.alloc (.cells #[.int .i64 6, .string ⟨#[97]⟩, .string ⟨#[]⟩, .string ⟨#[]⟩, .slice none 0 0, .slice none 0 0, .int .i64 0, .int .i64 0, .slice none 0 0] 30)) w.heap.size [.int .i64 6, .string ⟨#[97]⟩, .string ⟨#[]⟩, .string ⟨#[]⟩, .slice none 0 0, .slice none 0 0, .int .i64 0, .int .i64 0, .slice none 0 0] 30 from OB.new w [.int .i64 6, .string ⟨#[97]⟩, .string ⟨#[]⟩, .string ⟨#[]⟩, .slice none 0 0, .slice none 0 0, .int .i64 0, .int .i64 0, .slice none 0 0] 30)
  clear ho hT
  go_enter Tryz.func131, Tryz.ntmps131
  go_upto_region 1 with (fail)
  generalize w.alloc (.cells #[.int .i64 6, .string ⟨#[97]⟩, .string ⟨#[]⟩, .string ⟨#[]⟩, .slice none 0 0, .slice none 0 0, .int .i64 0, .int .i64 0, .slice none 0 0] 30) = w1 at *
  have y0 := HN1.out.cell 0 _ rfl
  have y1 := HN1.out.cell 1 _ rfl
  have y2 := HN1.out.cell 2 _ rfl
  have y3 := HN1.out.cell 3 _ rfl
  have y4 := HN1.out.cell 4 _ rfl
  have y5 := HN1.out.cell 5 _ rfl
  have y6 := HN1.out.cell 6 _ rfl
  have y7 := HN1.out.cell 7 _ rfl
  have y8 := HN1.out.cell 8 _ rfl
  have yl := HN1.out.lt
  go_wp2_with fail
  have C := Lib.hid (checkFor_a h w1 HO1.out HT1.out)
  with_reducible refine C.out.mono ?_
  rintro e w2 ⟨rfl, b⟩
  have HO2 := Lib.hid (HO1.out.below b)
  have HT2 := Lib.hid (HT1.out.below b)
  have HB2 := Lib.hid (HB1.out.trans (b.mono HB1.out.size))
  clear b C HO1 HT1 HB1
  clear y0 y1 y2 y3 y4 y5 y6 y7 y8 yl
  go_wp2_with fail
  with_reducible refine (sw_0 _).mono ?_
  rintro e w3 ⟨rfl, rfl⟩
  go_wp2_with fail
  go_ret
  exact ⟨rfl, HB2.out⟩
set_option maxRecDepth 100000 in
set_option maxHeartbeats 4000000 in
theorem build_a (h : Nat) (w : World) (ho : OB w h fdL 74) : Calls Tryz.prog 132 #[.agg #[.int .i64 6, .string ⟨#[97]⟩, .string ⟨#[]⟩, .string ⟨#[]⟩, .slice none 0 0, .slice none 0 0, .int .i64 0, .int .i64 0, .slice none 0 0], .slice (some ⟨h, 0, none⟩) 1 1, .slice none 0 0] w fun e w' => ∃ p, e = .returned (.pointer (some ⟨p, 0, none⟩)) ∧ OB w' p [.int .i64 6, .string ⟨#[97]⟩, .string ⟨#[]⟩, .string ⟨#[]⟩, .slice none 0 0, .slice none 0 0, .int .i64 0, .int .i64 0, .slice none 0 0, .slice none 0 0, .bool true, .slice none 0 0, .slice none 0 0, .int .i64 0] 198 ∧ Below w.heap.size w w' := by
  have HO1 := Lib.hid ((ho.alloc (.cells #[.int .i64 6, .string ⟨#[97]⟩, .string ⟨#[]⟩, .string ⟨#[]⟩, .slice none 0 0, .slice none 0 0, .int .i64 0, .int .i64 0, .slice none 0 0] 30)).alloc (.cells #[.int .i64 6, .string ⟨#[97]⟩, .string ⟨#[]⟩, .string ⟨#[]⟩, .slice none 0 0, .slice none 0 0, .int .i64 0, .int .i64 0, .slice none 0 0, .slice none 0 0, .bool false, .slice none 0 0, .slice none 0 0, .int .i64 0] 198))
  have HB1 := Lib.hid (((Below.refl w.heap.size w).alloc (Nat.le_refl _) (.cells #[.int .i64 6, .string ⟨#[97]⟩, .string ⟨#[]⟩, .string ⟨#[]⟩, .slice none 0 0, .slice none 0 0, .int .i64 0, .int .i64 0, .slice none 0 0] 30)).alloc (by simp [World.size_alloc]) (.cells #[.int .i64 6, .string ⟨#[97]⟩, .string ⟨#[]⟩, .string ⟨#[]⟩, .slice none 0 0, .slice none 0 0, .int .i64 0, .int .i64 0, .slice none 0 0, .slice none 0 0, .bool false, .slice none 0 0, .slice none 0 0, .int .i64 0] 198))
  have HN1 := Lib.hid ((show OB (w.alloc (.cells #[.int .i64 6, .string ⟨#[97]⟩, .string ⟨#[]⟩, .string ⟨#[]⟩, .slice none 0 0, .slice none 0 0, .int .i64 0, .int .i64 0, .slice none 0 0] 30)) w.heap.size [.int .i64 6, .string ⟨#[97]⟩, .string ⟨#[]⟩, .string ⟨#[]⟩, .slice none 0 0, .slice none 0 0, .int .i64 0, .int .i64 0, .slice none 0 0] 30 from OB.new w [.int .i64 6, .string ⟨#[97]⟩, .string ⟨#[]⟩, .string ⟨#[]⟩, .slice none 0 0, .slice none 0 0, .int .i64 0, .int .i64 0, .slice none 0 0] 30).alloc (.cells #[.int .i64 6, .string ⟨#[97]⟩, .string ⟨#[]⟩, .string ⟨#[]⟩, .slice none 0 0, .slice none 0 0, .int .i64 0, .int .i64 0, .slice none 0 0, .slice none 0 0, .bool false, .slice none 0 0, .slice none 0 0, .int .i64 0] 198))
  have hp := OB.new (w.alloc (.cells #[.int .i64 6, .string ⟨#[97]⟩, .string ⟨#[]⟩, .string ⟨#[]⟩, .slice none 0 0, .slice none 0 0, .int .i64 0, .int .i64 0, .slice none 0 0] 30)) [.int .i64 6, .string ⟨#[97]⟩, .string ⟨#[]⟩, .string ⟨#[]⟩, .slice none 0 0, .slice none 0 0, .int .i64 0, .int .i64 0, .slice none 0 0, .slice none 0 0, .bool false, .slice none 0 0, .slice none 0 0, .int .i64 0] 198
  rw [World.size_alloc] at hp
  have HP1 := Lib.hid (show OB ((w.alloc (.cells #[.int .i64 6, .string ⟨#[97]⟩, .string ⟨#[]⟩, .string ⟨#[]⟩, .slice none 0 0, .slice none 0 0, .int .i64 0, .int .i64 0, .slice none 0 0] 30)).alloc (.cells #[.int .i64 6, .string ⟨#[97]⟩, .string ⟨#[]⟩, .string ⟨#[]⟩, .slice none 0 0, .slice none 0 0, .int .i64 0, .int .i64 0, .slice none 0 0, .slice none 0 0, .bool false, .slice none 0 0, .slice none 0 0, .int .i64 0] 198)) (w.heap.size + 1) [.int .i64 6, .string ⟨#[97]⟩, .string ⟨#[]⟩, .string ⟨#[]⟩, .slice none 0 0, .slice none 0 0, .int .i64 0, .int .i64 0, .slice none 0 0, .slice none 0 0, .bool false, .slice none 0 0, .slice none 0 0, .int .i64 0] 198 from hp)
  clear ho hp
  go_enter Tryz.func132, Tryz.ntmps132
  go_upto_region 2 with (fail)
  generalize (w.alloc (.cells #[.int .i64 6, .string ⟨#[97]⟩, .string ⟨#[]⟩, .string ⟨#[]⟩, .slice none 0 0, .slice none 0 0, .int .i64 0, .int .i64 0, .slice none 0 0] 30)).alloc (.cells #[.int .i64 6, .string ⟨#[97]⟩, .string ⟨#[]⟩, .string ⟨#[]⟩, .slice none 0 0, .slice none 0 0, .int .i64 0, .int .i64 0, .slice none 0 0, .slice none 0 0, .bool false, .slice none 0 0, .slice none 0 0, .int .i64 0] 198) = w1 at *
  have y0 := HN1.out.cell 0 _ rfl
  have y1 := HN1.out.cell 1 _ rfl
  have y2 := HN1.out.cell 2 _ rfl
  have y3 := HN1.out.cell 3 _ rfl
  have y4 := HN1.out.cell 4 _ rfl
  have y5 := HN1.out.cell 5 _ rfl
  have y6 := HN1.out.cell 6 _ rfl
  have y7 := HN1.out.cell 7 _ rfl
  have y8 := HN1.out.cell 8 _ rfl
  have yl := HN1.out.lt
  go_upto_block 0 with (fail)
  go_cut [] (fun wx => w1 = wx)
  case first =>
    go_wp2_with fail
    go_loopw [21] (fun u wr => u = .int .i64 0 ∧ w1 = wr) (fun _ _ => 0)
    case atStart => exact ⟨rfl, rfl⟩
    case round =>
      obtain ⟨rfl, rfl⟩ := hrel
      go_wp2_with fail
      go_meet
      first | trivial | rfl
  case rest =>
  obtain rfl := hcut
  go_upto_block 2 with (fail)
  go_cut [] (fun wx => OB wx (w.heap.size + 1) [.int .i64 6, .string ⟨#[97]⟩, .string ⟨#[]⟩, .string ⟨#[]⟩, .slice none 0 0, .slice none 0 0, .int .i64 0, .int .i64 0, .slice none 0 0, .slice none 0 0, .bool true, .slice none 0 0, .slice none 0 0, .int .i64 0] 198 ∧ Below w.heap.size w wx)
  case first =>
    go_wp2_with fail
    have C := Lib.hid (ofRec_a w1)
    with_reducible refine C.out.mono ?_
    rintro e w2 ⟨rfl, b⟩
    have HO2 := Lib.hid (HO1.out.below b)
    have HN2 := Lib.hid (HN1.out.below b)
    have HP2 := Lib.hid (HP1.out.below b)
    have HB2 := Lib.hid (HB1.out.trans (b.mono HB1.out.size))
    clear b C HO1 HN1 HP1 HB1 y0 y1 y2 y3 y4 y5 y6 y7 y8 yl
    have y0 := HN2.out.cell 0 _ rfl
    have y1 := HN2.out.cell 1 _ rfl
    have y2 := HN2.out.cell 2 _ rfl
    have y3 := HN2.out.cell 3 _ rfl
    have y4 := HN2.out.cell 4 _ rfl
    have y5 := HN2.out.cell 5 _ rfl
    have y6 := HN2.out.cell 6 _ rfl
    have y7 := HN2.out.cell 7 _ rfl
    have y8 := HN2.out.cell 8 _ rfl
    have yl := HN2.out.lt
    go_wp2_with fail
    have C := Lib.hid (ofField_a h w2 HO2.out)
    with_reducible refine C.out.mono ?_
    rintro e w3 ⟨rfl, b⟩
    have HP3 := Lib.hid (HP2.out.below b)
    have HB3 := Lib.hid (HB2.out.trans (b.mono HB2.out.size))
    clear b C HO2 HN2 HP2 HB2 y0 y1 y2 y3 y4 y5 y6 y7 y8 yl
    have c10 := HP3.out.cell 10 _ rfl
    have z10 := HP3.out.free 10
    have pl := HP3.out.lt
    go_wp2_with fail
    go_meet
    exact ⟨OB.put HP3.out 10 (.bool true) rfl, HB3.out.trans (below_row (grown_setc _ _ _ _) (Nat.le_succ _) HB3.out.size)⟩
  case rest =>
  have HR := Lib.hid hcut
  go_wp2_with fail
  go_ret
  exact ⟨_, rfl, HR.out.1, HR.out.2⟩
set_option maxRecDepth 100000 in
set_option maxHeartbeats 1000000 in
theorem at_a (p : Nat) (w : World) (ho : OB w p [.int .i64 6, .string ⟨#[97]⟩, .string ⟨#[]⟩, .string ⟨#[]⟩, .slice none 0 0, .slice none 0 0, .int .i64 0, .int .i64 0, .slice none 0 0, .slice none 0 0, .bool true, .slice none 0 0, .slice none 0 0, .int .i64 0] 198) : Calls Tryz.prog 133 #[.pointer (some ⟨p, 0, none⟩), .int .i64 0] w fun e w' => e = .returned (.bool true) ∧ Below w.heap.size w w' := by
  have y0 := ho.cell 0 _ rfl
  have y10 := ho.cell 10 _ rfl
  have yl := ho.lt
  have HB := Lib.hid ((Below.refl w.heap.size w).alloc (Nat.le_refl _) (.cells #[.int .i64 0] 3))
  clear ho
  go_enter Tryz.func133, Tryz.ntmps133
  go_wp2_with fail
  go_ret
  exact ⟨rfl, HB.out⟩
set_option maxRecDepth 100000 in
set_option maxHeartbeats 1000000 in
theorem is_a (h : Nat) (w : World) (ho : OB w h fdL 74) (hT : Tbs w) : Calls Tryz.prog 75 #[.agg #[.int .i64 6, .string ⟨#[97]⟩, .string ⟨#[]⟩, .string ⟨#[]⟩, .slice none 0 0, .slice none 0 0, .int .i64 0, .int .i64 0, .slice none 0 0], .slice (some ⟨h, 0, none⟩) 1 1, .slice none 0 0, .int .i64 0] w fun e w' => e = .returned (.tuple #[.bool true, .int .i64 0]) ∧ Below w.heap.size w w' := by
  have HO1 := Lib.hid (ho.alloc (.cells #[.int .i64 6, .string ⟨#[97]⟩, .string ⟨#[]⟩, .string ⟨#[]⟩, .slice none 0 0, .slice none 0 0, .int .i64 0, .int .i64 0, .slice none 0 0] 30))
  have HT1 := Lib.hid (hT.alloc (.cells #[.int .i64 6, .string ⟨#[97]⟩, .string ⟨#[]⟩, .string ⟨#[]⟩, .slice none 0 0, .slice none 0 0, .int .i64 0, .int .i64 0, .slice none 0 0] 30))
  have HB1 := Lib.hid ((Below.refl w.heap.size w).alloc (Nat.le_refl _) (.cells #[.int .i64 6, .string ⟨#[97]⟩, .string ⟨#[]⟩, .string ⟨#[]⟩, .slice none 0 0, .slice none 0 0, .int .i64 0, .int .i64 0, .slice none 0 0] 30))
  have HN1 := Lib.hid (show OB (w.alloc (.cells #[.int .i64 6, .string ⟨#[97]⟩, .string ⟨#[]⟩, .string ⟨#[]⟩, .slice none 0 0, .slice none 0 0, .int .i64 0, .int .i64 0, .slice none 0 0] 30)) w.heap.size [.int .i64 6, .string ⟨#[97]⟩, .string ⟨#[]⟩, .string ⟨#[]⟩, .slice none 0 0, .slice none 0 0, .int .i64 0, .int .i64 0, .slice none 0 0] 30 from OB.new w [.int .i64 6, .string ⟨#[97]⟩, .string ⟨#[]⟩, .string ⟨#[]⟩, .slice none 0 0, .slice none 0 0, .int .i64 0, .int .i64 0, .slice none 0 0] 30)
  clear ho hT
  go_enter Tryz.func75, Tryz.ntmps75
  go_upto_region 1 with (fail)
  generalize w.alloc (.cells #[.int .i64 6, .string ⟨#[97]⟩, .string ⟨#[]⟩, .string ⟨#[]⟩, .slice none 0 0, .slice none 0 0, .int .i64 0, .int .i64 0, .slice none 0 0] 30) = w1 at *
  have y0 := HN1.out.cell 0 _ rfl
  have y1 := HN1.out.cell 1 _ rfl
  have y2 := HN1.out.cell 2 _ rfl
  have y3 := HN1.out.cell 3 _ rfl
  have y4 := HN1.out.cell 4 _ rfl
  have y5 := HN1.out.cell 5 _ rfl
  have y6 := HN1.out.cell 6 _ rfl
  have y7 := HN1.out.cell 7 _ rfl
  have y8 := HN1.out.cell 8 _ rfl
  have yl := HN1.out.lt
  go_wp2_with fail
  have C := Lib.hid (checkAll_a h w1 HO1.out HT1.out)
  with_reducible refine C.out.mono ?_
  rintro e w2 ⟨rfl, b⟩
  have HO2 := Lib.hid (HO1.out.below b)
  have HT2 := Lib.hid (HT1.out.below b)
  have HB2 := Lib.hid (HB1.out.trans (b.mono HB1.out.size))
  have HN2 := Lib.hid (HN1.out.below b)
  clear b C HO1 HT1 HB1
  clear y0 y1 y2 y3 y4 y5 y6 y7 y8 yl HN1
  have y0 := HN2.out.cell 0 _ rfl
  have y1 := HN2.out.cell 1 _ rfl
  have y2 := HN2.out.cell 2 _ rfl
  have y3 := HN2.out.cell 3 _ rfl
  have y4 := HN2.out.cell 4 _ rfl
  have y5 := HN2.out.cell 5 _ rfl
  have y6 := HN2.out.cell 6 _ rfl
  have y7 := HN2.out.cell 7 _ rfl
  have y8 := HN2.out.cell 8 _ rfl
  have yl := HN2.out.lt
  go_wp2_with fail
  have C := Lib.hid (build_a h w2 HO2.out)
  with_reducible refine C.out.mono ?_
  rintro e w3 ⟨p, rfl, hp, b⟩
  have HB3 := Lib.hid (HB2.out.trans (b.mono HB2.out.size))
  have D := Lib.hid (at_a p w3 hp)
  clear b C hp HO2 HT2 HB2 HN2 y0 y1 y2 y3 y4 y5 y6 y7 y8 yl
  go_wp2_with fail
  with_reducible refine D.out.mono ?_
  rintro e w4 ⟨rfl, b⟩
  have HB4 := Lib.hid (HB3.out.trans (b.mono HB3.out.size))
  clear b D HB3
  go_wp2_with fail
  go_ret2
  exact ⟨rfl, HB4.out⟩
set_option maxRecDepth 100000 in
set_option maxHeartbeats 1000000 in
theorem holds_a (h : Nat) (w : World) (ho : OB w h fdL 74) (hT : Tbs w) : Calls Tryz.prog 34 #[.string hsT, .slice (some ⟨h, 0, none⟩) 1 1, .slice none 0 0, .int .i64 0] w fun e w' => e = .returned (.tuple #[.bool true, .int .i64 0]) ∧ Below w.heap.size w w' := by
  have HO1 := Lib.hid ho
  have HT1 := Lib.hid hT
  have C := Lib.hid (parse_has w hT)
  clear ho hT
  go_enter Tryz.func34, Tryz.ntmps34
  go_wp2_with fail
  with_reducible refine C.out.mono ?_
  rintro e w1 ⟨rfl, b⟩
  have HO2 := Lib.hid ((HO1.out.below b).alloc (.cells #[.int .i64 6, .string ⟨#[97]⟩, .string ⟨#[]⟩, .string ⟨#[]⟩, .slice none 0 0, .slice none 0 0, .int .i64 0, .int .i64 0, .slice none 0 0] 30))
  have HT2 := Lib.hid ((HT1.out.below b).alloc (.cells #[.int .i64 6, .string ⟨#[97]⟩, .string ⟨#[]⟩, .string ⟨#[]⟩, .slice none 0 0, .slice none 0 0, .int .i64 0, .int .i64 0, .slice none 0 0] 30))
  have HB2 := Lib.hid (b.alloc b.size (.cells #[.int .i64 6, .string ⟨#[97]⟩, .string ⟨#[]⟩, .string ⟨#[]⟩, .slice none 0 0, .slice none 0 0, .int .i64 0, .int .i64 0, .slice none 0 0] 30))
  have HN2 := Lib.hid (show OB (w1.alloc (.cells #[.int .i64 6, .string ⟨#[97]⟩, .string ⟨#[]⟩, .string ⟨#[]⟩, .slice none 0 0, .slice none 0 0, .int .i64 0, .int .i64 0, .slice none 0 0] 30)) w1.heap.size [.int .i64 6, .string ⟨#[97]⟩, .string ⟨#[]⟩, .string ⟨#[]⟩, .slice none 0 0, .slice none 0 0, .int .i64 0, .int .i64 0, .slice none 0 0] 30 from OB.new w1 [.int .i64 6, .string ⟨#[97]⟩, .string ⟨#[]⟩, .string ⟨#[]⟩, .slice none 0 0, .slice none 0 0, .int .i64 0, .int .i64 0, .slice none 0 0] 30)
  clear b C HO1 HT1
  go_upto_region 2 with (fail)
  generalize w1.alloc (.cells #[.int .i64 6, .string ⟨#[97]⟩, .string ⟨#[]⟩, .string ⟨#[]⟩, .slice none 0 0, .slice none 0 0, .int .i64 0, .int .i64 0, .slice none 0 0] 30) = w2 at *
  have y0 := HN2.out.cell 0 _ rfl
  have y1 := HN2.out.cell 1 _ rfl
  have y2 := HN2.out.cell 2 _ rfl
  have y3 := HN2.out.cell 3 _ rfl
  have y4 := HN2.out.cell 4 _ rfl
  have y5 := HN2.out.cell 5 _ rfl
  have y6 := HN2.out.cell 6 _ rfl
  have y7 := HN2.out.cell 7 _ rfl
  have y8 := HN2.out.cell 8 _ rfl
  have yl := HN2.out.lt
  go_wp2_with fail
  have C := Lib.hid (is_a h w2 HO2.out HT2.out)
  with_reducible refine C.out.mono ?_
  rintro e w3 ⟨rfl, b⟩
  have HB3 := Lib.hid (HB2.out.trans (b.mono HB2.out.size))
  clear b C
  go_wp2_with fail
  go_ret2
  exact ⟨rfl, HB3.out⟩
set_option maxRecDepth 100000 in
set_option maxHeartbeats 1000000 in
theorem segments_any (w : World) (hT : Tbs w) : Calls Tryz.prog 9 #[] w fun e w' => e = .returned (.bool true) ∧ Below w.heap.size w w' := by
  have HN := Lib.hid (show OB (w.alloc (.cells #[.string ⟨#[97]⟩, .int .i64 3, .string ⟨#[]⟩, .int .i64 1] 74)) w.heap.size fdL 74 from OB.new w fdL 74)
  have HT := Lib.hid (hT.alloc (.cells #[.string ⟨#[97]⟩, .int .i64 3, .string ⟨#[]⟩, .int .i64 1] 74))
  have HB := Lib.hid ((Below.refl w.heap.size w).alloc (Nat.le_refl _) (.cells #[.string ⟨#[97]⟩, .int .i64 3, .string ⟨#[]⟩, .int .i64 1] 74))
  have C := Lib.hid (holds_a w.heap.size _ HN.out HT.out)
  unfold hsT at C
  clear hT
  go_enter Tryz.func9, Tryz.ntmps9
  go_wp2_with fail
  with_reducible refine C.out.mono ?_
  rintro e w1 ⟨rfl, b⟩
  have HB1 := Lib.hid (HB.out.trans (b.mono HB.out.size))
  clear b C HN HT HB
  go_wp2_with fail
  go_ret
  exact ⟨rfl, HB1.out⟩
end Go.Proofs.YtfdpfkdfglombaaGreatDoor
