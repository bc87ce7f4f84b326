/- What is wrong with a split: measure.CheckSplit. -/
import Derived.Test.YtdnikegakcdcnaaDoorIsKey
import Derived.Test.YtdnikegakcdcnaaDoorMeasure
import Derived.Test.YtdnikegakcdcnaaDoorSums
import Derived.Test.YtdnikegakcdcnaaDoorRecs
import Derived.Test.YtdnikegakcdcnaaDoorArm
set_option linter.unusedVariables false
namespace Go.Proofs.YtdnikegakcdcnaaDoor
open Go.RowKit

def okW (z : Int) : Bool := decide (0 ≤ z ∧ z ≤ 1000)
def splitE (kb : Bool) (ws : List Int) (hold : Int) : Int := if kb = false then 5 else if 10 < ws.length then 2 else if ws.length = 0 then 8 else if ws.all okW = false then 1 else if okW hold = false then 1 else if ws.sum + hold = 0 then 8 else 0
theorem okW_all {ws : List Int} (h : ws.all okW = true) : ∀ z ∈ ws, 0 ≤ z ∧ z ≤ 1000 := fun z hz => by
  have := List.all_eq_true.1 h z hz
  simpa [okW] using this
theorem splitE_ok {kb : Bool} {ws : List Int} {hold : Int} (h : splitE kb ws hold = 0) : kb = true ∧ ws.length ≤ 10 ∧ 0 < ws.length ∧ (∀ z ∈ ws, 0 ≤ z ∧ z ≤ 1000) ∧ 0 ≤ hold ∧ hold ≤ 1000 ∧ 0 < ws.sum + hold := by
  unfold splitE at h
  split at h
  · omega
  · rename_i h1
    split at h
    · omega
    · split at h
      · omega
      · split at h
        · omega
        · rename_i h4
          split at h
          · omega
          · rename_i h5
            split at h
            · omega
            · have h4' : ws.all okW = true := by simpa using h4
              have h5' : okW hold = true := by simpa using h5
              have h6 := okW_all h4'
              have h7 := (sumw_bd ws h6).1
              simp only [okW, decide_eq_true_eq] at h5'
              exact ⟨by simpa using h1, by omega, by omega, h6, by omega, by omega, by omega⟩

theorem wth_any (n : Int) (w : World) : Calls Tryd.prog 97 #[.int .i64 n, .int .i64 0, .int .i64 1000] w fun e w' => e = .returned (.bool (okW n)) ∧ w = w' := by
  by_cases h : 0 ≤ n ∧ n ≤ 1000
  · have e : okW n = true := by simpa [okW] using h
    rw [e]
    exact within_yes _ _ _ _ h.1 h.2
  · have e : okW n = false := by simpa [okW] using h
    rw [e]
    exact within_no _ _ _ _ (by omega)
theorem checkSplit1_any (n : Int) (w : World) : Calls Tryd.prog 107 #[.int .i64 n] w fun e w' => e = .returned (.bool (!okW n)) ∧ w = w' := by
  have C := Lib.hid (wth_any n)
  generalize okW n = b at *
  go_enter Tryd.func107, Tryd.ntmps107
  go_wp2_with fail
  with_reducible refine (C.out _).mono ?_
  rintro e w1 ⟨rfl, rfl⟩
  go_wp2_with fail
  go_ret
  exact ⟨by cases b <;> rfl, rfl⟩

theorem all_take (ws : List Int) (k : Nat) (h : k < ws.length) : (ws.take (k + 1)).all okW = ((ws.take k).all okW && okW ws[k]) := by
  rw [List.take_succ_eq_append_getElem h, List.all_append]
  simp

theorem splitIdx_any (a : Option Addr) (ws : List Int) (n c : Nat) (w : World) (hn : ws.length = n) (hn1 : n ≤ 1000) (hI : IntsAt w a ws) :
    Calls Tryd.prog 187 #[.slice a n c, .func (.func 107) #[] #[]] w fun e w' => (∃ r : Int, e = .returned (.int .i64 r) ∧ decide (0 ≤ r) = !ws.all okW) ∧ w = w' := by
  have HN := Lib.hid hn
  have HI := Lib.hid hI
  clear hn hI
  go_enter Tryd.func187, Tryd.ntmps187
  go_wp2_with fail
  go_loopw [5, 8] (fun _ i wr => ∃ k : Nat, k ≤ n ∧ i = .int .i64 k ∧ w = wr ∧ Hid ((ws.take k).all okW = true)) (fun _ i _ => n - (intOf i).toNat)
  case atStart => exact ⟨0, Nat.zero_le _, rfl, rfl, Lib.hid rfl⟩
  case round =>
    obtain ⟨k, hk, rfl, rfl, hH⟩ := hrel
    by_cases hlt : k < n
    · have hkl : k < ws.length := by have := HN.out; omega
      obtain ⟨p, off, rfl, hp, c0⟩ := HI.out k hkl
      have C := Lib.hid (checkSplit1_any ws[k])
      have HT := Lib.hid (all_take ws k hkl)
      have HM := Lib.hid (fun h : okW ws[k] = false => show ws.all okW = false by
        rw [Bool.eq_false_iff]
        intro h'
        have := List.all_eq_true.1 h' ws[k] (List.getElem_mem hkl)
        rw [h] at this; cases this)
      generalize ws[k] = z at *
      obtain ⟨b, hb⟩ : ∃ b, okW z = b := ⟨_, rfl⟩
      rw [hb] at C HT HM
      cases b with
      | false =>
        have HR := Lib.hid (HM.out rfl)
        go_wp2_with fail
        with_reducible refine (C.out _).mono ?_
        rintro e w1 ⟨rfl, rfl⟩
        go_wp2_with fail
        go_ret
        exact ⟨⟨k, rfl, by rw [HR.out]; simp⟩, rfl⟩
      | true =>
        have HR := Lib.hid (HT.out.trans (by rw [hH.out]))
        go_wp2_with fail
        with_reducible refine (C.out _).mono ?_
        rintro e w1 ⟨rfl, rfl⟩
        go_wp2_with fail
        go_roundw
        case rel => exact ⟨k + 1, by omega, by go_num, trivial, HR⟩
        case measure => simp [intOf]; omega
    · go_wp2_with fail
      go_ret
      have : ws.take k = ws := List.take_of_length_le (by have := HN.out; omega)
      exact ⟨⟨-1, rfl, by have h := hH.out; rw [this] at h; rw [h]; rfl⟩, rfl⟩

theorem splitHas_any (a : Option Addr) (ws : List Int) (n c : Nat) (w : World) (hn : ws.length = n) (hn1 : n ≤ 1000) (hI : IntsAt w a ws) :
    Calls Tryd.prog 106 #[.slice a n c, .func (.func 107) #[] #[]] w fun e w' => e = .returned (.bool (!ws.all okW)) ∧ w = w' := by
  have C := Lib.hid (splitIdx_any a ws n c w hn hn1 hI)
  clear hn hI
  generalize (!ws.all okW) = b at *
  go_enter Tryd.func106, Tryd.ntmps106
  go_wp2_with fail
  with_reducible refine C.out.mono ?_
  rintro e w1 ⟨⟨r, rfl, hr⟩, rfl⟩
  have HR := Lib.hid hr
  clear hr
  go_wp2_with fail
  go_ret
  exact ⟨ret_bool HR.out, rfl⟩

set_option maxRecDepth 100000 in
set_option maxHeartbeats 4000000 in
theorem CheckSplit_any (name : ByteArray) (a : Option Addr) (ws : List Int) (n c : Nat) (hold : Int) (w : World) (hn : ws.length = n) (hn1 : n ≤ 1000) (hI : IntsAt w a ws) (hn2 : name.size ≤ 100) :
    Calls Tryd.prog 26 #[.agg #[.string name, .slice a n c, .int .i64 hold]] w fun e w' => e = .returned (.int .i64 (splitE (keyB name) ws hold)) ∧ Below w.heap.size w w' := by
  obtain ⟨V, hV⟩ : ∃ V, splitE (keyB name) ws hold = V := ⟨_, rfl⟩
  rw [hV]
  have HV := Lib.hid hV.symm
  clear hV
  unfold splitE at HV
  rw [hn] at HV
  have CK := Lib.hid (fun w => isKey_any name w (by unfold maxLen; omega))
  generalize keyB name = kb at *
  have HN := Lib.hid hn
  have HI := Lib.hid (hI.alloc (.cells #[.string name, .slice a n c, .int .i64 hold] 45))
  have HB := Lib.hid ((Below.refl w.heap.size w).alloc (Nat.le_refl _) (.cells #[.string name, .slice a n c, .int .i64 hold] 45))
  clear hn hI
  go_enter Tryd.func26, Tryd.ntmps26
  go_wp2_with fail
  with_reducible refine (CK.out _).mono ?_
  rintro e w1 ⟨rfl, rfl⟩
  cases kb with
  | false =>
    go_wp2_with fail
    go_ret
    exact ⟨ret_int HV.out.symm, HB.out⟩
  | true =>
    have HV1 := Lib.hid (HV.out.trans (if_neg (by simp)))
    by_cases h10 : 10 < n
    · go_wp2_with fail
      go_ret
      exact ⟨ret_int (by rw [HV1.out, if_pos h10]), HB.out⟩
    · have HV2 := Lib.hid (HV1.out.trans (if_neg h10))
      by_cases h0 : n = 0
      · subst h0
        go_wp2_with fail
        go_ret
        exact ⟨ret_int (by rw [HV2.out]; simp), HB.out⟩
      · have HV3 := Lib.hid (HV2.out.trans (if_neg h0))
        clear HV HV1 HV2
        go_wp2_with fail
        with_reducible refine (splitHas_any _ ws _ _ _ HN.out (by omega) HI.out).mono ?_
        rintro e w2 ⟨rfl, rfl⟩
        obtain ⟨b, hb⟩ : ∃ b, ws.all okW = b := ⟨_, rfl⟩
        rw [hb] at HV3 ⊢
        have HBB := Lib.hid hb
        clear hb
        cases b with
        | false =>
          go_wp2_with fail
          go_ret
          exact ⟨ret_int (by rw [HV3.out]; simp), HB.out⟩
        | true =>
          have HV4 := Lib.hid (HV3.out.trans (if_neg (by simp)))
          have HOK := Lib.hid (okW_all HBB.out)
          have hsb := sumw_bd ws HOK.out
          rw [HN.out] at hsb
          go_wp2_with fail
          with_reducible refine (wth_any _ _).mono ?_
          rintro e w2 ⟨rfl, rfl⟩
          obtain ⟨b, hb⟩ : ∃ b, okW hold = b := ⟨_, rfl⟩
          rw [hb] at HV4 ⊢
          have HBH := Lib.hid hb
          clear hb
          cases b with
          | false =>
            go_wp2_with fail
            go_ret
            exact ⟨ret_int (by rw [HV4.out]; simp), HB.out⟩
          | true =>
            have HV5 := Lib.hid (HV4.out.trans (if_neg (by simp)))
            have hhb : 0 ≤ hold ∧ hold ≤ 1000 := by simpa [okW] using HBH.out
            clear HV4 HV3
            go_wp2_with fail
            refine wp_region_still_tail 7 (by kernel_rfl) (by kernel_rfl) ?_
            change wpStill _ _ (World.drew _) (fun a' => wpList _ _ _ _ a' (World.drew _)) _ _
            simp only [List.take_succ_cons, List.take_zero, List.drop_succ_cons, List.drop_zero]
            have hx := XB.new w [.string name, .slice a n c, .int .i64 hold] 45
            have y1 := (hx.drewN 1).2 1 _ rfl
            have y2 := (hx.drewN 1).2 2 _ rfl
            have HI2 := Lib.hid (HI.out.drewN 1)
            have HB2 := Lib.hid HB.out.drew
            simp only [List.toArray] at y1 y2
            clear hx HI HB
            change World.cell? (World.drew _) _ = _ at y1 y2
            have HI3 := Lib.hid (show IntsAt (World.drew _) a ws from HI2.out)
            clear HI2
            generalize (w.alloc (.cells #[.string name, .slice a n c, .int .i64 hold] 45)).drew = w2 at *
            generalize hq : w.heap.size = q at *
            have HQ := Lib.hid hq
            clear hq
            have CT := Lib.hid (sumOf_any a ws n c w2 HN.out (by omega) HI3.out (fun z hz => by have := HOK.out z hz; omega))
            obtain ⟨U, hU⟩ : ∃ U, ws.sum = U := ⟨_, rfl⟩
            rw [hU] at CT hsb HV5
            have e1 : IntKind.i64.wrap (U + hold) = U + hold := by rw [IntKind.wrap_i64]; omega
            repeat (first | still_step | still_call (CT.out.mono (fun _ _ h => ⟨h.1, h.2.symm⟩)))
            refine wpStill_nil ?_
            clear CT
            by_cases hz : U + hold = 0
            · go_wp2_with fail
              go_ret
              exact ⟨ret_int (by rw [HV5.out, if_pos hz]), by rw [HQ.out]; exact HB2.out⟩
            · go_wp2_with fail
              go_ret
              exact ⟨ret_int (by rw [HV5.out, if_neg hz]), by rw [HQ.out]; exact HB2.out⟩
end Go.Proofs.YtdnikegakcdcnaaDoor
