/- handref1.SentFault. -/
import Derived.Test.YtgdagknjnidmiaaGreatDoorSentHas
set_option linter.unusedVariables false
namespace Go.Proofs.YtgdagknjnidmiaaGreatDoor
open Go.RowKit

theorem idsOf_take (l : List Snt) (k : Nat) (hk : k ≤ l.length) : idsOf (l.take k) (l.take k).length = idsOf l k := by
  unfold idsOf
  rw [List.take_length]

set_option maxRecDepth 100000 in
set_option maxHeartbeats 4000000 in
theorem SentFault_any (a : Option Addr) (l : List Snt) (n c : Nat) (w : World) (hn : l.length = n) (hn1 : n ≤ 1000) (hc : n ≤ c) (hc' : c ≤ maxLen) (hI : RAt w a 4 Snt.cells l) (hok : ∀ x ∈ l, x.ok) :
    Calls Tryz.prog 34 #[.slice a n c] w fun e w' => e = .returned (.int .i64 (sentE l)) ∧ Below w.heap.size w w' := by
  unfold maxLen at hc'
  have HN := Lib.hid hn
  have HI := Lib.hid hI
  have HOK := Lib.hid hok
  clear hn hI hok
  go_enter Tryz.func34, Tryz.ntmps34
  go_wp2_with fail
  go_loopw [3, 4, 10] (fun _ _ i wr => ∃ k : Nat, k ≤ n ∧ i = .int .i64 k ∧ Below w.heap.size w wr ∧ SentInv l k) (fun _ _ i _ => n - (intOf i).toNat)
  case atStart => exact ⟨0, Nat.zero_le _, rfl, Below.refl _ _, SentInv.zero l⟩
  case round =>
    obtain ⟨k, hk, rfl, hB, hV⟩ := hrel
    by_cases hlt : k < n
    · have hkl : k < l.length := by have := HN.out; omega
      obtain ⟨p, off, rfl, hp, c0, c1, c2, c3⟩ := (HI.out.below hB).at4 hkl (v0 := .string l[k].id) (v1 := .string l[k].person) (v2 := .string l[k].letter) (v3 := .int .i64 l[k].at_) rfl
      obtain ⟨ok1, ok2, ok3, ok4, ok5⟩ := HOK.out l[k] (List.getElem_mem hkl)
      have HV := Lib.hid (hV.step hkl)
      have HL := Lib.hid (fun h0 (h1 : k - 1 < l.length) => late_succ l l[k] k h0 h1)
      have HL0 := Lib.hid (late_zero l l[k])
      have HE := Lib.hid (show stepE (l.take k) l[k] = sE (keyB l[k].id) (hasS (idsOf l k) l[k].id) (keyB l[k].person) (keyB l[k].letter) (momB l[k].at_) (lateB (l.take k) l[k]) from rfl)
      generalize l[k] = x at *
      obtain ⟨id, person, letter, at_⟩ := x
      simp only at c0 c1 c2 c3 ok1 ok2 ok3 ok4 ok5
      have C1 := Lib.hid (fun w => keyOf_any id w (by unfold maxLen; omega))
      have C3 := Lib.hid (fun w => keyOf_any person w (by unfold maxLen; omega))
      have C4 := Lib.hid (fun w => keyOf_any letter w (by unfold maxLen; omega))
      have C5 := Lib.hid (fun w => moment_any at_ w)
      have C2 := Lib.hid (fun w' (hb : Below w.heap.size w w') q hq => sentHas_any (some ⟨p, off, none⟩) (l.take k) k c q id w' (by simp; omega) (by omega) ((HI.out.below hb).take k) hq)
      obtain ⟨b2, hb2⟩ : ∃ b, hasS (idsOf l k) id = b := ⟨_, rfl⟩
      rw [idsOf_take l k (by omega), hb2] at C2
      obtain ⟨b6, hb6⟩ : ∃ b, lateB (l.take k) ⟨id, person, letter, at_⟩ = b := ⟨_, rfl⟩
      have HE' := Lib.hid (HE.out.trans (show _ = sE (keyB id) b2 (keyB person) (keyB letter) (momB at_) b6 by rw [hb6]; show sE _ (hasS _ id) _ _ _ _ = _; rw [hb2]))
      have HB6 := Lib.hid hb6
      clear HE hb2 hb6 hV
      generalize keyB id = b1 at *
      generalize keyB person = b3 at *
      generalize keyB letter = b4 at *
      generalize momB at_ = b5 at *
      have X0 := Lib.hid (XB.new wr [.string id, .string person, .string letter, .int .i64 at_] 62)
      have HB := Lib.hid (hB.alloc hB.size (.cells #[.string id, .string person, .string letter, .int .i64 at_] 62))
      go_wp2_with fail
      with_reducible refine (C1.out _).mono ?_
      rintro e w1 ⟨rfl, d1⟩
      have HB1 := Lib.hid (HB.out.trans (d1.mono HB.out.size))
      have X1 := X0.out.below d1
      obtain ⟨x0, x1, x2, x3⟩ := X1.at4
      have hq := X1.1
      have HX1 := Lib.hid X1
      clear X0 HB X1 d1
      cases b1 with
      | false =>
        go_wp2_with fail
        go_ret
        exact ⟨ret_int ((HV.out.1 (by rw [HE'.out]; simp [sE])).trans HE'.out).symm, HB1.out⟩
      | true =>
        go_wp2_with fail
        with_reducible refine (C2.out _ HB1.out _ x0).mono ?_
        rintro e w2 ⟨rfl, d2⟩
        have HB2 := Lib.hid (HB1.out.trans (d2.mono HB1.out.size))
        have X2 := HX1.out.below d2
        clear x0 x1 x2 x3 hq
        obtain ⟨x0, x1, x2, x3⟩ := X2.at4
        have hq := X2.1
        have HX2 := Lib.hid X2
        clear HX1 HB1 X2 d2
        cases b2 with
        | true =>
          go_wp2_with fail
          go_ret
          exact ⟨ret_int ((HV.out.1 (by rw [HE'.out]; simp [sE])).trans HE'.out).symm, HB2.out⟩
        | false =>
          go_wp2_with fail
          with_reducible refine (C3.out _).mono ?_
          rintro e w3 ⟨rfl, d3⟩
          have HB3 := Lib.hid (HB2.out.trans (d3.mono HB2.out.size))
          have X3 := HX2.out.below d3
          clear x0 x1 x2 x3 hq
          obtain ⟨x0, x1, x2, x3⟩ := X3.at4
          have hq := X3.1
          have HX3 := Lib.hid X3
          clear HX2 HB2 X3 d3
          cases b3 with
          | false =>
            go_wp2_with fail
            go_ret
            exact ⟨ret_int ((HV.out.1 (by rw [HE'.out]; simp [sE])).trans HE'.out).symm, HB3.out⟩
          | true =>
            go_wp2_with fail
            with_reducible refine (C4.out _).mono ?_
            rintro e w4 ⟨rfl, d4⟩
            have HB4 := Lib.hid (HB3.out.trans (d4.mono HB3.out.size))
            have X4 := HX3.out.below d4
            clear x0 x1 x2 x3 hq
            obtain ⟨x0, x1, x2, x3⟩ := X4.at4
            have hq := X4.1
            clear HX3 HB3 X4 d4
            cases b4 with
            | false =>
              go_wp2_with fail
              go_ret
              exact ⟨ret_int ((HV.out.1 (by rw [HE'.out]; simp [sE])).trans HE'.out).symm, HB4.out⟩
            | true =>
              go_wp2_with fail
              with_reducible refine (C5.out _).mono ?_
              rintro e w1 ⟨rfl, rfl⟩
              cases b5 with
              | false =>
                go_wp2_with fail
                go_ret
                exact ⟨ret_int ((HV.out.1 (by rw [HE'.out]; simp [sE])).trans HE'.out).symm, HB4.out⟩
              | true =>
                clear C1 C2 C3 C4 C5
                by_cases hk0 : 0 < k
                · have hkl' : k - 1 < l.length := by omega
                  obtain ⟨p', off', ha', hp', -, -, -, c3'⟩ := (HI.out.below HB4.out).at4 hkl' (v0 := .string l[k - 1].id) (v1 := .string l[k - 1].person) (v2 := .string l[k - 1].letter) (v3 := .int .i64 l[k - 1].at_) rfl
                  have e6 := HB6.out.symm.trans (HL.out hk0 hkl')
                  injection ha' with ha'
                  injection ha' with h1 h2
                  subst h1 h2
                  have HB6' := Lib.hid e6
                  generalize l[k - 1].at_ = at0 at *
                  clear e6 HL HL0 HB6
                  have hd0 : decide (0 < (k : Int)) = true := by simp; omega
                  go_wp2_with fail
                  by_cases hat : at_ < at0
                  · obtain rfl : b6 = true := HB6'.out.trans (decide_eq_true hat)
                    go_quiet (fail)
                    go_wp2_with fail
                    go_ret
                    exact ⟨ret_int ((HV.out.1 (by rw [HE'.out]; simp [sE])).trans HE'.out).symm, below_drewN HB4.out _⟩
                  · obtain rfl : b6 = false := HB6'.out.trans (decide_eq_false hat)
                    have HI1 := Lib.hid (HV.out.2 HE'.out)
                    go_quiet (fail)
                    go_wp2_with fail
                    go_roundw
                    case rel => exact ⟨k + 1, by omega, by go_num, below_drewN HB4.out _, HI1.out⟩
                    case measure => simp [intOf]; omega
                · have hd0 : decide (0 < (k : Int)) = false := by simp; omega
                  obtain rfl : b6 = false := HB6.out.symm.trans (by obtain rfl : k = 0 := by omega
                                                                    exact HL0.out)
                  have HI1 := Lib.hid (HV.out.2 HE'.out)
                  clear HL HL0 HB6
                  go_wp2_with fail
                  go_quiet (fail)
                  go_wp2_with fail
                  go_roundw
                  case rel => exact ⟨k + 1, by omega, by go_num, below_drewN HB4.out _, HI1.out⟩
                  case measure => simp [intOf]; omega
    · have HD := Lib.hid (hV.done (by have := HN.out; omega))
      go_wp2_with fail
      go_ret
      exact ⟨ret_int HD.out.symm, hB⟩
end Go.Proofs.YtgdagknjnidmiaaGreatDoor
