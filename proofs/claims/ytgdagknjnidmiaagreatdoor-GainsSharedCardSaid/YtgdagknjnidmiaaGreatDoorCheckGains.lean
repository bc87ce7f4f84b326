/- measure.CheckGains and handref1.GainsFault. -/
import Derived.Test.YtgdagknjnidmiaaGreatDoorGainHas
set_option linter.unusedVariables false
namespace Go.Proofs.YtgdagknjnidmiaaGreatDoor
open Go.RowKit

theorem centW_any (n : Int) (w : World) : Calls Tryz.prog 30 #[.int .i64 n, .int .i64 0, .int .i64 1000000000000] w fun e w' => e = .returned (.bool (centB n)) ∧ w = w' := by
  by_cases h : 0 ≤ n ∧ n ≤ 1000000000000
  · rw [show centB n = true from decide_eq_true h]
    exact within_yes _ _ _ _ h.1 h.2
  · rw [show centB n = false from decide_eq_false h]
    exact within_no _ _ _ _ (by omega)

set_option maxRecDepth 100000 in
set_option maxHeartbeats 4000000 in
theorem CheckGains_any (a : Option Addr) (l : List Gn) (n c : Nat) (w : World) (hn : l.length = n) (hn1 : n ≤ 1000) (hI : RAt w a 4 Gn.cells l) (hok : ∀ x ∈ l, x.ok) :
    Calls Tryz.prog 48 #[.slice a n c] w fun e w' => e = .returned (.int .i64 (gainE l)) ∧ Below w.heap.size w w' := by
  have HN := Lib.hid hn
  have HI := Lib.hid hI
  have HOK := Lib.hid hok
  have hmm := @run_makeMap Tryz.prog
  clear hn hI hok
  go_enter Tryz.func48, Tryz.ntmps48
  go_wp2_with fail
  go_loopw [5, 12] (fun _ i wr => ∃ k : Nat, k ≤ n ∧ i = .int .i64 k ∧ Seen wr w.heap.size k (gidsOf l k) ∧ Below w.heap.size w wr ∧ GainInv l k) (fun _ i _ => n - (intOf i).toNat)
  case atStart => exact ⟨0, Nat.zero_le _, rfl, Seen.made w, (Below.refl _ _).alloc (Nat.le_refl _) _, GainInv.zero l⟩
  case round =>
    obtain ⟨k, hk, rfl, hS, hB, hV⟩ := hrel
    by_cases hlt : k < n
    · have hkl : k < l.length := by have := HN.out; omega
      obtain ⟨p, off, rfl, hp, c0, c1, c2, c3⟩ := (HI.out.below hB).at4 hkl (v0 := .string l[k].id) (v1 := .string l[k].person) (v2 := .int .i64 l[k].at_) (v3 := .int .i64 l[k].cents) rfl
      obtain ⟨ok1, ok2, ok3, ok4, ok5, ok6⟩ := HOK.out l[k] (List.getElem_mem hkl)
      have HV := Lib.hid (hV.step hkl)
      have HT := Lib.hid (gidsOf_succ l k hkl)
      have HE := Lib.hid (show gstepE (l.take k) l[k] = gE (keyB l[k].id) (hasS (gidsOf l k) l[k].id) (keyB l[k].person) (momB l[k].at_) (centB l[k].cents) from rfl)
      generalize l[k] = x at *
      obtain ⟨id, person, at_, cents⟩ := x
      simp only at c0 c1 c2 c3 ok1 ok2 ok3 ok4 ok5 ok6
      have hS0 := hS
      have C1 := Lib.hid (fun w => isKey_any id w (by unfold maxLen; omega))
      have C3 := Lib.hid (fun w => isKey_any person w (by unfold maxLen; omega))
      have C4 := Lib.hid (fun w => isMoment_any at_ w)
      have C5 := Lib.hid (fun w => centW_any cents w)
      obtain ⟨b2, hb2⟩ : ∃ b, hasS (gidsOf l k) id = b := ⟨_, rfl⟩
      have HE' := Lib.hid (HE.out.trans (show _ = gE (keyB id) b2 (keyB person) (momB at_) (centB cents) by show gE _ (hasS _ id) _ _ _ = _; rw [hb2]))
      have HB2 := Lib.hid hb2
      clear HE hb2 hV hS
      generalize keyB id = b1 at *
      generalize keyB person = b3 at *
      generalize momB at_ = b4 at *
      generalize centB cents = b5 at *
      have HS := Lib.hid (hS0.alloc (.cells #[.string id, .string person, .int .i64 at_, .int .i64 cents] 102))
      have HB := Lib.hid (hB.alloc hB.size (.cells #[.string id, .string person, .int .i64 at_, .int .i64 cents] 102))
      clear hS0
      go_wp2_with fail
      with_reducible refine (C1.out _).mono ?_
      rintro e w1 ⟨rfl, rfl⟩
      cases b1 with
      | false =>
        go_wp2_with fail
        go_ret
        exact ⟨ret_int ((HV.out.1 (by rw [HE'.out]; simp [gE])).trans HE'.out).symm, HB.out⟩
      | true =>
        cases b2 with
        | true =>
          go_wp2_with (at_lookup; refine wpList_lookup_seen _ rfl _ _ rfl _ _ _ rfl HS.out _ rfl (by unfold maxLen; omega) true HB2.out ?_)
          go_ret
          exact ⟨ret_int ((HV.out.1 (by rw [HE'.out]; simp [gE])).trans HE'.out).symm, HB.out⟩
        | false =>
          go_wp2_with (at_lookup; refine wpList_lookup_seen _ rfl _ _ rfl _ _ _ rfl HS.out _ rfl (by unfold maxLen; omega) false HB2.out ?_)
          with_reducible refine (C3.out _).mono ?_
          rintro e w1 ⟨rfl, rfl⟩
          cases b3 with
          | false =>
            go_wp2_with fail
            go_ret
            exact ⟨ret_int ((HV.out.1 (by rw [HE'.out]; simp [gE])).trans HE'.out).symm, HB.out⟩
          | true =>
            go_wp2_with fail
            with_reducible refine (C4.out _).mono ?_
            rintro e w1 ⟨rfl, rfl⟩
            cases b4 with
            | false =>
              go_wp2_with fail
              go_ret
              exact ⟨ret_int ((HV.out.1 (by rw [HE'.out]; simp [gE])).trans HE'.out).symm, HB.out⟩
            | true =>
              go_wp2_with fail
              with_reducible refine (C5.out _).mono ?_
              rintro e w1 ⟨rfl, rfl⟩
              cases b5 with
              | false =>
                go_wp2_with fail
                go_ret
                exact ⟨ret_int ((HV.out.1 (by rw [HE'.out]; simp [gE])).trans HE'.out).symm, HB.out⟩
              | true =>
                clear C1 C3 C4 C5 HB2
                have HI1 := Lib.hid (HV.out.2 HE'.out)
                go_wp2_with (at_mapUpdate; refine wpList_update_seen _ rfl _ _ _ rfl _ _ _ rfl HS.out (by unfold maxLen; omega) _ rfl rfl (by unfold maxLen; omega) ?_)
                intro w2 hS2 hg2
                rw [← HT.out] at hS2
                have HS2 := Lib.hid hS2
                have HB2 := Lib.hid (HB.out.grown hg2 (by have := hB.size; simp; omega) (fun q hq => by injection hq with hq; omega))
                clear hS2 hg2 HS HB
                go_wp2_with fail
                go_roundw
                case rel => exact ⟨k + 1, by omega, by go_num, HS2.out, HB2.out, HI1.out⟩
                case measure => simp [intOf]; omega
    · have HD := Lib.hid (hV.done (by have := HN.out; omega))
      go_wp2_with fail
      go_ret
      exact ⟨ret_int HD.out.symm, hB⟩

set_option maxRecDepth 100000 in
set_option maxHeartbeats 4000000 in
theorem GainsFault_any (a : Option Addr) (l : List Gn) (n c : Nat) (w : World) (hn : l.length = n) (hn1 : n ≤ 1000) (hc : n ≤ c) (hc' : c ≤ maxLen) (hI : RAt w a 4 Gn.cells l) (hok : ∀ x ∈ l, x.ok) :
    Calls Tryz.prog 54 #[.slice a n c] w fun e w' => e = .returned (.int .i64 (gainE l)) ∧ Below w.heap.size w w' := by
  unfold maxLen at hc'
  have HN := Lib.hid hn
  have HI := Lib.hid hI
  have HOK := Lib.hid hok
  clear hn hI hok
  go_enter Tryz.func54, Tryz.ntmps54
  go_wp2_with fail
  go_loopw [3, 4, 10] (fun _ _ i wr => ∃ k : Nat, k ≤ n ∧ i = .int .i64 k ∧ Below w.heap.size w wr ∧ GainInv l k) (fun _ _ i _ => n - (intOf i).toNat)
  case atStart => exact ⟨0, Nat.zero_le _, rfl, Below.refl _ _, GainInv.zero l⟩
  case round =>
    obtain ⟨k, hk, rfl, hB, hV⟩ := hrel
    by_cases hlt : k < n
    · have hkl : k < l.length := by have := HN.out; omega
      obtain ⟨p, off, rfl, hp, c0, c1, c2, c3⟩ := (HI.out.below hB).at4 hkl (v0 := .string l[k].id) (v1 := .string l[k].person) (v2 := .int .i64 l[k].at_) (v3 := .int .i64 l[k].cents) rfl
      obtain ⟨ok1, ok2, ok3, ok4, ok5, ok6⟩ := HOK.out l[k] (List.getElem_mem hkl)
      have HV := Lib.hid (hV.step hkl)
      have HE := Lib.hid (show gstepE (l.take k) l[k] = gE (keyB l[k].id) (hasS (gidsOf l k) l[k].id) (keyB l[k].person) (momB l[k].at_) (centB l[k].cents) from rfl)
      generalize l[k] = x at *
      obtain ⟨id, person, at_, cents⟩ := x
      simp only at c0 c1 c2 c3 ok1 ok2 ok3 ok4 ok5 ok6
      have C1 := Lib.hid (fun w => keyOf_any id w (by unfold maxLen; omega))
      have C3 := Lib.hid (fun w => keyOf_any person w (by unfold maxLen; omega))
      have C4 := Lib.hid (fun w => moment_any at_ w)
      have C2 := Lib.hid (fun w' (hb : Below w.heap.size w w') q hq => gainHas_any (some ⟨p, off, none⟩) (l.take k) k c q id w' (by simp; omega) (by omega) ((HI.out.below hb).take k) hq)
      obtain ⟨b2, hb2⟩ : ∃ b, hasS (gidsOf l k) id = b := ⟨_, rfl⟩
      rw [gidsOf_take l k, hb2] at C2
      have HE' := Lib.hid (HE.out.trans (show _ = gE (keyB id) b2 (keyB person) (momB at_) (centB cents) by show gE _ (hasS _ id) _ _ _ = _; rw [hb2]))
      have H5 := Lib.hid (show centB cents = decide (0 ≤ cents ∧ cents ≤ 1000000000000) from rfl)
      clear HE hb2 hV
      generalize keyB id = b1 at *
      generalize keyB person = b3 at *
      generalize momB at_ = b4 at *
      generalize centB cents = b5 at *
      have X0 := Lib.hid (XB.new wr [.string id, .string person, .int .i64 at_, .int .i64 cents] 102)
      have HB := Lib.hid (hB.alloc hB.size (.cells #[.string id, .string person, .int .i64 at_, .int .i64 cents] 102))
      go_wp2_with fail
      with_reducible refine (C1.out _).mono ?_
      rintro e w1 ⟨rfl, d1⟩
      have HB1 := Lib.hid (HB.out.trans (d1.mono HB.out.size))
      have X1 := X0.out.below d1
      obtain ⟨x0, x1, x2, x3⟩ := X1.at4
      have hq := X1.1
      have HX1 := Lib.hid X1
      clear X0 HB X1 d1
      cases b1 with
      | false =>
        go_wp2_with fail
        go_ret
        exact ⟨ret_int ((HV.out.1 (by rw [HE'.out]; simp [gE])).trans HE'.out).symm, HB1.out⟩
      | true =>
        go_wp2_with fail
        with_reducible refine (C2.out _ HB1.out _ x0).mono ?_
        rintro e w2 ⟨rfl, d2⟩
        have HB2 := Lib.hid (HB1.out.trans (d2.mono HB1.out.size))
        have X2 := HX1.out.below d2
        clear x0 x1 x2 x3 hq
        obtain ⟨x0, x1, x2, x3⟩ := X2.at4
        have hq := X2.1
        have HX2 := Lib.hid X2
        clear HX1 HB1 X2 d2
        cases b2 with
        | true =>
          go_wp2_with fail
          go_ret
          exact ⟨ret_int ((HV.out.1 (by rw [HE'.out]; simp [gE])).trans HE'.out).symm, HB2.out⟩
        | false =>
          go_wp2_with fail
          with_reducible refine (C3.out _).mono ?_
          rintro e w3 ⟨rfl, d3⟩
          have HB3 := Lib.hid (HB2.out.trans (d3.mono HB2.out.size))
          have X3 := HX2.out.below d3
          clear x0 x1 x2 x3 hq
          obtain ⟨x0, x1, x2, x3⟩ := X3.at4
          have hq := X3.1
          clear HX2 HB2 X3 d3
          cases b3 with
          | false =>
            go_wp2_with fail
            go_ret
            exact ⟨ret_int ((HV.out.1 (by rw [HE'.out]; simp [gE])).trans HE'.out).symm, HB3.out⟩
          | true =>
            go_wp2_with fail
            with_reducible refine (C4.out _).mono ?_
            rintro e w4 ⟨rfl, rfl⟩
            clear C1 C2 C3 C4
            cases b4 with
            | false =>
              go_wp2_with fail
              go_ret
              exact ⟨ret_int ((HV.out.1 (by rw [HE'.out]; simp [gE])).trans HE'.out).symm, HB3.out⟩
            | true =>
              by_cases h0 : cents < 0
              · obtain rfl : b5 = false := H5.out.trans (decide_eq_false (by omega))
                go_wp2_with fail
                go_ret
                exact ⟨ret_int ((HV.out.1 (by rw [HE'.out]; simp [gE])).trans HE'.out).symm, HB3.out⟩
              · by_cases h1 : 1000000000000 < cents
                · obtain rfl : b5 = false := H5.out.trans (decide_eq_false (by omega))
                  go_wp2_with fail
                  go_ret
                  exact ⟨ret_int ((HV.out.1 (by rw [HE'.out]; simp [gE])).trans HE'.out).symm, HB3.out⟩
                · obtain rfl : b5 = true := H5.out.trans (decide_eq_true (by omega))
                  have HI1 := Lib.hid (HV.out.2 HE'.out)
                  go_wp2_with fail
                  go_roundw
                  case rel => exact ⟨k + 1, by omega, by go_num, HB3.out, HI1.out⟩
                  case measure => simp [intOf]; omega
    · have HD := Lib.hid (hV.done (by have := HN.out; omega))
      go_wp2_with fail
      go_ret
      exact ⟨ret_int HD.out.symm, hB⟩
end Go.Proofs.YtgdagknjnidmiaaGreatDoor
