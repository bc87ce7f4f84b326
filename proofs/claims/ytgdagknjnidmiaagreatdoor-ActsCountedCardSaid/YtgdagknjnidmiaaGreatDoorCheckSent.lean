/- measure.CheckSent. -/
import Derived.Test.YtgdagknjnidmiaaGreatDoorM1
set_option linter.unusedVariables false
namespace Go.Proofs.YtgdagknjnidmiaaGreatDoor
open Go.RowKit

set_option maxRecDepth 100000 in
set_option maxHeartbeats 4000000 in
theorem CheckSent_any (a : Option Addr) (l : List Snt) (n c : Nat) (w : World) (hn : l.length = n) (hn1 : n ≤ 1000) (hI : RAt w a 4 Snt.cells l) (hok : ∀ x ∈ l, x.ok) :
    Calls Tryz.prog 27 #[.slice a n c] w fun e w' => e = .returned (.int .i64 (sentE l)) ∧ Below w.heap.size w w' := by
  have HN := Lib.hid hn
  have HI := Lib.hid hI
  have HOK := Lib.hid hok
  have hmm := @run_makeMap Tryz.prog
  clear hn hI hok
  go_enter Tryz.func27, Tryz.ntmps27
  go_wp2_with fail
  go_loopw [4, 5, 12] (fun _ _ i wr => ∃ k : Nat, k ≤ n ∧ i = .int .i64 k ∧ Seen wr w.heap.size k (idsOf l k) ∧ Below w.heap.size w wr ∧ SentInv l k) (fun _ _ i _ => n - (intOf i).toNat)
  case atStart => exact ⟨0, Nat.zero_le _, rfl, Seen.made w, (Below.refl _ _).alloc (Nat.le_refl _) _, SentInv.zero l⟩
  case round =>
    obtain ⟨k, hk, rfl, hS, hB, hV⟩ := hrel
    by_cases hlt : k < n
    · have hkl : k < l.length := by have := HN.out; omega
      obtain ⟨p, off, rfl, hp, c0, c1, c2, c3⟩ := (HI.out.below hB).at4 hkl (v0 := .string l[k].id) (v1 := .string l[k].person) (v2 := .string l[k].letter) (v3 := .int .i64 l[k].at_) rfl
      obtain ⟨ok1, ok2, ok3, ok4, ok5⟩ := HOK.out l[k] (List.getElem_mem hkl)
      have HV := Lib.hid (hV.step hkl)
      have HT := Lib.hid (idsOf_succ l k hkl)
      have HL := Lib.hid (fun h0 (h1 : k - 1 < l.length) => late_succ l l[k] k h0 h1)
      have HL0 := Lib.hid (late_zero l l[k])
      have HE := Lib.hid (show stepE (l.take k) l[k] = sE (keyB l[k].id) (hasS (idsOf l k) l[k].id) (keyB l[k].person) (keyB l[k].letter) (momB l[k].at_) (lateB (l.take k) l[k]) from rfl)
      generalize l[k] = x at *
      obtain ⟨id, person, letter, at_⟩ := x
      simp only at c0 c1 c2 c3 ok1 ok2 ok3 ok4 ok5
      have hS0 := hS
      have C1 := Lib.hid (fun w => isKey_any id w (by unfold maxLen; omega))
      have C3 := Lib.hid (fun w => isKey_any person w (by unfold maxLen; omega))
      have C4 := Lib.hid (fun w => isKey_any letter w (by unfold maxLen; omega))
      have C5 := Lib.hid (fun w => isMoment_any at_ w)
      obtain ⟨b2, hb2⟩ : ∃ b, hasS (idsOf l k) id = b := ⟨_, rfl⟩
      obtain ⟨b6, hb6⟩ : ∃ b, lateB (l.take k) ⟨id, person, letter, at_⟩ = b := ⟨_, rfl⟩
      have HE' := Lib.hid (HE.out.trans (show _ = sE (keyB id) b2 (keyB person) (keyB letter) (momB at_) b6 by rw [hb6]; show sE _ (hasS _ id) _ _ _ _ = _; rw [hb2]))
      have HB2 := Lib.hid hb2
      have HB6 := Lib.hid hb6
      clear HE hb2 hb6 hV hS
      generalize keyB id = b1 at *
      generalize keyB person = b3 at *
      generalize keyB letter = b4 at *
      generalize momB at_ = b5 at *
      have HS := Lib.hid (hS0.alloc (.cells #[.string id, .string person, .string letter, .int .i64 at_] 62))
      have HB := Lib.hid (hB.alloc hB.size (.cells #[.string id, .string person, .string letter, .int .i64 at_] 62))
      clear hS0
      go_wp2_with fail
      with_reducible refine (C1.out _).mono ?_
      rintro e w1 ⟨rfl, rfl⟩
      cases b1 with
      | false =>
        go_wp2_with fail
        go_ret
        exact ⟨ret_int ((HV.out.1 (by rw [HE'.out]; simp [sE])).trans HE'.out).symm, HB.out⟩
      | true =>
        cases b2 with
        | true =>
          go_wp2_with (at_lookup; refine wpList_lookup_seen _ rfl _ _ rfl _ _ _ rfl HS.out _ rfl (by unfold maxLen; omega) true HB2.out ?_)
          go_ret
          exact ⟨ret_int ((HV.out.1 (by rw [HE'.out]; simp [sE])).trans HE'.out).symm, HB.out⟩
        | false =>
          go_wp2_with (at_lookup; refine wpList_lookup_seen _ rfl _ _ rfl _ _ _ rfl HS.out _ rfl (by unfold maxLen; omega) false HB2.out ?_)
          with_reducible refine (C3.out _).mono ?_
          rintro e w1 ⟨rfl, rfl⟩
          cases b3 with
          | false =>
            go_wp2_with fail
            go_ret
            exact ⟨ret_int ((HV.out.1 (by rw [HE'.out]; simp [sE])).trans HE'.out).symm, HB.out⟩
          | true =>
            go_wp2_with fail
            with_reducible refine (C4.out _).mono ?_
            rintro e w1 ⟨rfl, rfl⟩
            cases b4 with
            | false =>
              go_wp2_with fail
              go_ret
              exact ⟨ret_int ((HV.out.1 (by rw [HE'.out]; simp [sE])).trans HE'.out).symm, HB.out⟩
            | true =>
              go_wp2_with fail
              with_reducible refine (C5.out _).mono ?_
              rintro e w1 ⟨rfl, rfl⟩
              cases b5 with
              | false =>
                go_wp2_with fail
                go_ret
                exact ⟨ret_int ((HV.out.1 (by rw [HE'.out]; simp [sE])).trans HE'.out).symm, HB.out⟩
              | true =>
                clear C1 C3 C4 C5 HB2
                by_cases hk0 : 0 < k
                · have hkl' : k - 1 < l.length := by omega
                  obtain ⟨p', off', ha', hp', -, -, -, c3'⟩ := (HI.out.below hB).at4 hkl' (v0 := .string l[k - 1].id) (v1 := .string l[k - 1].person) (v2 := .string l[k - 1].letter) (v3 := .int .i64 l[k - 1].at_) rfl
                  have e6 := HB6.out.symm.trans (HL.out hk0 hkl')
                  injection ha' with ha'
                  injection ha' with h1 h2
                  subst h1 h2
                  have HB6' := Lib.hid e6
                  generalize l[k - 1].at_ = at0 at *
                  clear e6 HL HL0 HB6
                  have hd0 : decide (0 < (k : Int)) = true := by simp; omega
                  go_wp2_with fail
                  have hc3 : (wr.alloc (.cells #[.string id, .string person, .string letter, .int .i64 at_] 62)).cell? ⟨p, off + (k - 1) * 4 + 3, none⟩ = some (.int .i64 at0) := (World.cell?_alloc_lt _ _ _ hp).trans c3'
                  by_cases hat : at_ < at0
                  · obtain rfl : b6 = true := HB6'.out.trans (decide_eq_true hat)
                    go_quiet (fail)
                    go_wp2_with fail
                    go_ret
                    exact ⟨ret_int ((HV.out.1 (by rw [HE'.out]; simp [sE])).trans HE'.out).symm, below_drewN HB.out _⟩
                  · obtain rfl : b6 = false := HB6'.out.trans (decide_eq_false hat)
                    have HI1 := Lib.hid (HV.out.2 HE'.out)
                    go_quiet (fail)
                    go_wp2_with (at_mapUpdate; refine wpList_update_seen _ rfl _ _ _ rfl _ _ _ rfl (HS.out.drewN _) (by unfold maxLen; omega) _ rfl rfl (by unfold maxLen; omega) ?_)
                    intro w2 hS2 hg2
                    rw [← HT.out] at hS2
                    have HS2 := Lib.hid hS2
                    have HB2 := Lib.hid ((below_drewN HB.out nq).grown hg2 (by have := hB.size; simp; omega) (fun q hq => by injection hq with hq; omega))
                    clear hS2 hg2 HS HB
                    go_wp2_with fail
                    go_roundw
                    case rel => exact ⟨k + 1, by omega, by go_num, HS2.out, HB2.out, HI1.out⟩
                    case measure => simp [intOf]; omega
                · have hd0 : decide (0 < (k : Int)) = false := by simp; omega
                  obtain rfl : b6 = false := HB6.out.symm.trans (by obtain rfl : k = 0 := by omega
                                                                    exact HL0.out)
                  have HI1 := Lib.hid (HV.out.2 HE'.out)
                  clear HL HL0 HB6
                  go_wp2_with fail
                  go_quiet (fail)
                  go_wp2_with (at_mapUpdate; refine wpList_update_seen _ rfl _ _ _ rfl _ _ _ rfl (HS.out.drewN _) (by unfold maxLen; omega) _ rfl rfl (by unfold maxLen; omega) ?_)
                  intro w2 hS2 hg2
                  rw [← HT.out] at hS2
                  have HS2 := Lib.hid hS2
                  have HB2 := Lib.hid ((below_drewN HB.out nq).grown hg2 (by have := hB.size; simp; omega) (fun q hq => by injection hq with hq; omega))
                  clear hS2 hg2 HS HB
                  go_wp2_with fail
                  go_roundw
                  case rel => exact ⟨k + 1, by omega, by go_num, HS2.out, HB2.out, HI1.out⟩
                  case measure => simp [intOf]; omega
    · have HD := Lib.hid (hV.done (by have := HN.out; omega))
      go_wp2_with fail
      go_ret
      exact ⟨ret_int HD.out.symm, hB⟩
end Go.Proofs.YtgdagknjnidmiaaGreatDoor
