/- measure.checkActs and handref1.ActsFault (printed by gen_actchk.py). -/
import Derived.Test.YtgdagknjnidmiaaGreatDoorActP
set_option linter.unusedVariables false
namespace Go.Proofs.YtgdagknjnidmiaaGreatDoor
open Go.RowKit

theorem isAct_any (n : Int) (w : World) : Calls Tryz.prog 28 #[.int .i64 n] w fun e w' => e = .returned (.bool (kndB n)) ∧ w = w' := by
  by_cases h : 1 ≤ n ∧ n ≤ 4
  · have HB := Lib.hid (show kndB n = true from decide_eq_true h)
    obtain ⟨h1, h2⟩ := h
    go_enter Tryz.func28, Tryz.ntmps28
    go_wp2_with fail
    with_reducible refine (within_yes _ _ _ _ h1 h2).mono ?_
    rintro e w1 ⟨rfl, rfl⟩
    go_wp2
    go_ret
    exact ⟨ret_bool HB.out.symm, rfl⟩
  · have HB := Lib.hid (show kndB n = false from decide_eq_false h)
    have h' : n < 1 ∨ 4 < n := by omega
    clear h
    go_enter Tryz.func28, Tryz.ntmps28
    go_wp2_with fail
    with_reducible refine (within_no _ _ _ _ h').mono ?_
    rintro e w1 ⟨rfl, rfl⟩
    go_wp2
    go_ret
    exact ⟨ret_bool HB.out.symm, rfl⟩
def acV (b1 b2 b3 : Bool) (z : Int) : Int := if b1 = false then 5 else if b2 = false then 4 else if b3 = false then 1 else z
theorem acsF_step (acts : List Ac) (k : Nat) (h : k < acts.length) : acsF (acts.drop k) = acV (keyB acts[k].sent) (kndB acts[k].kind) (momB acts[k].at_) (acsF (acts.drop (k + 1))) := by
  rw [acsF_drop acts k h]
  unfold acfE acV
  cases keyB acts[k].sent <;> cases kndB acts[k].kind <;> cases momB acts[k].at_ <;> simp

set_option maxRecDepth 100000 in
set_option maxHeartbeats 4000000 in
theorem CheckActs_any (a : Option Addr) (l : List Ac) (n c : Nat) (w : World) (hn : l.length = n) (hn1 : n ≤ 1000) (hI : RAt w a 3 Ac.cells l) (hok : ∀ x ∈ l, x.ok) :
    Calls Tryz.prog 44 #[.slice a n c] w fun e w' => e = .returned (.int .i64 (acsF l)) ∧ Below w.heap.size w w' := by
  have HN := Lib.hid hn
  have HI := Lib.hid hI
  have HOK := Lib.hid hok
  obtain ⟨V, hV⟩ : ∃ V, acsF l = V := ⟨_, rfl⟩
  rw [hV]
  have HV := Lib.hid hV.symm
  clear hn hI hok hV
  go_enter Tryz.func44, Tryz.ntmps44
  go_wp2_with fail
  go_loopw [4, 10] (fun _ i wr => ∃ k : Nat, k ≤ n ∧ i = .int .i64 k ∧ Below w.heap.size w wr ∧ Hid (V = acsF (l.drop k))) (fun _ i _ => n - (intOf i).toNat)
  case atStart => exact ⟨0, Nat.zero_le _, rfl, Below.refl _ _, HV⟩
  case round =>
    obtain ⟨k, hk, rfl, hB, hH⟩ := hrel
    by_cases hlt : k < n
    · have hkl : k < l.length := by have := HN.out; omega
      obtain ⟨p, off, rfl, hp, c0, c1, c2⟩ := rat3 (HI.out.below hB) hkl (v0 := .string l[k].sent) (v1 := .int .i64 l[k].kind) (v2 := .int .i64 l[k].at_) rfl
      obtain ⟨ok1, ok2, ok3, ok4, ok5⟩ := HOK.out l[k] (List.getElem_mem hkl)
      have HE := Lib.hid (hH.out.trans (acsF_step l k hkl))
      generalize l[k] = x at *
      obtain ⟨id, kind, at_⟩ := x
      simp only at c0 c1 c2 ok1 ok2 ok3 ok4 ok5
      have C1 := Lib.hid (fun w => isKey_any id w (by unfold maxLen; omega))
      have C2 := Lib.hid (fun w => isAct_any kind w)
      have C3 := Lib.hid (fun w => isMoment_any at_ w)
      simp only at HE
      generalize keyB id = b1 at *
      generalize kndB kind = b2 at *
      generalize momB at_ = b3 at *
      have HB := Lib.hid (hB.alloc hB.size (.cells #[.string id, .int .i64 kind, .int .i64 at_] 65))
      clear hH
      go_wp2_with fail
      with_reducible refine (C1.out _).mono ?_
      rintro e w1 ⟨rfl, rfl⟩
      cases b1 with
      | false =>
        go_wp2_with fail
        go_ret
        exact ⟨ret_int (HE.out.trans (by simp [acV])).symm, HB.out⟩
      | true =>
        go_wp2_with fail
        with_reducible refine (C2.out _).mono ?_
        rintro e w1 ⟨rfl, rfl⟩
        cases b2 with
        | false =>
          go_wp2_with fail
          go_ret
          exact ⟨ret_int (HE.out.trans (by simp [acV])).symm, HB.out⟩
        | true =>
          go_wp2_with fail
          with_reducible refine (C3.out _).mono ?_
          rintro e w1 ⟨rfl, rfl⟩
          cases b3 with
          | false =>
            go_wp2_with fail
            go_ret
            exact ⟨ret_int (HE.out.trans (by simp [acV])).symm, HB.out⟩
          | true =>
            have HR := Lib.hid (HE.out.trans (show acV true true true (acsF (l.drop (k + 1))) = acsF (l.drop (k + 1)) by simp [acV]))
            clear C1 C2 C3 HE
            go_wp2_with fail
            go_roundw
            case rel => exact ⟨k + 1, by omega, by go_num, HB.out, HR⟩
            case measure => simp [intOf]; omega
    · have HD := Lib.hid (show V = 0 by rw [hH.out, List.drop_eq_nil_of_le (by rw [HN.out]; omega)]; rfl)
      have HB := Lib.hid hB
      clear hH hB
      go_wp2_with fail
      go_ret
      exact ⟨ret_int HD.out.symm, HB.out⟩

set_option maxRecDepth 100000 in
set_option maxHeartbeats 4000000 in
theorem ActsFault_any (a : Option Addr) (l : List Ac) (n c : Nat) (w : World) (hn : l.length = n) (hn1 : n ≤ 1000) (hI : RAt w a 3 Ac.cells l) (hok : ∀ x ∈ l, x.ok) :
    Calls Tryz.prog 45 #[.slice a n c] w fun e w' => e = .returned (.int .i64 (acsF l)) ∧ Below w.heap.size w w' := by
  have HN := Lib.hid hn
  have HI := Lib.hid hI
  have HOK := Lib.hid hok
  obtain ⟨V, hV⟩ : ∃ V, acsF l = V := ⟨_, rfl⟩
  rw [hV]
  have HV := Lib.hid hV.symm
  clear hn hI hok hV
  go_enter Tryz.func45, Tryz.ntmps45
  go_wp2_with fail
  go_loopw [4, 10] (fun _ i wr => ∃ k : Nat, k ≤ n ∧ i = .int .i64 k ∧ Below w.heap.size w wr ∧ Hid (V = acsF (l.drop k))) (fun _ i _ => n - (intOf i).toNat)
  case atStart => exact ⟨0, Nat.zero_le _, rfl, Below.refl _ _, HV⟩
  case round =>
    obtain ⟨k, hk, rfl, hB, hH⟩ := hrel
    by_cases hlt : k < n
    · have hkl : k < l.length := by have := HN.out; omega
      obtain ⟨p, off, rfl, hp, c0, c1, c2⟩ := rat3 (HI.out.below hB) hkl (v0 := .string l[k].sent) (v1 := .int .i64 l[k].kind) (v2 := .int .i64 l[k].at_) rfl
      obtain ⟨ok1, ok2, ok3, ok4, ok5⟩ := HOK.out l[k] (List.getElem_mem hkl)
      have HE := Lib.hid (hH.out.trans (acsF_step l k hkl))
      generalize l[k] = x at *
      obtain ⟨id, kind, at_⟩ := x
      simp only at c0 c1 c2 ok1 ok2 ok3 ok4 ok5
      have C1 := Lib.hid (fun w => keyOf_any id w (by unfold maxLen; omega))
      have H2 := Lib.hid (show kndB kind = decide (1 ≤ kind ∧ kind ≤ 4) from rfl)
      have C3 := Lib.hid (fun w => moment_any at_ w)
      simp only at HE
      generalize keyB id = b1 at *
      generalize kndB kind = b2 at *
      generalize momB at_ = b3 at *
      have HB := Lib.hid (hB.alloc hB.size (.cells #[.string id, .int .i64 kind, .int .i64 at_] 65))
      have X0 := Lib.hid (XB.new wr [.string id, .int .i64 kind, .int .i64 at_] 65)
      simp only [List.toArray] at X0
      clear hH
      go_wp2_with fail
      with_reducible refine (C1.out _).mono ?_
      rintro e w1 ⟨rfl, d1⟩
      have HB1 := Lib.hid (HB.out.trans (d1.mono HB.out.size))
      have X1 := X0.out.below d1
      have x1 := X1.2 1 _ rfl
      have x2 := X1.2 2 _ rfl
      have hq := X1.1
      clear X0 HB X1 d1
      cases b1 with
      | false =>
        go_wp2_with fail
        go_ret
        exact ⟨ret_int (HE.out.trans (by simp [acV])).symm, HB1.out⟩
      | true =>
        by_cases h1 : kind < 1
        · obtain rfl : b2 = false := H2.out.trans (decide_eq_false (by omega))
          go_wp2_with fail
          go_ret
          exact ⟨ret_int (HE.out.trans (by simp [acV])).symm, HB1.out⟩
        · by_cases h2 : 4 < kind
          · obtain rfl : b2 = false := H2.out.trans (decide_eq_false (by omega))
            go_wp2_with fail
            go_ret
            exact ⟨ret_int (HE.out.trans (by simp [acV])).symm, HB1.out⟩
          · obtain rfl : b2 = true := H2.out.trans (decide_eq_true (by omega))
            go_wp2_with fail
            with_reducible refine (C3.out _).mono ?_
            rintro e w2 ⟨rfl, rfl⟩
            cases b3 with
            | false =>
              go_wp2_with fail
              go_ret
              exact ⟨ret_int (HE.out.trans (by simp [acV])).symm, HB1.out⟩
            | true =>
              have HR := Lib.hid (HE.out.trans (show acV true true true (acsF (l.drop (k + 1))) = acsF (l.drop (k + 1)) by simp [acV]))
              clear C1 C3 HE x1 x2 hq
              go_wp2_with fail
              go_roundw
              case rel => exact ⟨k + 1, by omega, by go_num, HB1.out, HR⟩
              case measure => simp [intOf]; omega
    · have HD := Lib.hid (show V = 0 by rw [hH.out, List.drop_eq_nil_of_le (by rw [HN.out]; omega)]; rfl)
      have HB := Lib.hid hB
      clear hH hB
      go_wp2_with fail
      go_ret
      exact ⟨ret_int HD.out.symm, HB.out⟩
end Go.Proofs.YtgdagknjnidmiaaGreatDoor
