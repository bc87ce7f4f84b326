/- What is wrong with budgets: offer.CheckBudgets, handref1.BudgetsFault (printed by gen_checkbud.py). -/
import Derived.Test.YtdnikegakcdcnaaDoorBudIdx
import Derived.Test.YtdnikegakcdcnaaDoorOffers
import Derived.Test.YtdnikegakcdcnaaDoorKeyOf
set_option linter.unusedVariables false
namespace Go.Proofs.YtdnikegakcdcnaaDoor
open Go.RowKit

theorem bdB_no (x : Bd) (h : x.cents < 0 ∨ 1000000000000 < x.cents ∨ x.first < 0 ∨ x.last < x.first ∨ 3000 < x.last) : bdB x = false := by
  unfold bdB
  simp only [Bool.and_eq_false_iff, decide_eq_false_iff_not]
  omega
theorem bdB_yes (x : Bd) (h0 : 0 ≤ x.cents) (h1 : x.cents ≤ 1000000000000) (h2 : 0 ≤ x.first) (h3 : x.first ≤ x.last) (h4 : x.last ≤ 3000) : bdB x = true := by
  unfold bdB
  simp [h0, h1, h2, h3, h4]

set_option maxRecDepth 100000 in
set_option maxHeartbeats 4000000 in
theorem CheckBudgets_any (a : Option Addr) (l : List Bd) (n c : Nat) (w : World) (hn : l.length = n) (hn1 : n ≤ 50) (hc : n ≤ c) (hc' : c ≤ maxLen) (hI : RAt w a 5 Bd.cells l) (hok : ∀ x ∈ l, x.ok) :
    Calls Tryd.prog 52 #[.slice a n c] w fun e w' => e = .returned (.int .i64 (budE l)) ∧ Below w.heap.size w w' := by
  unfold maxLen at hc'
  have HN := Lib.hid hn
  have HI := Lib.hid hI
  have HOK := Lib.hid hok
  clear hn hI hok
  go_enter Tryd.func52, Tryd.ntmps52
  go_wp2_with fail
  go_loopw [3, 4, 10] (fun _ _ i wr => ∃ k : Nat, k ≤ n ∧ i = .int .i64 k ∧ Below w.heap.size w wr ∧ BudInv l k) (fun _ _ i _ => n - (intOf i).toNat)
  case atStart => exact ⟨0, Nat.zero_le _, rfl, Below.refl _ _, BudInv.zero l⟩
  case round =>
    obtain ⟨k, hk, rfl, hB, hV⟩ := hrel
    by_cases hlt : k < n
    · have hkl : k < l.length := by have := HN.out; omega
      obtain ⟨p, off, rfl, hp, c0, c1, c2, c3, c4⟩ := (HI.out.below hB).at5 hkl (v0 := .string l[k].key) (v1 := .int .i64 l[k].cents) (v2 := .int .i64 l[k].first) (v3 := .int .i64 l[k].last) (v4 := .bool l[k].pace) rfl
      obtain ⟨ok1, ok2, ok3, ok4, ok5, ok6, ok7⟩ := HOK.out l[k] (List.getElem_mem hkl)
      have HV := Lib.hid (hV.step hkl)
      have HE := Lib.hid (show bstepE (l.take k) l[k] = bE (keyB l[k].key) (hasS ((l.take k).map Bd.key) l[k].key) (bdB l[k]) from rfl)
      have HNO := Lib.hid (bdB_no l[k])
      have HYES := Lib.hid (bdB_yes l[k])
      generalize l[k] = x at *
      obtain ⟨key, cents, first, last, pace⟩ := x
      simp only at c0 c1 c2 c3 c4 ok1 ok2 ok3 ok4 ok5 ok6 ok7 HNO HYES HE
      have C1 := Lib.hid (fun w => isKey_any key w (by unfold maxLen; omega))
      have C2 := Lib.hid (fun w' (hb : Below w.heap.size w w') q hq => checkBudHas_any (some ⟨p, off, none⟩) (l.take k) k c q key w' (by simp; omega) (by omega) ((HI.out.below hb).take k) hq)
      generalize hasS ((l.take k).map Bd.key) key = b2 at *
      generalize bdB ⟨key, cents, first, last, pace⟩ = b3 at *
      generalize keyB key = b1 at *
      have X0 := Lib.hid (XB.new wr [.string key, .int .i64 cents, .int .i64 first, .int .i64 last, .bool pace] 81)
      have HB := Lib.hid (hB.alloc hB.size (.cells #[.string key, .int .i64 cents, .int .i64 first, .int .i64 last, .bool pace] 81))
      go_wp2_with fail
      with_reducible refine (C1.out _).mono ?_
      rintro e w1 ⟨rfl, rfl⟩
      have d1 : Below (wr.alloc (.cells #[.string key, .int .i64 cents, .int .i64 first, .int .i64 last, .bool pace] 81)).heap.size (wr.alloc (.cells #[.string key, .int .i64 cents, .int .i64 first, .int .i64 last, .bool pace] 81)) (wr.alloc (.cells #[.string key, .int .i64 cents, .int .i64 first, .int .i64 last, .bool pace] 81)) := Below.refl _ _
      have HB1 := Lib.hid (HB.out.trans (d1.mono HB.out.size))
      have X1 := X0.out.below d1
      obtain ⟨x0, x1, x2, x3, x4⟩ := X1.at5
      have hq := X1.1
      have HX1 := Lib.hid X1
      clear X0 HB X1 d1
      cases b1 with
      | false =>
        go_wp2_with fail
        go_ret
        exact ⟨ret_int ((HV.out.1 (by rw [HE.out]; simp [bE])).trans HE.out).symm, HB1.out⟩
      | true =>
        go_wp2_with fail
        with_reducible refine (C2.out _ HB1.out _ x0).mono ?_
        rintro e w2 ⟨rfl, d2⟩
        have HB2 := Lib.hid (HB1.out.trans (d2.mono HB1.out.size))
        have X2 := HX1.out.below d2
        clear x0 x1 x2 x3 x4 hq
        obtain ⟨x0, x1, x2, x3, x4⟩ := X2.at5
        have hq := X2.1
        clear HX1 HB1 X2 d2 C1 C2
        cases b2 with
        | true =>
          go_wp2_with fail
          go_ret
          exact ⟨ret_int ((HV.out.1 (by rw [HE.out]; simp [bE])).trans HE.out).symm, HB2.out⟩
        | false =>
          by_cases h01 : cents < 0 ∨ 1000000000000 < cents
          · obtain rfl : b3 = false := HNO.out (by omega)
            go_wp2_with fail
            with_reducible refine (owithin_no _ _ _ _ h01).mono ?_
            rintro e w3 ⟨rfl, rfl⟩
            go_wp2_with fail
            go_ret
            exact ⟨ret_int ((HV.out.1 (by rw [HE.out]; simp [bE])).trans HE.out).symm, HB2.out⟩
          · have q0 : 0 ≤ cents := by omega
            have q1 : cents ≤ 1000000000000 := by omega
            clear h01
            go_wp2_with fail
            with_reducible refine (owithin_yes _ _ _ _ q0 q1).mono ?_
            rintro e w3 ⟨rfl, rfl⟩
            by_cases h2 : first < 0
            · obtain rfl : b3 = false := HNO.out (.inr (.inr (.inl h2)))
              go_wp2_with fail
              go_ret
              exact ⟨ret_int ((HV.out.1 (by rw [HE.out]; simp [bE])).trans HE.out).symm, HB2.out⟩
            · skip
              by_cases h3 : last < first
              · obtain rfl : b3 = false := HNO.out (.inr (.inr (.inr (.inl h3))))
                go_wp2_with fail
                go_ret
                exact ⟨ret_int ((HV.out.1 (by rw [HE.out]; simp [bE])).trans HE.out).symm, HB2.out⟩
              · skip
                by_cases h4 : 3000 < last
                · obtain rfl : b3 = false := HNO.out (.inr (.inr (.inr (.inr h4))))
                  go_wp2_with fail
                  go_ret
                  exact ⟨ret_int ((HV.out.1 (by rw [HE.out]; simp [bE])).trans HE.out).symm, HB2.out⟩
                · have HY := Lib.hid (HYES.out (by omega) (by omega) (by omega) (by omega) (by omega))
                  obtain rfl : b3 = true := HY.out
                  have HI1 := Lib.hid (HV.out.2 HE.out)
                  go_wp2_with fail
                  go_roundw
                  case rel => exact ⟨k + 1, by omega, by go_num, HB2.out, HI1.out⟩
                  case measure => simp [intOf]; omega
    · have HD := Lib.hid (hV.done (by have := HN.out; omega))
      go_wp2_with fail
      go_ret
      exact ⟨ret_int HD.out.symm, hB⟩

set_option maxRecDepth 100000 in
set_option maxHeartbeats 4000000 in
theorem BudgetsFault_any (a : Option Addr) (l : List Bd) (n c : Nat) (w : World) (hn : l.length = n) (hn1 : n ≤ 50) (hc : n ≤ c) (hc' : c ≤ maxLen) (hI : RAt w a 5 Bd.cells l) (hok : ∀ x ∈ l, x.ok) :
    Calls Tryd.prog 51 #[.slice a n c] w fun e w' => e = .returned (.int .i64 (budE l)) ∧ Below w.heap.size w w' := by
  unfold maxLen at hc'
  have HN := Lib.hid hn
  have HI := Lib.hid hI
  have HOK := Lib.hid hok
  clear hn hI hok
  go_enter Tryd.func51, Tryd.ntmps51
  go_wp2_with fail
  go_loopw [3, 4, 10] (fun _ _ i wr => ∃ k : Nat, k ≤ n ∧ i = .int .i64 k ∧ Below w.heap.size w wr ∧ BudInv l k) (fun _ _ i _ => n - (intOf i).toNat)
  case atStart => exact ⟨0, Nat.zero_le _, rfl, Below.refl _ _, BudInv.zero l⟩
  case round =>
    obtain ⟨k, hk, rfl, hB, hV⟩ := hrel
    by_cases hlt : k < n
    · have hkl : k < l.length := by have := HN.out; omega
      obtain ⟨p, off, rfl, hp, c0, c1, c2, c3, c4⟩ := (HI.out.below hB).at5 hkl (v0 := .string l[k].key) (v1 := .int .i64 l[k].cents) (v2 := .int .i64 l[k].first) (v3 := .int .i64 l[k].last) (v4 := .bool l[k].pace) rfl
      obtain ⟨ok1, ok2, ok3, ok4, ok5, ok6, ok7⟩ := HOK.out l[k] (List.getElem_mem hkl)
      have HV := Lib.hid (hV.step hkl)
      have HE := Lib.hid (show bstepE (l.take k) l[k] = bE (keyB l[k].key) (hasS ((l.take k).map Bd.key) l[k].key) (bdB l[k]) from rfl)
      have HNO := Lib.hid (bdB_no l[k])
      have HYES := Lib.hid (bdB_yes l[k])
      generalize l[k] = x at *
      obtain ⟨key, cents, first, last, pace⟩ := x
      simp only at c0 c1 c2 c3 c4 ok1 ok2 ok3 ok4 ok5 ok6 ok7 HNO HYES HE
      have C1 := Lib.hid (fun w => keyOf_any key w (by unfold maxLen; omega))
      have C2 := Lib.hid (fun w' (hb : Below w.heap.size w w') q hq => budFaultHas_any (some ⟨p, off, none⟩) (l.take k) k c q key w' (by simp; omega) (by omega) ((HI.out.below hb).take k) hq)
      generalize hasS ((l.take k).map Bd.key) key = b2 at *
      generalize bdB ⟨key, cents, first, last, pace⟩ = b3 at *
      generalize keyB key = b1 at *
      have X0 := Lib.hid (XB.new wr [.string key, .int .i64 cents, .int .i64 first, .int .i64 last, .bool pace] 81)
      have HB := Lib.hid (hB.alloc hB.size (.cells #[.string key, .int .i64 cents, .int .i64 first, .int .i64 last, .bool pace] 81))
      go_wp2_with fail
      with_reducible refine (C1.out _).mono ?_
      rintro e w1 ⟨rfl, d1⟩
      have HB1 := Lib.hid (HB.out.trans (d1.mono HB.out.size))
      have X1 := X0.out.below d1
      obtain ⟨x0, x1, x2, x3, x4⟩ := X1.at5
      have hq := X1.1
      have HX1 := Lib.hid X1
      clear X0 HB X1 d1
      cases b1 with
      | false =>
        go_wp2_with fail
        go_ret
        exact ⟨ret_int ((HV.out.1 (by rw [HE.out]; simp [bE])).trans HE.out).symm, HB1.out⟩
      | true =>
        go_wp2_with fail
        with_reducible refine (C2.out _ HB1.out _ x0).mono ?_
        rintro e w2 ⟨rfl, d2⟩
        have HB2 := Lib.hid (HB1.out.trans (d2.mono HB1.out.size))
        have X2 := HX1.out.below d2
        clear x0 x1 x2 x3 x4 hq
        obtain ⟨x0, x1, x2, x3, x4⟩ := X2.at5
        have hq := X2.1
        clear HX1 HB1 X2 d2 C1 C2
        cases b2 with
        | true =>
          go_wp2_with fail
          go_ret
          exact ⟨ret_int ((HV.out.1 (by rw [HE.out]; simp [bE])).trans HE.out).symm, HB2.out⟩
        | false =>
          by_cases h0 : cents < 0
          · obtain rfl : b3 = false := HNO.out (.inl h0)
            go_wp2_with fail
            go_ret
            exact ⟨ret_int ((HV.out.1 (by rw [HE.out]; simp [bE])).trans HE.out).symm, HB2.out⟩
          · skip
            by_cases h1 : 1000000000000 < cents
            · obtain rfl : b3 = false := HNO.out (.inr (.inl h1))
              go_wp2_with fail
              go_ret
              exact ⟨ret_int ((HV.out.1 (by rw [HE.out]; simp [bE])).trans HE.out).symm, HB2.out⟩
            · skip
              by_cases h2 : first < 0
              · obtain rfl : b3 = false := HNO.out (.inr (.inr (.inl h2)))
                go_wp2_with fail
                go_ret
                exact ⟨ret_int ((HV.out.1 (by rw [HE.out]; simp [bE])).trans HE.out).symm, HB2.out⟩
              · skip
                by_cases h3 : last < first
                · obtain rfl : b3 = false := HNO.out (.inr (.inr (.inr (.inl h3))))
                  go_wp2_with fail
                  go_ret
                  exact ⟨ret_int ((HV.out.1 (by rw [HE.out]; simp [bE])).trans HE.out).symm, HB2.out⟩
                · skip
                  by_cases h4 : 3000 < last
                  · obtain rfl : b3 = false := HNO.out (.inr (.inr (.inr (.inr h4))))
                    go_wp2_with fail
                    go_ret
                    exact ⟨ret_int ((HV.out.1 (by rw [HE.out]; simp [bE])).trans HE.out).symm, HB2.out⟩
                  · have HY := Lib.hid (HYES.out (by omega) (by omega) (by omega) (by omega) (by omega))
                    obtain rfl : b3 = true := HY.out
                    have HI1 := Lib.hid (HV.out.2 HE.out)
                    go_wp2_with fail
                    go_roundw
                    case rel => exact ⟨k + 1, by omega, by go_num, HB2.out, HI1.out⟩
                    case measure => simp [intOf]; omega
    · have HD := Lib.hid (hV.done (by have := HN.out; omega))
      go_wp2_with fail
      go_ret
      exact ⟨ret_int HD.out.symm, hB⟩
end Go.Proofs.YtdnikegakcdcnaaDoor
