/- offer.checkAll, offer.Together, offer.Fits, Stream.At (printed by gen_fitsfn.py). -/
import Derived.Test.YtdefjnefkdemiaaGreatDoorCheckOf
import Derived.Test.YtdefjnefkdemiaaGreatDoorM5
import Derived.Test.YtdefjnefkdemiaaGreatDoorM1
set_option linter.unusedVariables false
namespace Go.Proofs.YtdefjnefkdemiaaGreatDoor
open Go.RowKit

/-- what is wrong with offers, a basket and a moment -/
def chkV (e1 e2 : Int) (b : Bool) : Int := if e1 = 0 then if e2 = 0 then if b = true then 0 else 1 else e2 else e1
theorem chkV_0 {e1 e2 : Int} {b : Bool} (h : chkV e1 e2 b = 0) : e1 = 0 ∧ e2 = 0 ∧ b = true := by
  unfold chkV at h
  split at h
  · split at h
    · split at h
      · exact ⟨by assumption, by assumption, by assumption⟩
      · omega
    · omega
  · omega
theorem bkE_its {l : List It} {ship : Int} (h : bkE l ship = 0) : ∀ x ∈ l, itB x = true := by
  unfold bkE at h
  split at h
  · omega
  · rename_i h0
    exact itGo_ok l [] (by omega)
theorem ofE_one {x : Of} (h : ofE [x] = 0) : x.kind = 4 → x.tags.length = 0 := by
  intro h4
  unfold ofE ofGo at h
  split at h
  · rename_i h0
    unfold ofstepE ofSt at h0
    rw [h4] at h0
    by_cases ht : x.tags.length = 0
    · exact ht
    · have : (0 < x.tags.length) := by omega
      simp only [this, decide_true, Bool.and_true, if_true] at h0
      repeat' split at h0
      all_goals omega
  · rename_i h0
    exact absurd h h0

set_option maxRecDepth 100000 in
set_option maxHeartbeats 4000000 in
theorem checkAll_any (a : Option Addr) (l : List Of) (n c : Nat) (ai : Option Addr) (li : List It) (ni ci : Nat) (ship t : Int) (w : World) (hn : l.length = n) (hn1 : n ≤ 40) (hc : n ≤ c) (hc' : c ≤ maxLen) (hI : RAt w a 12 Of.cells l) (hTG : TagsAt Of.tv Of.tags w l) (hok : ∀ x ∈ l, x.ok)
    (hni : li.length = ni) (hni1 : ni ≤ 50) (hci : ni ≤ ci) (hci' : ci ≤ maxLen) (hIi : RAt w ai 4 It.cells li) (hTi : TagsAt It.tv It.tags w li) (hoki : ∀ x ∈ li, x.ok) :
    Calls Tryz.prog 27 #[.slice a n c, .agg #[.slice ai ni ci, .int .i64 ship], .int .i64 t] w fun e w' => e = .returned (.int .i64 (chkV (ofE l) (bkE li ship) (wB t 0 4321439))) ∧ Below w.heap.size w w' := by
  have C1 := Lib.hid (fun w' (hb : Below w.heap.size w w') => CheckOffers_any a l n c w' hn hn1 hc hc' (hI.below hb) (hTG.below hb) hok)
  have C2 := Lib.hid (fun w' (hb : Below w.heap.size w w') => CheckBasket_any ai li ni ci ship w' hni hni1 hci hci' (hIi.below hb) (hTi.below hb) hoki)
  have C3 := Lib.hid (oisMoment_any t)
  have HE := Lib.hid (Eq.refl (chkV (ofE l) (bkE li ship) (wB t 0 4321439)))
  generalize hV : chkV (ofE l) (bkE li ship) (wB t 0 4321439) = V at HE ⊢
  have HV := Lib.hid hV
  clear hV HE hI hTG hok hIi hTi hoki hn hni
  generalize ofE l = E1 at *
  generalize bkE li ship = E2 at *
  generalize wB t 0 4321439 = b at *
  have HB1 := Lib.hid ((Below.refl w.heap.size w).alloc (Nat.le_refl _) (.cells #[.slice ai ni ci, .int .i64 ship] 30))
  have HX1 := Lib.hid (XB.new w [.slice ai ni ci, .int .i64 ship] 30)
  simp only [List.toArray] at HX1
  clear hc' hci'
  go_enter Tryz.func27, Tryz.ntmps27
  go_upto_region 1 with (fail)
  generalize w.alloc (.cells #[.slice ai ni ci, .int .i64 ship] 30) = w1 at *
  go_wp2_with fail
  with_reducible refine (C1.out _ HB1.out).mono ?_
  rintro e w2 ⟨rfl, b2⟩
  have HB2 := Lib.hid (HB1.out.trans (b2.mono HB1.out.size))
  have HX2 := Lib.hid (HX1.out.below b2)
  clear b2 HX1 HB1 C1
  by_cases h1 : E1 = 0
  · subst h1
    obtain ⟨z0, z1⟩ := HX2.out.at2
    have hzl := HX2.out.1
    go_wp2_with fail
    with_reducible refine (C2.out _ HB2.out).mono ?_
    rintro e w3 ⟨rfl, b3⟩
    have HB3 := Lib.hid (HB2.out.trans (b3.mono HB2.out.size))
    clear b3 HX2 HB2 C2 z0 z1 hzl
    by_cases h2 : E2 = 0
    · subst h2
      go_wp2_with fail
      with_reducible refine (C3.out _).mono ?_
      rintro e w4 ⟨rfl, rfl⟩
      cases b with
      | true =>
        go_wp2_with fail
        go_ret
        exact ⟨ret_int (show (0 : Int) = V from HV.out), HB3.out⟩
      | false =>
        go_wp2_with fail
        go_ret
        exact ⟨ret_int (show (1 : Int) = V from HV.out), HB3.out⟩
    · have HR := Lib.hid (show E2 = V by rw [← HV.out]; unfold chkV; rw [if_pos rfl, if_neg h2])
      have e1 : (E2 == 0) = false := by simpa using h2
      have e2 : (E2 != 0) = true := by simpa using h2
      clear HV h2
      go_wp2_with fail
      go_ret
      exact ⟨ret_int HR.out, HB3.out⟩
  · have HR := Lib.hid (show E1 = V by rw [← HV.out]; unfold chkV; rw [if_neg h1])
    have e1 : (E1 == 0) = false := by simpa using h1
    have e2 : (E1 != 0) = true := by simpa using h1
    clear HV h1
    go_wp2_with fail
    go_ret
    exact ⟨ret_int HR.out, HB2.out⟩

theorem at_any (S : SC) (K : Nat) (w : World) (s0 : Strm w S K) (hK : K ≤ 10000) :
    Calls Tryz.prog 7 #[S.p] w (GenI S (K + 1) w fun r => -1 ≤ r ∧ r ≤ 4321440) := by
  go_enter Tryz.func7, Tryz.ntmps7
  go_wp2_with fail
  with_reducible refine (pick_at S _ [0, 0, 49, 50, 59, 60, 99, 100, 5000, -1, 4321440] 11 _ _ _ _ s0 (by omega) rfl (by omega) (by omega) (by simp) (by simp)).mono ?_
  rintro e w2 ⟨z, hm, rfl, k2, s2⟩
  have HZ := Lib.hid (show -1 ≤ z ∧ z ≤ 4321440 by
    simp only [List.mem_cons, List.mem_nil_iff, or_false] at hm
    omega)
  have HK := Lib.hid k2
  have HS := Lib.hid s2
  clear hm k2 s2 s0
  go_wp2_with fail
  go_ret
  exact ⟨z, HZ.out, rfl, HK.out, HS.out⟩
end Go.Proofs.YtdefjnefkdemiaaGreatDoor
