/- The walk of the statement PursesKept. -/
import Derived.Test.YtdnikegakcdcnaaDoorRow
import Derived.Test.YtdnikegakcdcnaaDoorRows
import Derived.Test.YtdnikegakcdcnaaDoorKp
import Derived.Test.YtdnikegakcdcnaaDoorPurseSt
import Derived.Test.YtdnikegakcdcnaaDoorReserve
import Derived.Test.YtdnikegakcdcnaaDoorTurn
import Derived.Test.YtdnikegakcdcnaaDoorHolds
import Derived.Test.YtdnikegakcdcnaaDoorRange
import Derived.Test.YtdnikegakcdcnaaDoorOffers
import Derived.LaidMore
import Derived.Deep.DeepCutAuto
import Derived.Deep.CutBlock
set_option linter.unusedVariables false
namespace Go.Proofs.YtdnikegakcdcnaaDoor
open Go.RowKit

theorem budE_bd (l : List Bd) (h : l.length ≤ 3) (x : Bd) (r : List Bd) (e : l = x :: r) : True := trivial

set_option maxRecDepth 100000 in
set_option maxHeartbeats 8000000 in
theorem pursesKept_walk (a0 : Option Addr) (len0 cap0 : Nat) (z0 : List Int) (w : World) (w0 : IsRow .i64 w a0 len0 cap0 z0) (ht : True) :
    Calls Tryd.prog 6 #[.slice a0 len0 cap0] w fun e w' => e = .returned (.bool true) ∧ Below w.heap.size w w' := by
  obtain ⟨S, hBS, hp, s0, g0⟩ := strm_begin w0
  clear w0 ht
  go_enter Tryd.func6, Tryd.ntmps6
  go_wp2_with fail
  clear hp
  with_reducible refine (budgets_any S _ _ s0 (by omega)).mono ?_
  rintro e w1 ⟨a, c, l, ⟨hll, hlo⟩, rfl, hI, hc, hcm, hag, k1, s1⟩
  have g1 := grown_trans g0 k1
  have HA1 := Lib.hid ((Kp.grown g1).and (Kp.recs hI hag))
  have HOK := Lib.hid hlo
  clear k1 g0 s0 hI hag g1 hlo
  obtain ⟨n, hnn⟩ : ∃ n, l.length = n := ⟨_, rfl⟩
  rw [hnn] at hll hc ⊢
  have HN := Lib.hid hnn
  clear hnn
  go_wp2_with fail
  with_reducible refine (BudgetsFault_any _ l _ _ _ HN.out (by omega) hc hcm HA1.out.now.2 HOK.out).mono ?_
  rintro e w2 ⟨rfl, b2⟩
  have HA2 := Lib.hid (HA1.out.below b2)
  have s2 := strm_below s1 b2
  clear b2 HA1 s1
  go_wp2_with fail
  with_reducible refine (CheckBudgets_any _ l _ _ _ HN.out (by omega) hc hcm HA2.out.now.2 HOK.out).mono ?_
  rintro e w3 ⟨rfl, b3⟩
  have HA3 := Lib.hid (HA2.out.below b3)
  have s3 := strm_below s2 b3
  clear b3 HA2 s2
  have HEE := Lib.hid (fun h : budE l = 0 => budE_ok h)
  obtain ⟨E, hE⟩ : ∃ E, budE l = E := ⟨_, rfl⟩
  have HE := Lib.hid hE
  rw [hE] at HEE ⊢
  clear hE
  go_upto_if 36 with (fail)
  go_cut [5] (fun u wx => u = .int .i64 E ∧ Strm wx S 60 ∧ w3.grownBy wx (some S.g))
  case first =>
    by_cases hn0 : n = 0
    · subst hn0
      go_wp2_with fail
      go_meet
      exact ⟨rfl, strm_mono s3 (by omega), grown_same _ _⟩
    · have hnp : 0 < n := by omega
      have hl0 : 0 < l.length := by have := HN.out; omega
      have HXO := Lib.hid (HOK.out l[0] (List.getElem_mem hl0))
      have HT1 := Lib.hid (show l.take 1 = [l[0]] by
        cases l with
        | nil => simp at hl0
        | cons x r => rfl)
      go_wp2_with fail
      with_reducible refine (pick_at S _ [0, 1440, 5000, 10080, 4321439, -1, 4321440] 7 _ _ _ _ s3 (by omega) rfl (by omega) (by omega) (by simp) (by simp)).mono ?_
      rintro e w4 ⟨t, htm, rfl, k4, s4⟩
      have HA4 := Lib.hid (HA3.out.up k4)
      have HG4 := Lib.hid k4
      clear k4 s3
      obtain ⟨p, off, rfl, hpl, c0, c1, c2, c3, c4⟩ := HA4.out.now.2.at5 hl0 (v0 := .string l[0].key) (v1 := .int .i64 l[0].cents) (v2 := .int .i64 l[0].first) (v3 := .int .i64 l[0].last) (v4 := .bool l[0].pace) rfl
      simp only [Nat.zero_mul, Nat.add_zero] at c0 c1 c2 c3 c4
      go_wp2_with fail
      with_reducible refine (Paced_any l[0] t _ HXO.out).mono ?_
      rintro e w5 ⟨rfl, b5⟩
      have HA5 := Lib.hid (HA4.out.below b5)
      have s5 := strm_below s4 b5
      have HG5 := Lib.hid (grown_trans HG4.out (grown_of_below b5 _))
      clear b5 HA4 s4 HG4 c0 c1 c2 c3 c4
      go_wp2_with fail
      have CF := Lib.hid (BudgetsFault_any (some ⟨p, off, none⟩) (l.take 1) 1 c w5 (by rw [HT1.out]; rfl) (by omega) (by omega) hcm (HA5.out.now.2.take 1) (fun x hx => HOK.out x (List.mem_of_mem_take hx)))
      with_reducible refine CF.out.mono ?_
      rintro e w6 ⟨rfl, b6⟩
      have HA6 := Lib.hid (HA5.out.below b6)
      have s6 := strm_below s5 b6
      have HG6 := Lib.hid (grown_trans HG5.out (grown_of_below b6 _))
      clear b6 HA5 s5 HG5 CF
      rw [HT1.out]
      obtain ⟨_, _, hpe, -, c0, c1, c2, c3, c4⟩ := HA6.out.now.2.at5 hl0 (v0 := .string l[0].key) (v1 := .int .i64 l[0].cents) (v2 := .int .i64 l[0].first) (v3 := .int .i64 l[0].last) (v4 := .bool l[0].pace) rfl
      injection hpe with hpe
      injection hpe with q1 q2
      subst q1 q2
      simp only [Nat.zero_mul, Nat.add_zero] at c0 c1 c2 c3 c4
      have HMT := Lib.hid (show momB t = true → 0 ≤ t ∧ t ≤ 4321439 from fun h => of_decide_eq_true h)
      have HXB := Lib.hid (show budE [l[0]] = 0 → bdB l[0] = true from fun h => budE_ok h _ (by simp))
      have HPO := Lib.hid (show pacO l[0] t = (if budE [l[0]] ≠ 0 then (0, budE [l[0]]) else if momB t = false then (0, 1) else (pacV l[0] t, 0) : Int × Int) from rfl)
      obtain ⟨F, hF⟩ : ∃ F, budE [l[0]] = F := ⟨_, rfl⟩
      rw [hF] at HXB HPO ⊢
      clear hF
      by_cases hF0 : F = 0
      · subst hF0
        have HPO1 := Lib.hid (HPO.out.trans (if_neg (by simp)))
        have CM := Lib.hid (fun w => moment_any t w)
        cases hm : momB t with
        | false =>
          rw [hm] at HPO1 CM
          have HPO2 := Lib.hid (HPO1.out.trans (if_pos rfl))
          generalize pacO l[0] t = O at *
          obtain rfl := HPO2.out
          clear HPO HPO1 HPO2 hm
          go_wp2_with fail
          with_reducible refine (CM.out _).mono ?_
          rintro e w7 ⟨rfl, rfl⟩
          go_wp2_with fail
          go_meet
          exact ⟨rfl, strm_mono s6 (by omega), HG6.out⟩
        | true =>
          rw [hm] at HPO1 CM
          have HPO2 := Lib.hid (HPO1.out.trans (if_neg (by simp)))
          have CP := Lib.hid (fun w => PacedOf_any l[0] t w (HXB.out rfl) (HMT.out hm).1 (HMT.out hm).2)
          generalize pacO l[0] t = O at *
          generalize pacV l[0] t = V at *
          obtain rfl := HPO2.out
          clear HPO HPO1 HPO2 hm
          go_wp2_with fail
          with_reducible refine (CM.out _).mono ?_
          rintro e w7 ⟨rfl, rfl⟩
          go_wp2_with fail
          with_reducible refine (CP.out _).mono ?_
          rintro e w7 ⟨rfl, b7⟩
          go_wp2_with fail
          go_meet
          exact ⟨rfl, strm_mono (strm_below s6 b7) (by omega), grown_trans HG6.out (grown_of_below b7 _)⟩
      · have HPO1 := Lib.hid (HPO.out.trans (if_pos hF0))
        generalize pacO l[0] t = O at *
        obtain rfl := HPO1.out
        clear HPO HPO1
        go_wp2_with fail
        go_meet
        exact ⟨rfl, strm_mono s6 (by omega), HG6.out⟩
  case rest =>
    obtain ⟨rfl, sx, kx⟩ := hcut
    have HA := Lib.hid (HA3.out.up kx)
    clear kx HA3 s3
    generalize wc = w7 at *
    by_cases hE0 : E = 0
    · subst hE0
      have hE0 := HE.out
      have HBL := Lib.hid (HEE.out rfl)
      have HLL := Lib.hid (show l.length ≤ 50 by have := HN.out; omega)
      have hS := strm_lt sx
      go_wp2_with fail
      with_reducible refine (newOff_yes _ l _ _ _ HN.out (by omega) hc hcm HA.out.now.2 HOK.out hE0).mono ?_
      rintro e w8 ⟨gx, rfl, nx, b8⟩
      have HA8 := Lib.hid (HA.out.below b8)
      have s8 := strm_below sx b8
      have HNX := Lib.hid nx
      clear nx b8 HA sx
      go_wp2_with fail
      with_reducible refine (newRef_any _ l _ _ _ HN.out (by omega) HA8.out.now.2).mono ?_
      rintro e w9 ⟨gy, rfl, ny, b9⟩
      have hg9 := (HA8.out.below b9).now.1
      have HP := Lib.hid (PS.start (strm_below s8 b9) HNX.out ny b9 (show Below w.heap.size w w9 from ⟨hg9.os, hg9.tape, hg9.output, hg9.size, fun i hi => hg9.block i hi (by simp; omega)⟩) hBS hS)
      have s9 := strm_below s8 b9
      clear HNX ny b9 hg9 s8 HA8 hS
      obtain ⟨b0, hb0⟩ : ∃ b0, w9.heap.size = b0 := ⟨_, rfl⟩
      rw [hb0] at HP
      clear hb0
      go_wp2_with fail
      with_reducible refine (next_any S _ _ _ s9 (by omega) (by omega)).mono ?_
      rintro e w10 ⟨m, ⟨m0, m1, -⟩, rfl, k10, s10⟩
      have hm1 := m1 (by omega)
      have HP10 := Lib.hid (HP.out.draw k10 s10)
      obtain ⟨m, rfl⟩ := Int.eq_ofNat_of_zero_le m0
      clear m1 k10 s9 s10 HP HEE HE hE0 m0
      go_wp2_with fail
      go_loopw [13, 14, 15, 16, 17, 18, 19, 20, 21, 22, 93] (fun z _ _ _ _ _ _ _ _ _ i wr => ∃ (k : Nat) (y : Int), k ≤ m ∧ i = .int .i64 k ∧ z = .int .i64 y ∧ 0 ≤ y ∧ y ≤ 1440 * (k : Int) ∧
        ∃ (hl : List Hd) (now : Int) (hvx hvy : Value), PS w S (62 + 8 * k) b0 gx gy l hvx hvy hl hl now now wr ∧ hl.length ≤ k ∧ ∀ x ∈ hl, x.ok) (fun _ _ _ _ _ _ _ _ _ _ i _ => m - (intOf i).toNat)
      case atStart => exact ⟨0, 0, Nat.zero_le _, rfl, rfl, by omega, by omega, [], 0, _, _, HP10.out.mono (by omega), Nat.le_refl _, by simp⟩
      case round =>
        obtain ⟨k, y, hk, rfl, rfl, hy0, hy1, hl, now, hvx, hvy, hP, hhl, hho⟩ := hrel
        have HP := Lib.hid hP
        have HHO := Lib.hid hho
        have s11 := hP.st
        clear hP hho HP10
        by_cases hlt : k < m
        · go_wp2_with fail
          with_reducible refine (pick_at S _ [0, 0, 5, 60, 1440] 5 _ _ _ _ s11 (by omega) rfl (by omega) (by omega) (by simp) (by simp)).mono ?_
          rintro e w12 ⟨z, hzm, rfl, k12, s12⟩
          have hzb : 0 ≤ z ∧ z ≤ 1440 := by
            simp only [List.mem_cons, List.mem_nil_iff, or_false] at hzm
            omega
          have HP12 := Lib.hid (HP.out.draw k12 s12)
          clear hzm k12 s11 HP
          go_wp2_with fail
          obtain ⟨x, hx⟩ : ∃ x, y + z = x := ⟨_, rfl⟩
          rw [hx]
          have hx0 : 0 ≤ x := by omega
          have hx1 : x ≤ 1440 * ((k : Int) + 1) := by omega
          clear hx hzb hy0 hy1
          with_reducible refine (flip_any S _ _ _ s12 (by omega) (by omega)).mono ?_
          rintro e w13 ⟨fl, rfl, k13, s13⟩
          have HP13 := Lib.hid (HP12.out.draw k13 s13)
          clear HP12 s12 k13
          go_upto_if 102 with (fail)
          go_cut [14] (fun u wx => ∃ t : Int, u = .int .i64 t ∧ -1 ≤ t ∧ t ≤ 4321440 ∧ PS w S (62 + 8 * k + 3) b0 gx gy l hvx hvy hl hl now now wx)
          case first =>
            cases fl with
            | false =>
              go_wp2_with fail
              go_meet
              exact ⟨x, rfl, by omega, by omega, HP13.out.mono (by omega)⟩
            | true =>
              go_wp2_with fail
              with_reducible refine (pick_at S _ [-1, 4321440, x - 1] 3 _ _ _ _ s13 (by omega) rfl (by omega) (by omega) (by simp) (by simp)).mono ?_
              rintro e w14 ⟨t, htm, rfl, k14, s14⟩
              have htb : -1 ≤ t ∧ t ≤ 4321440 := by
                simp only [List.mem_cons, List.mem_nil_iff, or_false] at htm
                omega
              have HP14 := Lib.hid (HP13.out.draw k14 s14)
              clear htm k14 s13 s14 HP13
              go_wp2_with fail
              go_meet
              exact ⟨t, rfl, htb.1, htb.2, HP14.out.mono (by omega)⟩
          case rest =>
          obtain ⟨t, rfl, ht0, ht1, hP⟩ := hcut
          have HP := Lib.hid hP
          have s15 := hP.st
          clear hP HP13 s13
          generalize wc = w15 at *
          go_wp2_with fail
          with_reducible refine (One_at S _ [⟨#[109, 97, 121]⟩, ⟨#[106, 117, 110, 101]⟩, ⟨#[97, 108, 108]⟩, ⟨#[97, 108, 108]⟩, ⟨#[120]⟩] 5 _ _ _ _ s15 (by omega) rfl (by omega) (by omega) (by simp) (by simp)).mono ?_
          rintro e w16 ⟨key, hkm, rfl, k16, s16⟩
          have hks : key.size ≤ 100 := by
            simp only [List.mem_cons, List.mem_nil_iff, or_false] at hkm
            rcases hkm with rfl | rfl | rfl | rfl | rfl <;> decide
          have HP16 := Lib.hid (HP.out.draw k16 s16)
          clear hkm k16 HP s15
          go_wp2_with fail
          with_reducible refine (range_any S _ _ _ _ s16 (by omega) (by omega) (by omega) (by omega)).mono ?_
          rintro e w17 ⟨no, ⟨hno0, hno1⟩, rfl, k17, s17⟩
          have HP17 := Lib.hid (HP16.out.draw k17 s17)
          clear k17 HP16 s16
          go_wp2_with fail
          with_reducible refine (next_any S _ _ _ s17 (by omega) (by omega)).mono ?_
          rintro e w18 ⟨j, ⟨j0, j1, -⟩, rfl, k18, s18⟩
          have hj1 := j1 (by omega)
          have HP := Lib.hid (HP17.out.draw k18 s18)
          clear k18 HP17 s17 s18 j1
          go_upto_block 2 with (fail)
          go_cut [17, 18, 19, 20, 21, 22] (fun a b f g _ _ wx => ∃ (v e : Int), a = .int .i64 v ∧ b = .int .i64 v ∧ f = .int .i64 e ∧ g = .int .i64 e ∧
            ∃ (hl' : List Hd) (now' : Int) (hvx' hvy' : Value), PS w S (62 + 8 * (k + 1)) b0 gx gy l hvx' hvy' hl' hl' now' now' wx ∧ hl'.length ≤ k + 1 ∧ ∀ x ∈ hl', x.ok)
          case first =>
            · skip
              obtain ⟨q0, hq0⟩ : ∃ b, (j == 0) = b := ⟨_, rfl⟩
              obtain ⟨q1, hq1⟩ : ∃ b, (j == 1) = b := ⟨_, rfl⟩
              obtain ⟨q2, hq2⟩ : ∃ b, (j == 2) = b := ⟨_, rfl⟩
              have HJ := Lib.hid (show (q0 || q1 || q2) = false → j = 3 ∨ j = 4 ∨ j = 5 by
                subst hq0 hq1 hq2
                intro h
                simp only [Bool.or_eq_false_iff, beq_eq_false_iff_ne] at h
                omega)
              clear j0 hj1
              go_upto_if 129 with (fail)
              go_cut [129, 131, 132] (fun u _ _ wx => u = .bool (q0 || q1 || q2) ∧ wx = w18)
              case first =>
                cases q0 <;> cases q1 <;> cases q2 <;> (go_wp2_with fail; go_meet; exact ⟨rfl, rfl⟩)
              case rest =>
              obtain ⟨rfl, rfl⟩ := hcut
              obtain ⟨qq, hqq⟩ : ∃ b, (q0 || q1 || q2) = b := ⟨_, rfl⟩
              rw [hqq] at HJ ⊢
              clear hq0 hq1 hq2 hqq
              cases qq with
              | true =>
                go_wp2_with fail
                with_reducible refine (pick_at S _ [1, 50, 100, 400, 1000, 0, 1000000000001] 7 _ _ _ _ HP.out.st (by omega) rfl (by omega) (by omega) (by simp) (by simp)).mono ?_
                rintro e wa ⟨cents, hcm2, rfl, ka, sa⟩
                have hcb : 0 ≤ cents ∧ cents ≤ 1000000000001 := by
                  simp only [List.mem_cons, List.mem_nil_iff, or_false] at hcm2
                  omega
                have HPa := Lib.hid (HP.out.draw ka sa)
                clear hcm2 ka HP
                go_wp2_with fail
                with_reducible refine (pick_at S _ [1, 5, 60, 2000, 0] 5 _ _ _ _ sa (by omega) rfl (by omega) (by omega) (by simp) (by simp)).mono ?_
                rintro e wb ⟨du, hdm, rfl, kb, sb⟩
                have hdb : 0 ≤ du ∧ du ≤ 2000 := by
                  simp only [List.mem_cons, List.mem_nil_iff, or_false] at hdm
                  omega
                have HPb := Lib.hid (HPa.out.draw kb sb)
                clear hdm kb HPa sa sb
                go_wp2_with fail
                with_reducible refine (reserveOff_any key cents t (t + du) wb HPb.out.px HLL.out HBL.out (by omega) (by omega) HHO.out (by omega) (by omega) (by omega) (by omega)).mono ?_
                rintro e wc ⟨hvx', rfl, o, c1, n1⟩
                have HPc := Lib.hid (HPb.out.opX o c1 n1)
                clear o c1 n1 HPb
                obtain ⟨v, f, hvf⟩ := resV_form l hl now key cents t (t + du)
                have HVF := Lib.hid hvf
                rw [hvf]
                clear hvf
                go_wp2_with fail
                with_reducible refine (reserveRef_any key cents t (t + du) wc HPc.out.py HLL.out HBL.out (by omega) (by omega) HHO.out (by omega) (by omega) (by omega) (by omega)).mono ?_
                rintro e wd ⟨hvy', rfl, o, c1, n1⟩
                have HPd := Lib.hid (HPc.out.opY o c1 n1)
                clear o c1 n1 HPc
                rw [HVF.out]
                obtain ⟨q1, q2⟩ := resL_ok l hl now key cents t (t + du) HHO.out (by omega) hcb.1 (by omega) (by omega) (by omega)
                have HQ2 := Lib.hid q2
                clear q2
                go_wp2_with fail
                go_meet
                exact ⟨v, f, rfl, rfl, rfl, rfl, _, _, _, _, HPd.out.mono (by omega), by omega, HQ2.out⟩
              | false =>
                have hj := HJ.out rfl
                clear HJ
                obtain rfl | rfl | rfl := hj
                · go_wp2_with fail
                  with_reducible refine (commitOff_any no t _ HP.out.px (by omega) (by omega) (by omega) (by omega) (by omega)).mono ?_
                  rintro e wc ⟨hvx', rfl, o, c1, n1⟩
                  have HPc := Lib.hid (HP.out.opX o c1 n1)
                  clear o c1 n1 HP
                  go_wp2_with fail
                  with_reducible refine (commitRef_any no t _ HPc.out.py (by omega) (by omega) (by omega) (by omega) (by omega)).mono ?_
                  rintro e wd ⟨hvy', rfl, o, c1, n1⟩
                  have HPd := Lib.hid (HPc.out.opY o c1 n1)
                  clear o c1 n1 HPc
                  obtain ⟨q1, q2⟩ := turnL_ok hl now no t ok1 2 HHO.out (by omega)
                  have HQ2 := Lib.hid q2
                  clear q2
                  go_wp2_with fail
                  go_meet
                  exact ⟨0, _, rfl, rfl, rfl, rfl, _, _, _, _, HPd.out.mono (by omega), by omega, HQ2.out⟩
                · go_wp2_with fail
                  with_reducible refine (releaseOff_any no t _ HP.out.px (by omega) (by omega) (by omega) (by omega) (by omega)).mono ?_
                  rintro e wc ⟨hvx', rfl, o, c1, n1⟩
                  have HPc := Lib.hid (HP.out.opX o c1 n1)
                  clear o c1 n1 HP
                  go_wp2_with fail
                  with_reducible refine (releaseRef_any no t _ HPc.out.py (by omega) (by omega) (by omega) (by omega) (by omega)).mono ?_
                  rintro e wd ⟨hvy', rfl, o, c1, n1⟩
                  have HPd := Lib.hid (HPc.out.opY o c1 n1)
                  clear o c1 n1 HPc
                  obtain ⟨q1, q2⟩ := turnL_ok hl now no t ok2 3 HHO.out (by omega)
                  have HQ2 := Lib.hid q2
                  clear q2
                  go_wp2_with fail
                  go_meet
                  exact ⟨0, _, rfl, rfl, rfl, rfl, _, _, _, _, HPd.out.mono (by omega), by omega, HQ2.out⟩
                · go_wp2_with fail
                  with_reducible refine (leftOff_any key t _ HP.out.px HLL.out HBL.out (by omega) (by omega) HHO.out).mono ?_
                  rintro e wc ⟨rfl, bc⟩
                  have HPc := Lib.hid (HP.out.below bc)
                  clear bc HP
                  go_wp2_with fail
                  with_reducible refine (leftRef_any key t _ HPc.out.py HLL.out HBL.out (by omega) (by omega) HHO.out).mono ?_
                  rintro e wd ⟨rfl, bd⟩
                  have HPd := Lib.hid (HPc.out.below bd)
                  clear bd HPc
                  go_wp2_with fail
                  go_meet
                  exact ⟨_, _, rfl, rfl, rfl, rfl, _, _, _, _, HPd.out.mono (by omega), by omega, HHO.out⟩
          case rest =>
          obtain ⟨v, e, rfl, rfl, rfl, rfl, hl', now', hvx', hvy', hP, hhl2, hho2⟩ := hcut
          have HPz := Lib.hid hP
          have HHO2 := Lib.hid hho2
          clear hP hho2 HP HHO
          generalize wc = w19 at *
          go_wp2_with fail
          with_reducible refine (holdsOff_any _ HPz.out.px (by omega)).mono ?_
          rintro e w20 ⟨a1, c1, rfl, r1, b1⟩
          have HP20 := Lib.hid (HPz.out.below b1)
          have HR1 := Lib.hid r1
          clear b1 r1 HPz
          go_wp2_with fail
          with_reducible refine (holdsRef_any _ HP20.out.py (by omega)).mono ?_
          rintro e w21 ⟨a2, c2, rfl, r2, b2⟩
          have HP21 := Lib.hid (HP20.out.below b2)
          have HR2 := Lib.hid (HR1.out.below b2)
          have HR3 := Lib.hid r2
          clear b2 r2 HP20 HR1
          go_wp2_with fail
          with_reducible refine (equal_holds a1 a2 (holdsV hl' now') _ c1 c2 _ rfl (by rw [holdsV_len]; omega) HR2.out HR3.out).mono ?_
          rintro e w22 ⟨rfl, q22, rfl⟩
          have HP22 := Lib.hid (HP21.out.draw (grownBy_drewN (grown_same _ _) q22) (strm_drewN HP21.out.st q22))
          clear HP21 HR2 HR3
          go_wp2_with fail
          go_roundw
          case rel => exact ⟨k + 1, x, by omega, by go_num, rfl, by omega, by omega, hl', now', hvx', hvy', HP22.out, hhl2, HHO2.out⟩
          case measure => simp [intOf]; omega
        · obtain rfl : k = m := by omega
          have HB := Lib.hid HP.out.bel
          clear HP
          go_wp2_with fail
          with_reducible refine (offers_any _).mono ?_
          rintro e w12 ⟨rfl, rfl⟩
          go_wp2_with fail
          go_ret
          exact ⟨rfl, HB.out⟩
    · have hE0 := HE.out
      go_wp2_with fail
      with_reducible refine (newOff_no _ l _ _ _ HN.out (by omega) hc hcm HA.out.now.2 HOK.out (by rw [hE0]; exact ‹¬ E = 0›)).mono ?_
      rintro e w8 ⟨rfl, b8⟩
      have hg9 := (HA.out.below b8).now.1
      have HB := Lib.hid (show Below w.heap.size w w8 from ⟨hg9.os, hg9.tape, hg9.output, hg9.size, fun i hi => hg9.block i hi (by simp; omega)⟩)
      rw [hE0]
      clear hg9 b8 HA
      go_wp2_with fail
      with_reducible refine (offers_any _).mono ?_
      rintro e w12 ⟨rfl, rfl⟩
      go_wp2_with fail
      go_ret
      exact ⟨rfl, HB.out⟩
theorem pursesKept_tabs {P : Prop} (_ : P) : True := trivial
end Go.Proofs.YtdnikegakcdcnaaDoor
