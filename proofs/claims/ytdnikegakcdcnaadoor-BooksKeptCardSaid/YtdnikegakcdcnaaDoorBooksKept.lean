/- The walk of the statement BooksKept (printed by gen_bookskept.py). -/
import Derived.Test.YtdnikegakcdcnaaDoorRow
import Derived.Test.YtdnikegakcdcnaaDoorRows
import Derived.Test.YtdnikegakcdcnaaDoorKp
import Derived.Test.YtdnikegakcdcnaaDoorBookSt
import Derived.Test.YtdnikegakcdcnaaDoorBookRd
import Derived.Test.YtdnikegakcdcnaaDoorBookOps
import Derived.Test.YtdnikegakcdcnaaDoorCpMake
import Derived.Test.YtdnikegakcdcnaaDoorRange
import Derived.Test.YtdnikegakcdcnaaDoorOffers
import Derived.LaidMore
import Derived.Deep.DeepCutAuto
import Derived.Deep.CutBlock
set_option linter.unusedVariables false
namespace Go.Proofs.YtdnikegakcdcnaaDoor
open Go.RowKit

set_option maxRecDepth 100000 in
set_option maxHeartbeats 8000000 in
theorem booksKept_walk (a0 : Option Addr) (len0 cap0 : Nat) (z0 : List Int) (w : World) (w0 : IsRow .i64 w a0 len0 cap0 z0) (ht : True) :
    Calls Tryd.prog 5 #[.slice a0 len0 cap0] w fun e w' => e = .returned (.bool true) ∧ Below w.heap.size w w' := by
  obtain ⟨S, hBS, hp, s0, g0⟩ := strm_begin w0
  clear w0 ht
  go_enter Tryd.func5, Tryd.ntmps5
  go_wp2_with fail
  clear hp
  with_reducible refine (coupons_any S _ _ s0 (by omega)).mono ?_
  rintro e w1 ⟨a, c, l, ⟨hll, hlo⟩, rfl, hI, hc, hcm, hag, k1, s1⟩
  have g1 := grown_trans g0 k1
  have HA1 := Lib.hid ((Kp.grown g1).and (Kp.recs hI hag))
  have HOK := Lib.hid hlo
  clear k1 g0 s0 hI hag g1 hlo
  obtain ⟨n, hnn⟩ : ∃ n, l.length = n := ⟨_, rfl⟩
  rw [hnn] at hll hc ⊢
  have HN := Lib.hid hnn
  clear hnn
  have hS := strm_lt s1
  go_wp2_with fail
  with_reducible refine (NewBook_any _ l _ _ _ HN.out (by omega) hc hcm HA1.out.now.2 HOK.out).mono ?_
  rintro e w2 hnb
  obtain ⟨b2, hnb⟩ := hnb
  have HA2 := Lib.hid (HA1.out.below b2)
  have s2 := strm_below s1 b2
  clear b2 HA1 s1
  have HEE := Lib.hid (fun h : cpE l = 0 => cpE_ok h)
  obtain ⟨E, hE⟩ : ∃ E, cpE l = E := ⟨_, rfl⟩
  have C2 := Lib.hid (fun w' (hI : RAt w' a 6 Cp.cells l) => CouponsFault_any a l n c w' HN.out (by omega) hc hcm hI HOK.out)
  rw [hE] at hnb HEE C2
  clear hE
  rcases hnb with ⟨hE0, rfl⟩ | ⟨hE0, m, rfl, hnew⟩
  · have HE0 := Lib.hid hE0
    have hce1 : (E == 0) = false := by simpa using hE0
    have hce2 : (E != 0) = true := by simpa using hE0
    clear hE0
    go_wp2_with fail
    with_reducible refine (C2.out _ HA2.out.now.2).mono ?_
    rintro e w3 ⟨rfl, b3⟩
    have hg9 := (HA2.out.below b3).now.1
    have HB := Lib.hid (show Below w.heap.size w w3 from ⟨hg9.os, hg9.tape, hg9.output, hg9.size, fun i hi => hg9.block i hi (by simp; omega)⟩)
    clear hg9 b3 HA2 C2
    go_wp2_with fail
    with_reducible refine (offers_any _).mono ?_
    rintro e w12 ⟨rfl, rfl⟩
    go_wp2_with fail
    go_ret
    exact ⟨rfl, HB.out⟩
  · subst hE0
    have HBL := Lib.hid (HEE.out rfl)
    have HLL := Lib.hid (show l.length ≤ 1000 by have := HN.out; omega)
    have HNW := Lib.hid hnew
    clear hnew HEE
    go_wp2_with fail
    with_reducible refine (C2.out _ HA2.out.now.2).mono ?_
    rintro e w3 ⟨rfl, b3⟩
    have HA3 := Lib.hid (HA2.out.below b3)
    have s3 := strm_below s2 b3
    have HNW3 := Lib.hid (show NbNew _ l m w3 from ⟨HNW.out.1, (b3.block _ (by
        have h := HNW.out.2.1
        rcases Nat.lt_or_ge (m + 1) w2.heap.size with h' | h'
        · exact h'
        · rw [Array.getElem?_eq_none h'] at h; cases h)).trans HNW.out.2.1, by
      obtain ⟨nn, h⟩ := HNW.out.2.2
      exact ⟨nn, h.below b3⟩⟩)
    clear b3 HA2 s2 C2 HNW
    go_wp2_with fail
    with_reducible refine (NewBookRef_any _ l _ _ _ HN.out (by omega) HA3.out.now.2).mono ?_
    rintro e w9 ⟨gy, ba, bc, rfl, ny, b9⟩
    have hg9 := (HA3.out.below b9).now.1
    have s9 := strm_below s3 b9
    have HP0 := Lib.hid (BS.start s9 HNW3.out ny b9 (show Below w.heap.size w w9 from ⟨hg9.os, hg9.tape, hg9.output, hg9.size, fun i hi => hg9.block i hi (by simp; omega)⟩) hBS hS)
    clear HNW3 ny b9 hg9 s3 HA3 hS
    obtain ⟨nn, hP0⟩ := HP0.out
    have HP := Lib.hid hP0
    clear HP0 hP0
    obtain ⟨b0, hb0⟩ : ∃ b0, w9.heap.size = b0 := ⟨_, rfl⟩
    rw [hb0] at HP
    clear hb0
    obtain ⟨gx, hgx⟩ : ∃ gx, m + 1 = gx := ⟨_, rfl⟩
    rw [hgx] at HP ⊢
    clear hgx
    go_wp2_with fail
    with_reducible refine (next_any S _ _ _ s9 (by omega) (by omega)).mono ?_
    rintro e w10 ⟨r, ⟨m0, m1, -⟩, rfl, k10, s10⟩
    have hm1 := m1 (by omega)
    have HP10 := Lib.hid (HP.out.draw k10 s10)
    obtain ⟨r, rfl⟩ := Int.eq_ofNat_of_zero_le m0
    clear m1 k10 s9 s10 HP m0
    go_wp2_with fail
    go_loopw [9, 10, 11, 12, 13, 14, 15, 16, 43] (fun _ _ _ _ _ _ _ _ i wr => ∃ k : Nat, k ≤ r ∧ i = .int .i64 k ∧
        ∃ (hl : List Rd) (hvx hvy : Value), BS w S (200 + 100 * k) b0 gx gy m nn bc ba l hvx hvy hl hl wr ∧ hl.length ≤ k) (fun _ _ _ _ _ _ _ _ i _ => r - (intOf i).toNat)
    case atStart => exact ⟨0, Nat.zero_le _, rfl, [], _, _, HP10.out.mono (by omega), Nat.le_refl _⟩
    case round =>
      obtain ⟨k, hk, rfl, hl, hvx, hvy, hP, hhl⟩ := hrel
      have HP := Lib.hid hP
      have s11 := hP.st
      clear hP HP10
      by_cases hlt : k < r
      · go_wp2_with fail
        with_reducible refine (couponCode_any S _ _ s11 (by omega)).mono ?_
        rintro e w12 ⟨code, hcs, rfl, k12, s12⟩
        have HP12 := Lib.hid (HP.out.draw k12 s12)
        clear k12 s11 HP
        go_wp2_with fail
        with_reducible refine (One_at S _ [⟨#[97, 110, 110]⟩, ⟨#[98, 111]⟩, ⟨#[97, 110, 110]⟩, ⟨#[66]⟩] 4 _ _ _ _ s12 (by omega) rfl (by omega) (by omega) (by simp) (by simp)).mono ?_
        rintro e w13 ⟨who, hkm, rfl, k13, s13⟩
        have hws : who.size ≤ 100 := by
          have h' : ∀ x ∈ ([⟨#[97, 110, 110]⟩, ⟨#[98, 111]⟩, ⟨#[97, 110, 110]⟩, ⟨#[66]⟩] : List ByteArray), x.size ≤ 100 := by decide
          exact h' _ hkm
        have HP13 := Lib.hid (HP12.out.draw k13 s13)
        clear hkm k13 HP12 s12
        go_wp2_with fail
        with_reducible refine (pick_at S _ [0, 9, 10, 49, 50, 99, 100, -1] 8 _ _ _ _ s13 (by omega) rfl (by omega) (by omega) (by simp) (by simp)).mono ?_
        rintro e w14 ⟨t, htm, rfl, k14, s14⟩
        have htb : -1 ≤ t ∧ t ≤ 100 := by
          simp only [List.mem_cons, List.mem_nil_iff, or_false] at htm
          omega
        obtain ⟨ht0, ht1⟩ := htb
        have HP14 := Lib.hid (HP13.out.draw k14 s14)
        clear htm k14 HP13 s13
        go_wp2_with fail
        with_reducible refine (range_any S _ _ _ _ s14 (by omega) (by omega) (by omega) (by omega)).mono ?_
        rintro e w17 ⟨no, ⟨hno0, hno1⟩, rfl, k17, s17⟩
        have HP17 := Lib.hid (HP14.out.draw k17 s17)
        clear k17 HP14 s14
        go_wp2_with fail
        with_reducible refine (next_any S _ _ _ s17 (by omega) (by omega)).mono ?_
        rintro e w18 ⟨j, ⟨j0, j1, -⟩, rfl, k18, s18⟩
        have hj1 := j1 (by omega)
        have HP := Lib.hid (HP17.out.draw k18 s18)
        clear k18 HP17 s17 s18 j1
        go_upto_block 2 with (fail)
        go_cut [13, 14, 15, 16] (fun a b f g wx => ∃ (v e : Int), a = .int .i64 v ∧ b = .int .i64 v ∧ f = .int .i64 e ∧ g = .int .i64 e ∧
          ∃ (hl' : List Rd) (hvx' hvy' : Value), BS w S (200 + 100 * (k + 1)) b0 gx gy m nn bc ba l hvx' hvy' hl' hl' wx ∧ hl'.length ≤ k + 1)
        case first =>
          · skip
            obtain ⟨q0, hq0⟩ : ∃ b, (j == 0) = b := ⟨_, rfl⟩
            obtain ⟨q1, hq1⟩ : ∃ b, (j == 1) = b := ⟨_, rfl⟩
            obtain ⟨q2, hq2⟩ : ∃ b, (j == 2) = b := ⟨_, rfl⟩
            have HJ := Lib.hid (show (q0 || q1 || q2) = false → j = 3 ∨ j = 4 by
              subst hq0 hq1 hq2
              intro h
              simp only [Bool.or_eq_false_iff, beq_eq_false_iff_ne] at h
              omega)
            clear j0 hj1
            go_upto_if 73 with (fail)
            go_cut [73, 75, 76] (fun u _ _ wx => u = .bool (q0 || q1 || q2) ∧ wx = w18)
            case first =>
              cases q0 <;> cases q1 <;> cases q2 <;> (go_wp2_with fail; go_meet; exact ⟨rfl, rfl⟩)
            case rest =>
            obtain ⟨rfl, rfl⟩ := hcut
            obtain ⟨qq, hqq⟩ : ∃ b, (q0 || q1 || q2) = b := ⟨_, rfl⟩
            rw [hqq] at HJ ⊢
            clear hq0 hq1 hq2 hqq
            cases qq with
            | true =>
              go_wp2_with fail
              with_reducible refine (redeemX_any code who t _ HP.out.px (by omega) (by omega) HLL.out (by omega) HBL.out).mono ?_
              rintro e wc ⟨hvx', rfl, o, c1, n1⟩
              have HPc := Lib.hid (HP.out.opX o c1 n1)
              clear o c1 n1 HP
              obtain ⟨v, f, hvf⟩ := rdV_form l hl code who t
              have HVF := Lib.hid hvf
              rw [hvf]
              clear hvf
              go_wp2_with fail
              with_reducible refine (redeemR_any code who t _ HPc.out.py (by omega) (by omega) HLL.out (by omega) HBL.out).mono ?_
              rintro e wd ⟨hvy', rfl, o, c1, n1⟩
              have HPd := Lib.hid (HPc.out.opY o c1 n1)
              clear o c1 n1 HPc
              rw [HVF.out]
              have HQ := Lib.hid (rdL_len l hl code who t)
              go_wp2_with fail
              go_meet
              exact ⟨v, f, rfl, rfl, rfl, rfl, _, _, _, HPd.out.mono (by omega), by have := HQ.out; omega⟩
            | false =>
              have hj := HJ.out rfl
              clear HJ
              obtain rfl | rfl := hj
              · go_wp2_with fail
                with_reducible refine (undoX_any no t _ HP.out.px (by omega) (by omega) (by omega) (by omega) (by omega)).mono ?_
                rintro e wc ⟨hvx', rfl, o, c1, n1⟩
                have HPc := Lib.hid (HP.out.opX o c1 n1)
                clear o c1 n1 HP
                go_wp2_with fail
                with_reducible refine (undoR_any no t _ HPc.out.py (by omega) (by omega) (by omega) (by omega) (by omega)).mono ?_
                rintro e wd ⟨hvy', rfl, o, c1, n1⟩
                have HPd := Lib.hid (HPc.out.opY o c1 n1)
                clear o c1 n1 HPc
                have HQ := Lib.hid (unL_len hl no t)
                go_wp2_with fail
                go_meet
                exact ⟨0, _, rfl, rfl, rfl, rfl, _, _, _, HPd.out.mono (by omega), by have := HQ.out; omega⟩
              · obtain ⟨v, f, hvf⟩ := frV_form l hl code who t
                have HVF := Lib.hid hvf
                clear hvf
                go_wp2_with fail
                with_reducible refine (freeX_any code who t _ HP.out.px (by omega) (by omega) HLL.out (by omega) HBL.out).mono ?_
                rintro e wc ⟨rfl, bc1⟩
                have HPc := Lib.hid (HP.out.below bc1)
                clear bc1 HP
                rw [HVF.out]
                go_wp2_with fail
                with_reducible refine (freeR_any code who t _ HPc.out.py (by omega) (by omega) HLL.out (by omega) HBL.out).mono ?_
                rintro e wd ⟨rfl, bd1⟩
                have HPd := Lib.hid (HPc.out.below bd1)
                clear bd1 HPc
                rw [HVF.out]
                go_wp2_with fail
                go_meet
                exact ⟨v, f, rfl, rfl, rfl, rfl, _, _, _, HPd.out.mono (by omega), by omega⟩
        case rest =>
        obtain ⟨v, e, rfl, rfl, rfl, rfl, hl', hvx', hvy', hP, hhl2⟩ := hcut
        have HPz := Lib.hid hP
        clear hP HP
        generalize wc = w19 at *
        go_wp2_with fail
        with_reducible refine (usesX_any _ HPz.out.px (by omega)).mono ?_
        rintro e w20 ⟨a1, c1, rfl, r1, -, -, b1⟩
        have HP20 := Lib.hid (HPz.out.below b1)
        have HR1 := Lib.hid r1
        clear b1 r1 HPz
        go_wp2_with fail
        with_reducible refine (usesR_any _ HP20.out.py (by omega)).mono ?_
        rintro e w21 ⟨a2, c2, rfl, r2, -, -, b2⟩
        have HP21 := Lib.hid (HP20.out.below b2)
        have HR2 := Lib.hid (HR1.out.below b2)
        have HR3 := Lib.hid r2
        clear b2 r2 HP20 HR1
        go_wp2_with fail
        with_reducible refine (equal_rds a1 a2 hl' _ c1 c2 _ rfl (by omega) HR2.out HR3.out).mono ?_
        rintro e w22 ⟨rfl, q22, rfl⟩
        have HP22 := Lib.hid (HP21.out.draw (grownBy_drewN (grown_same _ _) q22) (strm_drewN HP21.out.st q22))
        clear HP21 HR2 HR3
        go_wp2_with fail
        go_roundw
        case rel => exact ⟨k + 1, by omega, by go_num, hl', hvx', hvy', HP22.out, hhl2⟩
        case measure => simp [intOf]; omega
      · obtain rfl : k = r := by omega
        have HB := Lib.hid HP.out.bel
        clear HP
        go_wp2_with fail
        with_reducible refine (offers_any _).mono ?_
        rintro e w12 ⟨rfl, rfl⟩
        go_wp2_with fail
        go_ret
        exact ⟨rfl, HB.out⟩
theorem booksKept_tabs {P : Prop} (_ : P) : True := trivial
end Go.Proofs.YtdnikegakcdcnaaDoor
