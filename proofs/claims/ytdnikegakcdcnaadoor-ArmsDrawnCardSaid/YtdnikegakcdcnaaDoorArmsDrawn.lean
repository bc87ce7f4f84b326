/- The walk of the statement ArmsDrawn. -/
import Derived.Test.YtdnikegakcdcnaaDoorRow
import Derived.Test.YtdnikegakcdcnaaDoorRows
import Derived.Test.YtdnikegakcdcnaaDoorKp
import Derived.Test.YtdnikegakcdcnaaDoorSplitMake
import Derived.Test.YtdnikegakcdcnaaDoorKeys
import Derived.Test.YtdnikegakcdcnaaDoorArmFn
import Derived.Test.YtdnikegakcdcnaaDoorArmsOf
import Derived.Test.YtdnikegakcdcnaaDoorMeasures
import Derived.Test.YtdnikegakcdcnaaDoorMask
import Derived.LaidMore
import Derived.Deep.DeepCutAuto
import Derived.Deep.CutBlock
set_option linter.unusedVariables false
namespace Go.Proofs.YtdnikegakcdcnaaDoor
open Go.RowKit

set_option maxRecDepth 100000 in
set_option maxHeartbeats 4000000 in
theorem armsDrawn_walk (a0 : Option Addr) (len0 cap0 : Nat) (z0 : List Int) (w : World) (w0 : IsRow .i64 w a0 len0 cap0 z0) (ht : True) :
    Calls Tryd.prog 4 #[.slice a0 len0 cap0] w fun e w' => e = .returned (.bool true) ∧ Below w.heap.size w w' := by
  obtain ⟨S, hBS, hp, s0, g0⟩ := strm_begin w0
  clear w0 ht
  go_enter Tryd.func4, Tryd.ntmps4
  go_wp2_with fail
  clear hp
  with_reducible refine (split_any S _ _ s0 (by omega)).mono ?_
  rintro e w1 ⟨name, a, ws, c, hold, rfl, hn2, hwl, hI, hag, k1, s1⟩
  have g1 := grown_trans g0 k1
  have HI1 := Lib.hid (Kp.ints hI hag)
  clear k1 g0 s0 hI hag
  generalize hn : ws.length = n at *
  have HN := Lib.hid hn
  clear hn
  go_wp2_with fail
  with_reducible refine (keys_any S _ _ s1 (by omega)).mono ?_
  rintro e w2 ⟨ka, kc, ks, ⟨hkl, hks⟩, rfl, hK, hkc, hkcm, hkag, k2, s2⟩
  have g2 := grown_trans g1 k2
  have HI2 := Lib.hid (HI1.out.up k2)
  have HK2 := Lib.hid ((Kp.recs hK hkag).mp (Q := fun w => StrsAt w ka ks) fun _ h => StrsAt.of_rat h)
  have HKS := Lib.hid hks
  clear k2 g1 s1 HI1 hK hkag hks
  generalize hkn : ks.length = kn at *
  have HKN := Lib.hid hkn
  clear hkn
  have hS2 := strm_lt s2
  have HF3 := Lib.hid (((Kp.grown g2).and (HI2.out.and HK2.out)).alloc (.cells #[.string name, .slice a n c, .int .i64 hold] 45))
  have HX3 := Lib.hid (Kp.box (S := S) (XB.new w2 [.string name, .slice a n c, .int .i64 hold] 45) (by omega))
  simp only [List.toArray] at HX3
  have s3 := strm_alloc s2 (.cells #[.string name, .slice a n c, .int .i64 hold] 45)
  have HW2 := Lib.hid g2.size
  have HA3 := Lib.hid (HF3.out.and HX3.out)
  have hqw : w.heap.size ≤ w2.heap.size := HW2.out
  clear g2 HI2 HK2 s2 HF3 HX3 HW2
  go_wp2_with fail
  generalize w2.alloc (.cells #[.string name, .slice a n c, .int .i64 hold] 45) = w3 at *
  generalize hq : w2.heap.size = q at *
  have HQ := Lib.hid hq
  clear hq
  have hX := HA3.out.now.2
  have x0 := hX.2 0 _ rfl
  have x1 := hX.2 1 _ rfl
  have x2 := hX.2 2 _ rfl
  clear hX
  with_reducible refine (SplitFault_any name a ws _ _ hold _ HN.out (by omega) HA3.out.now.1.2.1 hn2).mono ?_
  rintro e w4 ⟨rfl, b4⟩
  have HE := Lib.hid (show splitE (keyB name) ws hold = splitE (keyB name) ws hold from rfl)
  have HOK := Lib.hid (fun h => splitE_ok (kb := keyB name) (ws := ws) (hold := hold) h)
  have HA4 := Lib.hid (HA3.out.below b4)
  have s4 := strm_below s3 b4
  clear b4 s3 HA3 x0 x1 x2
  have hX := HA4.out.now.2
  have x0 := hX.2 0 _ rfl
  have x1 := hX.2 1 _ rfl
  have x2 := hX.2 2 _ rfl
  clear hX
  go_wp2_with fail
  with_reducible refine (CheckSplit_any name a ws _ _ hold _ HN.out (by omega) HA4.out.now.1.2.1 hn2).mono ?_
  rintro e w5 ⟨rfl, b5⟩
  have HA5 := Lib.hid (HA4.out.below b5)
  have s5 := strm_below s4 b5
  clear b5 s4 HA4 x0 x1 x2
  go_wp2_with fail
  with_reducible refine (One_at S _ [⟨#[112, 97]⟩, ⟨#[112, 98]⟩, ⟨#[97, 110, 110]⟩, ⟨#[80]⟩] 4 _ _ _ _ s5 (by omega) rfl (by omega) (by omega) (by simp) (by simp)).mono ?_
  rintro e w6 ⟨key, hkey, rfl, k6, s6⟩
  have HA6 := Lib.hid (HA5.out.up k6)
  clear k6 s5 HA5
  have hX := HA6.out.now.2
  have x0 := hX.2 0 _ rfl
  have x1 := hX.2 1 _ rfl
  have x2 := hX.2 2 _ rfl
  clear hX
  have hks2 : key.size ≤ 100 := by
    simp only [List.mem_cons, List.mem_nil_iff, or_false] at hkey
    rcases hkey with rfl | rfl | rfl | rfl <;> decide
  have HKEY := Lib.hid hkey
  clear hkey
  go_wp2_with fail
  with_reducible refine (Arm_any name key a ws _ _ hold _ HN.out (by omega) HA6.out.now.1.2.1 hn2 hks2).mono ?_
  rintro e w7 ⟨rfl, b7⟩
  have HA7 := Lib.hid (HA6.out.below b7)
  have s7 := strm_below s6 b7
  clear b7 s6 HA6 x0 x1 x2
  have hX := HA7.out.now.2
  have x0 := hX.2 0 _ rfl
  have x1 := hX.2 1 _ rfl
  have x2 := hX.2 2 _ rfl
  clear hX
  have HAF := Lib.hid (show armFn name ws hold key = if splitE (keyB name) ws hold ≠ 0 then (0, splitE (keyB name) ws hold) else if keyB key = false then (0, 5) else (armV name ws hold key, 0) from rfl)
  generalize armFn name ws hold key = F at *
  generalize splitE (keyB name) ws hold = E at *
  go_upto_block 0 with (fail)
  go_cut [6] (fun u wx => u = .int .i64 E ∧ Below w7.heap.size w7 wx)
  case first =>
    by_cases hE : E = 0
    · have HF := Lib.hid (HAF.out.trans (if_neg (by simpa using hE)))
      subst hE
      have HOKx := Lib.hid (HOK.out rfl)
      by_cases hP : key = ⟨#[80]⟩
      · subst hP
        obtain rfl : F = (0, 5) := HF.out.trans (if_pos (by decide))
        go_wp2_with fail
        go_meet
        exact ⟨rfl, Below.refl _ _⟩
      · have hkb : keyB key = true := by
          have := HKEY.out
          simp only [List.mem_cons, List.mem_nil_iff, or_false, hP] at this
          rcases this with rfl | rfl | rfl <;> decide
        obtain rfl : F = (armV name ws hold key, 0) := HF.out.trans (if_neg (by rw [hkb]; decide))
        have hp2 : (key.toList == [80]) = false := beq_eq_false_iff_ne.2 fun h => hP (by
          cases key with
          | mk d =>
            rw [Lib.toList_data] at h
            congr 1
            exact Array.toList_inj.1 h)
        obtain ⟨-, hok1, -, hok3, hok4, hok5, hok6⟩ := HOKx.out
        rw [HN.out] at hok1
        have HOK3 := Lib.hid hok3
        clear hkb hP hok3 HAF HF HOK HOKx
        go_wp2_with fail
        with_reducible refine (ArmOf_any name key a ws _ _ hold _ HN.out (by omega) HA7.out.now.1.2.1 HOK3.out hok4 hok5 hok6 hn2 hks2).mono ?_
        rintro e w8 ⟨rfl, b8⟩
        go_wp2_with fail
        go_meet
        exact ⟨rfl, b8⟩
    · obtain rfl : F = (0, E) := HAF.out.trans (if_pos hE)
      go_wp2_with fail
      go_meet
      exact ⟨rfl, Below.refl _ _⟩
  case rest =>
    obtain ⟨rfl, bx⟩ := hcut
    have HA8 := Lib.hid (HA7.out.below bx)
    clear bx HA7 x0 x1 x2 s7
    have hX := HA8.out.now.2
    have x0 := hX.2 0 _ rfl
    have x1 := hX.2 1 _ rfl
    have x2 := hX.2 2 _ rfl
    clear hX
    go_wp2_with fail
    with_reducible refine (Arms_any name a ka ws _ _ kn _ hold ks _ HN.out (by omega) HA8.out.now.1.2.1 hn2 HKN.out (by omega) HA8.out.now.1.2.2 HKS.out).mono ?_
    rintro e w9 ⟨v9, rfl, hS9, b9⟩
    have HA9 := Lib.hid (HA8.out.below b9)
    have HS9 := Lib.hid hS9
    clear b9 HA8 x0 x1 x2 hS9
    have hX := HA9.out.now.2
    have x0 := hX.2 0 _ rfl
    have x1 := hX.2 1 _ rfl
    have x2 := hX.2 2 _ rfl
    clear hX
    go_wp2_with fail
    with_reducible refine (ArmsOf_any name a ka ws _ _ kn _ hold ks _ HN.out (by omega) HA9.out.now.1.2.1 hn2 HKN.out (by omega) hkc hkcm HA9.out.now.1.2.2 HKS.out).mono ?_
    rintro e w10 ⟨v10, rfl, hS10, b10⟩
    have HA10 := Lib.hid (HA9.out.below b10)
    have HS9' := Lib.hid (HS9.out.below b10)
    have HS10 := Lib.hid hS10
    clear b10 HA9 x0 x1 x2 hS10 HS9
    have HLL := Lib.hid (armsL_len name ws hold ks)
    generalize armsL name ws hold ks = L at *
    generalize armsE name ws hold ks = E2 at *
    go_wp2_with fail
    with_reducible refine (measures_any _).mono ?_
    rintro e w11 ⟨rfl, b11⟩
    have HA11 := Lib.hid (HA10.out.below b11)
    have HS9 := Lib.hid (HS9'.out.below b11)
    have HS11 := Lib.hid (HS10.out.below b11)
    clear b11 HA10 HS9' HS10
    have hL1 : L.length ≤ 1000 := by have := HLL.out.1; have := HN.out; omega
    have HL2 := Lib.hid (fun l (hl : l ∈ L) => show l.length ≤ 1000 by have := HLL.out.2 l hl; have := HKN.out; omega)
    clear HLL
    go_wp2_with fail
    with_reducible refine (equalFunc_ss _ _ _ L HS9.out HS11.out hL1 HL2.out).mono ?_
    rintro e w12 ⟨rfl, q2, rfl⟩
    have hg := HA11.out.now.1.1
    have HB := Lib.hid (show Below w.heap.size w w11 from ⟨hg.os, hg.tape, hg.output, hg.size, fun i hi => hg.block i hi (by simp; omega)⟩)
    clear hg
    go_wp2_with fail
    go_ret
    exact ⟨rfl, below_drewN HB.out _⟩

theorem armsDrawn_tabs {P : Prop} (_ : P) : True := trivial
end Go.Proofs.YtdnikegakcdcnaaDoor
