/- The walk of the statement CodesSealed. -/
import Derived.Test.YtdcanlkdhbmknaaGreatDoorRow
import Derived.Test.YtdcanlkdhbmknaaGreatDoorRows
import Derived.Test.YtdcanlkdhbmknaaGreatDoorOffers
import Derived.Test.YtdcanlkdhbmknaaGreatDoorSealFn
import Derived.Test.YtdcanlkdhbmknaaGreatDoorTypedMk
import Derived.LaidMore
set_option linter.unusedVariables false
namespace Go.Proofs.YtdcanlkdhbmknaaGreatDoor
open Go.RowKit

set_option maxRecDepth 100000 in
set_option maxHeartbeats 4000000 in
theorem codesSealed_walk (a0 : Option Addr) (len0 cap0 : Nat) (z0 : List Int) (w : World) (w0 : IsRow .i64 w a0 len0 cap0 z0) (ht : True) :
    Calls Tryz.prog 3 #[.slice a0 len0 cap0] w fun e w' => e = .returned (.bool true) ∧ Below w.heap.size w w' := by
  obtain ⟨S, hBS, hp, s0, g0⟩ := strm_begin w0
  clear w0 ht
  go_enter Tryz.func3, Tryz.ntmps3
  go_wp2_with fail
  clear hp
  with_reducible refine (codeBody_any S _ _ s0 (by omega)).mono ?_
  rintro e w1 ⟨b, hb, rfl, k1, s1⟩
  have HG1 := Lib.hid (grown_trans g0 k1)
  clear k1 g0 s0
  go_wp2_with fail
  with_reducible refine (code_any S _ _ s1 (by omega)).mono ?_
  rintro e w2 ⟨c, hc, rfl, k2, s2⟩
  have HG2 := Lib.hid (grown_trans HG1.out k2)
  clear k2 HG1 s1
  go_wp2_with fail
  with_reducible refine (typed_any2 S _ _ s2 (by omega)).mono ?_
  rintro e w3 ⟨t, ht, rfl, k3, s3⟩
  have ht' : t.size ≤ 1000 := ht
  have HG3 := Lib.hid (grown_trans HG2.out k3)
  clear k3 HG2 s2 s3 ht
  have C1 := Lib.hid (fun w => Seal_any b w (by omega))
  have C2 := Lib.hid (fun w => SealOf_any b w (by omega))
  generalize sealO b = O at *
  obtain ⟨Os, Oe⟩ := O
  go_wp2_with fail
  with_reducible refine (C1.out _).mono ?_
  rintro e w4 ⟨rfl, rfl⟩
  go_wp2_with fail
  with_reducible refine (C2.out _).mono ?_
  rintro e w5 ⟨rfl, b5⟩
  have HG5 := Lib.hid (grown_trans HG3.out (grown_of_below b5 (some S.g)))
  clear b5 HG3 C1 C2
  have C3 := Lib.hid (fun w => CheckCode_any c w (by omega))
  have C4 := Lib.hid (fun w => CodeFault_any c w (by omega))
  have C5 := Lib.hid (fun w => WriteCode_any c w (by omega))
  have C6 := Lib.hid (fun w => WriteCodeOf_any c w (by omega))
  have HWO := Lib.hid (show wcO c = if codeE c = 0 then wcV c else ⟨#[]⟩ from rfl)
  generalize codeE c = E at *
  generalize wcO c = V at *
  generalize wcV c = U at *
  go_wp2_with fail
  with_reducible refine (C3.out _).mono ?_
  rintro e w6 ⟨rfl, rfl⟩
  go_wp2_with fail
  with_reducible refine (C4.out _).mono ?_
  rintro e w7 ⟨rfl, b7⟩
  have HG7 := Lib.hid (grown_trans HG5.out (grown_of_below b7 (some S.g)))
  clear b7 HG5
  go_wp2_with fail
  with_reducible refine (C5.out _).mono ?_
  rintro e w8 ⟨rfl, b8⟩
  have HG8 := Lib.hid (grown_trans HG7.out (grown_of_below b8 (some S.g)))
  clear b8 HG7
  go_wp2_with fail
  with_reducible refine (C4.out _).mono ?_
  rintro e w9 ⟨rfl, b9⟩
  have HG9 := Lib.hid (grown_trans HG8.out (grown_of_below b9 (some S.g)))
  clear b9 HG8
  have C7 := Lib.hid (fun w => ReadCode_any t w (by omega))
  have C8 := Lib.hid (fun w => ReadCodeOf_any t w (by omega))
  generalize rdO t = R at *
  obtain ⟨Rs, Re⟩ := R
  by_cases hE : E = 0
  · subst hE
    obtain rfl : V = U := HWO.out.trans (if_pos rfl)
    clear HWO
    go_wp2_with fail
    with_reducible refine (C6.out _).mono ?_
    rintro e w10 ⟨rfl, rfl⟩
    go_wp2_with fail
    with_reducible refine (C7.out _).mono ?_
    rintro e w11 ⟨rfl, b11⟩
    have HG11 := Lib.hid (grown_trans HG9.out (grown_of_below b11 (some S.g)))
    clear b11 HG9
    go_wp2_with fail
    with_reducible refine (C8.out _).mono ?_
    rintro e w12 ⟨rfl, b12⟩
    have HG12 := Lib.hid (grown_trans HG11.out (grown_of_below b12 (some S.g)))
    clear b12 HG11
    go_wp2_with fail
    with_reducible refine (offers_any _).mono ?_
    rintro e w15 ⟨rfl, rfl⟩
    have hg := HG12.out
    have HB := Lib.hid (show Below w.heap.size w w12 from ⟨hg.os, hg.tape, hg.output, hg.size, fun i hi => hg.block i hi (by simp; omega)⟩)
    clear hg HG12
    go_wp2_with fail
    go_ret
    exact ⟨rfl, HB.out⟩
  · have hE' : (E == 0) = false := by simp [hE]
    go_wp2_with fail
    with_reducible refine (C7.out _).mono ?_
    rintro e w11 ⟨rfl, b11⟩
    have HG11 := Lib.hid (grown_trans HG9.out (grown_of_below b11 (some S.g)))
    clear b11 HG9
    go_wp2_with fail
    with_reducible refine (C8.out _).mono ?_
    rintro e w12 ⟨rfl, b12⟩
    have HG12 := Lib.hid (grown_trans HG11.out (grown_of_below b12 (some S.g)))
    clear b12 HG11
    go_wp2_with fail
    with_reducible refine (offers_any _).mono ?_
    rintro e w15 ⟨rfl, rfl⟩
    have hg := HG12.out
    have HB := Lib.hid (show Below w.heap.size w w12 from ⟨hg.os, hg.tape, hg.output, hg.size, fun i hi => hg.block i hi (by simp; omega)⟩)
    clear hg HG12
    go_wp2_with fail
    go_ret
    exact ⟨rfl, HB.out⟩
theorem codesSealed_tabs {P : Prop} (_ : P) : True := trivial
end Go.Proofs.YtdcanlkdhbmknaaGreatDoor
