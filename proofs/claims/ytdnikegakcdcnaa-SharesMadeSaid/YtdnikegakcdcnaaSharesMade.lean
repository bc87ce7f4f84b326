/- The walk of the statement SharesMade. -/
import Derived.Test.YtdnikegakcdcnaaRow
import Derived.Test.YtdnikegakcdcnaaAges
import Derived.Test.YtdnikegakcdcnaaEqual
import Derived.Test.YtdnikegakcdcnaaMeasures
import Derived.Test.YtdnikegakcdcnaaWeightsOf
import Derived.Test.YtdnikegakcdcnaaFracs2
import Derived.Test.YtdnikegakcdcnaaDivideFn
set_option linter.unusedVariables false
namespace Go.Proofs.Ytdnikegakcdcnaa
open Go.RowKit Deal

theorem wwL_len (how span : Int) (zs : List Int) (h : zs.length ≤ 20) : (wwL how span zs).length ≤ 9223372036854775807 := by
  unfold wwL wgtL
  split <;> simp
  omega
theorem frL_len (zs : List Int) (h : zs.length ≤ 20) : (frL zs).length ≤ 1000 := by
  unfold frL
  split <;> simp
  omega
theorem dvL_len (cents : Int) (zs : List Int) (h : zs.length ≤ 20) : (dvL cents zs).length ≤ 9223372036854775807 := by
  unfold dvL
  split
  · rw [dealL_length]; simp; omega
  · simp

set_option maxRecDepth 100000 in
set_option maxHeartbeats 4000000 in
theorem sharesMade_walk (a0 : Option Addr) (len0 cap0 : Nat) (z0 : List Int) (w : World) (w0 : IsRow .i64 w a0 len0 cap0 z0) :
    Calls Try.prog 7 #[.slice a0 len0 cap0] w fun e w' => e = .returned (.bool true) ∧ Below w.heap.size w w' := by
  obtain ⟨S, hBS, hp, s0, g0⟩ := strm_begin w0
  clear w0
  go_enter Try.func7, Try.ntmps7
  go_wp2_with fail
  clear hp
  with_reducible refine (range_any S _ _ _ _ s0 (by omega) (by omega) (by omega) (by omega)).mono ?_
  rintro e w1 ⟨how, hh, rfl, k1, s1⟩
  have g1 := grown_trans g0 k1
  clear k1 g0 s0
  go_wp2_with fail
  with_reducible refine (pick_at S _ [1, 18, 19, 100, 1000, 4321440, 0] 7 _ _ _ _ s1 (by omega) rfl (by omega) (by omega) (by simp) (by simp)).mono ?_
  rintro e w2 ⟨wi, hc, rfl, k2, s2⟩
  have hc' : 0 ≤ wi ∧ wi ≤ 4321440 := by
    simp only [List.mem_cons, List.mem_nil_iff, or_false] at hc
    omega
  have g2 := grown_trans g1 k2
  clear k2 g1 s1 hc
  go_wp2_with fail
  with_reducible refine (ages_any S _ _ _ s2 (by omega) (by omega) (by omega)).mono ?_
  rintro e w3 ⟨a, c, zs, hl, rfl, hI, hne, k3, s3⟩
  have hl : zs.length ≤ 20 := hl
  have g3 := grown_trans g2 k3
  clear k3 g2 s2 hne
  have C1 := Lib.hid (Weights_any how wi a zs zs.length c w3 rfl (by omega) hI)
  have C2 := Lib.hid (fun w (hI : IntsAt w a zs) => WeightsOf_any how wi a zs zs.length c w rfl (by omega) hI)
  have HLL := Lib.hid (wwL_len how wi zs hl)
  have HI := Lib.hid hI
  unfold WeightsOut at C1 C2
  generalize wwE how wi zs = ee at *
  generalize wwL how wi zs = ll at *
  generalize zs.length = n at *
  clear hI
  go_wp2_with fail
  with_reducible refine C1.out.mono ?_
  rintro e w4 ⟨v1, rfl, hv1, b4⟩
  have HV1 := Lib.hid hv1
  have HI4 := Lib.hid (HI.out.below b4)
  have s4 := strm_below s3 b4
  have g4 := grown_trans g3 (grown_of_below b4 _)
  clear hv1 b4 HI C1 s3 g3
  go_wp2_with fail
  with_reducible refine (C2.out _ HI4.out).mono ?_
  rintro e w5 ⟨v2, rfl, hv2, b5⟩
  have HV2 := Lib.hid hv2
  have HV3 := Lib.hid (HV1.out.below b5)
  have s5 := strm_below s4 b5
  have g5 := grown_trans g4 (grown_of_below b5 _)
  clear hv2 b5 HI4 HV1 C2 s4 g4
  go_wp2_with fail
  with_reducible refine (equal_same _ _ _ _ HV3.out HV2.out HLL.out).mono ?_
  rintro e w6 ⟨rfl, q6, rfl⟩
  have s6 := strm_drewN s5 q6
  have g6 := grownBy_drewN g5 q6
  clear s5 g5 HV3 HV2 HLL
  clear ll zs
  go_wp2_with fail
  with_reducible refine (weightsMake_any S _ _ s6 (by omega)).mono ?_
  rintro e w7 ⟨a, c, zs, hl, rfl, hI, hne, k7, s7⟩
  have hl : zs.length ≤ 20 := hl
  have g7 := grown_trans g6 k7
  clear k7 g6 s6
  have C1 := Lib.hid (Shares_any a zs zs.length c w7 rfl (by omega) hI)
  have C2 := Lib.hid (fun w (hI : IntsAt w a zs) => SharesOf_any a zs zs.length c w rfl (by omega) hI)
  have C3 := Lib.hid (fun cents w (hI : IntsAt w a zs) h1 h2 => Divide_any cents a zs zs.length c w rfl (by omega) hI h1 h2)
  have C4 := Lib.hid (fun cents w (hI : IntsAt w a zs) h1 h2 => DivideOf_any cents a zs zs.length c w rfl (by omega) hI h1 h2)
  have HLL := Lib.hid (frL_len zs hl)
  have HLD := Lib.hid (fun cents => dvL_len cents zs hl)
  have HI := Lib.hid hI
  have HNE := Lib.hid hne
  unfold SharesOut at C1 C2
  unfold DivideOut at C3 C4
  generalize wE zs = ew at *
  generalize frL zs = fl at *
  generalize zs.length = n2 at *
  clear hI hne
  go_wp2_with fail
  with_reducible refine C1.out.mono ?_
  rintro e w8 ⟨v1, rfl, hv1, b8⟩
  have HV1 := Lib.hid hv1
  have HI8 := Lib.hid (HI.out.below b8)
  have s8 := strm_below s7 b8
  have g8 := grown_trans g7 (grown_of_below b8 _)
  clear hv1 b8 HI C1 s7 g7
  go_wp2_with fail
  with_reducible refine (C2.out _ HI8.out).mono ?_
  rintro e w9 ⟨v2, rfl, hv2, b9⟩
  have HV2 := Lib.hid hv2
  have HV3 := Lib.hid (HV1.out.below b9)
  have HI9 := Lib.hid (HI8.out.below b9)
  have s9 := strm_below s8 b9
  have g9 := grown_trans g8 (grown_of_below b9 _)
  clear hv2 b9 HI8 HV1 C2 s8 g8
  go_wp2_with fail
  with_reducible refine (equal_fracs _ _ _ _ HV3.out HV2.out HLL.out).mono ?_
  rintro e w10 ⟨rfl, q10, rfl⟩
  have s10 := strm_drewN s9 q10
  have g10 := grownBy_drewN g9 q10
  have HI10 := Lib.hid (HI9.out.drewN q10)
  clear s9 g9 HV3 HV2 HLL HI9
  go_wp2_with fail
  with_reducible refine (pick_at S _ [0, 1, 7, 100, 99999, 1000000000000, -1, 1000000000001] 8 _ _ _ _ s10 (by omega) rfl (by omega) (by omega) (by simp) (by simp)).mono ?_
  rintro e w11 ⟨cents, hc, rfl, k11, s11⟩
  have hc2 : -1 ≤ cents ∧ cents ≤ 1000000000001 := by
    simp only [List.mem_cons, List.mem_nil_iff, or_false] at hc
    omega
  have g11 := grown_trans g10 k11
  have HI11 := Lib.hid (HI10.out.grown k11 HNE.out)
  have HB11 := Lib.hid (below_of_grown g11 hBS)
  have z11 := g11.size
  have C3' := Lib.hid (C3.out cents _ HI11.out (by omega) (by omega))
  have C4' := Lib.hid (fun w hI => C4.out cents w hI (by omega) (by omega))
  have HLD' := Lib.hid (HLD.out cents)
  generalize dvE cents zs = ed at *
  generalize dvL cents zs = dl at *
  clear k11 g10 s10 hc g11 s11 HI10 HNE C3 C4 HLD
  go_wp2_with fail
  with_reducible refine C3'.out.mono ?_
  rintro e w12 ⟨v3, rfl, hv3, b12⟩
  have HV1 := Lib.hid hv3
  have HI12 := Lib.hid (HI11.out.below b12)
  have HB12 := Lib.hid (HB11.out.trans (b12.mono z11))
  clear hv3 b12 HB11 HI11 C3'
  go_wp2_with fail
  with_reducible refine (C4'.out _ HI12.out).mono ?_
  rintro e w13 ⟨v4, rfl, hv4, b13⟩
  have HV2 := Lib.hid hv4
  have HV3 := Lib.hid (HV1.out.below b13)
  have HB13 := Lib.hid (HB12.out.trans (b13.mono HB12.out.size))
  clear hv4 b13 HB12 HI12 HV1 C4'
  go_wp2_with fail
  with_reducible refine (measures_any _).mono ?_
  rintro e w14 ⟨rfl, b14⟩
  have HV4 := Lib.hid (HV2.out.below b14)
  have HV5 := Lib.hid (HV3.out.below b14)
  have HB14 := Lib.hid (HB13.out.trans (b14.mono HB13.out.size))
  clear b14 HB13 HV2 HV3
  go_wp2_with fail
  with_reducible refine (equal_same _ _ _ _ HV5.out HV4.out HLD'.out).mono ?_
  rintro e w15 ⟨rfl, q, rfl⟩
  go_wp2
  go_ret
  exact ⟨rfl, below_dN HB14.out q⟩
end Go.Proofs.Ytdnikegakcdcnaa
