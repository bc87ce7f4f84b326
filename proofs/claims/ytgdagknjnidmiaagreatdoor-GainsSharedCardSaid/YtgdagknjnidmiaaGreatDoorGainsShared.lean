/- The walk of the statement GainsShared. -/
import Derived.Test.YtgdagknjnidmiaaGreatDoorM1
import Derived.Test.YtgdagknjnidmiaaGreatDoorRows
import Derived.Test.YtgdagknjnidmiaaGreatDoorGains
import Derived.Test.YtgdagknjnidmiaaGreatDoorAttrOf
import Derived.Test.YtgdagknjnidmiaaGreatDoorSameCr
import Derived.Test.YtgdagknjnidmiaaGreatDoorMeasures
import Derived.LaidMore
import Derived.Laws.Tables
import Derived.Tactics2
import Derived.Deep.RegionWith
import Derived.Deep.DeepCutAuto
set_option linter.unusedVariables false
namespace Go.Proofs.YtgdagknjnidmiaaGreatDoor
open Go.RowKit

theorem gainsShared_tabs {P : Prop} (_ : P) : True := trivial
/-- how many letters have credit at most -/
theorem atL_len (l : List Snt) (gs : List Gn) (how span : Int) (h : gs.length ≤ 20) : (atL l gs how span).length ≤ 240 := by
  unfold atL
  split
  · unfold crL
    rw [List.length_map, (ordK_perm _).length_eq]
    have := gainsO_len l how span gs gs.length (Nat.le_refl _)
    omega
  · simp

set_option maxRecDepth 100000 in
set_option maxHeartbeats 16000000 in
theorem gainsShared_walk (a0 : Option Addr) (len0 cap0 : Nat) (z0 : List Int) (w : World) (w0 : IsRow .i64 w a0 len0 cap0 z0) (ht : True) :
    Calls Tryz.prog 4 #[.slice a0 len0 cap0] w fun e w' => e = .returned (.bool true) ∧ Below w.heap.size w w' := by
  obtain ⟨S, hBS, hp, s0, g0⟩ := strm_begin w0
  clear w0 ht
  go_enter Tryz.func4, Tryz.ntmps4
  go_wp2_with fail
  clear hp
  with_reducible refine (sentLet_any S _ 20 _ s0 (by omega) (by omega) (by omega)).mono ?_
  rintro e w1 ⟨a, c, l, ⟨hll, hlo⟩, rfl, hI, hc, hcm, hag, k1, s1⟩
  have g1 := grown_trans g0 k1
  have hHI := Lib.hid hI
  have hHO := Lib.hid hlo
  have hHA := Lib.hid hag
  clear k1 g0 s0 hI hlo hag
  generalize hn : l.length = n at *
  have HN := Lib.hid hn
  clear hn
  go_wp2_with fail
  with_reducible refine (gains_any S _ _ s1 (by omega)).mono ?_
  rintro e w2 ⟨ga, gc, gl, ⟨hgl, hgo⟩, rfl, hGI, hgc, hgcm, hgag, k2, s2⟩
  have g2 := grown_trans g1 k2
  have HI2 := Lib.hid (hHI.out.grown k2 hHA.out)
  have HGI2 := Lib.hid hGI
  have HGO := Lib.hid hgo
  have HGA := Lib.hid hgag
  have HGL := Lib.hid hgl
  clear k2 g1 s1 hHI hGI hgo hgag
  generalize hgn : gl.length = gn at *
  have HGN := Lib.hid hgn
  clear hgn
  go_wp2_with fail
  with_reducible refine (range_any S _ 1 6 _ s2 (by omega) (by omega) (by omega) (by omega)).mono ?_
  rintro e w3 ⟨how, ⟨hh0, hh1⟩, rfl, k3, s3⟩
  have g3 := grown_trans g2 k3
  have HI3 := Lib.hid (HI2.out.grown k3 hHA.out)
  have HGI3 := Lib.hid (HGI2.out.grown k3 HGA.out)
  clear k3 g2 s2 HI2 HGI2 hh0 hh1
  go_wp2_with fail
  with_reducible refine (pick_at S _ [1, 50, 300, 1000] 4 _ _ _ _ s3 (by omega) rfl (by omega) (by omega) (by simp) (by simp)).mono ?_
  rintro e w4 ⟨span, -, rfl, k4, s4⟩
  have g4 := grown_trans g3 k4
  have HI4 := Lib.hid (HI3.out.grown k4 hHA.out)
  have HGI4 := Lib.hid (HGI3.out.grown k4 HGA.out)
  clear k4 g3 s3 HI3 HGI3
  go_wp2_with fail
  with_reducible refine (flip_any S _ _ _ s4 (by omega) (by omega)).mono ?_
  rintro e w5 ⟨fl, rfl, k5, s5⟩
  have g5 := grown_trans g4 k5
  have HI5 := Lib.hid (HI4.out.grown k5 hHA.out)
  have HGI5 := Lib.hid (HGI4.out.grown k5 HGA.out)
  clear k5 g4 s4 HI4 HGI4
  go_upto_if 27 with (fail)
  go_cut [6, 7] (fun v6 v7 wx => ∃ h sp : Int, v6 = .int .i64 h ∧ v7 = .int .i64 sp ∧ RAt wx a 4 Snt.cells l ∧ RAt wx ga 4 Gn.cells gl ∧ w.grownBy wx (some S.g))
  case first =>
    as_aux_lemma =>
      cases fl with
      | false =>
        go_wp2_with fail
        go_meet
        exact ⟨how, span, rfl, rfl, HI5.out, HGI5.out, g5⟩
      | true =>
        go_wp2_with fail
        with_reducible refine (range_any S _ 0 7 _ s5 (by omega) (by omega) (by omega) (by omega)).mono ?_
        rintro e w6 ⟨how2, -, rfl, k6, s6⟩
        have g6 := grown_trans g5 k6
        have HI6 := Lib.hid (HI5.out.grown k6 hHA.out)
        have HGI6 := Lib.hid (HGI5.out.grown k6 HGA.out)
        clear k6 g5 s5 HI5 HGI5
        go_wp2_with fail
        with_reducible refine (pick_at S _ [0, 5, 4321441] 3 _ _ _ _ s6 (by omega) rfl (by omega) (by omega) (by simp) (by simp)).mono ?_
        rintro e w7 ⟨span2, -, rfl, k7, s7⟩
        go_wp2_with fail
        go_meet
        exact ⟨how2, span2, rfl, rfl, HI6.out.grown k7 hHA.out, HGI6.out.grown k7 HGA.out, grown_trans g6 k7⟩
  case rest =>
    obtain ⟨h, sp, rfl, rfl, hI, hGI, g8⟩ := hcut
    have HI8 := Lib.hid hI
    have HGI8 := Lib.hid hGI
    have HB8 := Lib.hid (below_of_grown g8 hBS)
    clear HI5 HGI5 g5 s5 g8 hI hGI hHA HGA
    have C1 := Lib.hid (Attribute_any a l n c ga gl gn gc h sp _ HN.out (by omega) HI8.out (fun x hx => (hHO.out x hx).1) HGN.out (by omega) HGI8.out HGO.out)
    have C2 := Lib.hid (fun w' b => AttributeOf_any a l n c ga gl gn gc h sp w' HN.out (by omega) hc hcm (HI8.out.below b) hHO.out HGN.out (by omega) hgc hgcm (HGI8.out.below b) HGO.out)
    have HLL := Lib.hid (atL_len l gl h sp (by have := HGN.out; omega))
    obtain ⟨E, hE⟩ : ∃ z, atE l gl h sp = z := ⟨_, rfl⟩
    obtain ⟨NN, hNN⟩ : ∃ z, atN l gl h sp = z := ⟨_, rfl⟩
    obtain ⟨LL, hLL⟩ : ∃ z, atL l gl h sp = z := ⟨_, rfl⟩
    rw [hE, hNN, hLL] at C1 C2
    rw [hLL] at HLL
    clear hE hNN hLL HI8 HGI8 hHO HGO HN HGN
    go_wp2_with fail
    with_reducible refine C1.out.mono ?_
    rintro e w9 ⟨v, rfl, hv, b9⟩
    have HV := Lib.hid hv
    have HB9 := Lib.hid (HB8.out.trans (b9.mono HB8.out.size))
    have C3 := Lib.hid (C2.out w9 b9)
    clear hv C1 C2 b9 HB8
    go_wp2_with fail
    with_reducible refine C3.out.mono ?_
    rintro e w10 ⟨v2, rfl, hv2, b10⟩
    have HV2 := Lib.hid hv2
    have HV1 : Hid (CrIs w10 v LL) := Lib.hid (by obtain ⟨x, y, e, hr⟩ := HV.out; exact ⟨x, y, e, hr.below b10⟩)
    have HB10 := Lib.hid (HB9.out.trans (b10.mono HB9.out.size))
    clear hv2 C3 b10 HB9 HV
    go_wp2_with fail
    with_reducible refine (measures_any _).mono ?_
    rintro e w11 ⟨rfl, b11⟩
    obtain ⟨x1, y1, e1, hr1⟩ := HV1.out
    obtain ⟨x2, y2, e2, hr2⟩ := HV2.out
    obtain ⟨m, hm⟩ : ∃ z, LL.length = z := ⟨_, rfl⟩
    rw [hm] at e1 e2
    subst e1 e2
    have CE := Lib.hid (equal_crs x1 x2 LL m y1 y2 w11 hm (by rw [← hm]; exact Nat.le_trans HLL.out (by omega)) (hr1.below b11) (hr2.below b11))
    have HB11 := Lib.hid (HB10.out.trans (b11.mono HB10.out.size))
    have hee : (E == E) = true := by simp
    have hnn : (NN == NN) = true := by simp
    clear b11 HB10 HV1 HV2 hr1 hr2 hm HLL
    go_wp2_with fail
    with_reducible refine CE.out.mono ?_
    rintro e w12 ⟨rfl, q, rfl⟩
    go_wp2_with fail
    go_ret
    exact ⟨rfl, below_drewN HB11.out q⟩
end Go.Proofs.YtgdagknjnidmiaaGreatDoor
