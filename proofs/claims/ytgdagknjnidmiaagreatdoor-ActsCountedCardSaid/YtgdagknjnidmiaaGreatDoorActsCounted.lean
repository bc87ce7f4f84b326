/- The walk of the statement ActsCounted. -/
import Derived.Test.YtgdagknjnidmiaaGreatDoorM1
import Derived.Test.YtgdagknjnidmiaaGreatDoorRows
import Derived.Test.YtgdagknjnidmiaaGreatDoorActMake
import Derived.Test.YtgdagknjnidmiaaGreatDoorSteps
import Derived.Test.YtgdagknjnidmiaaGreatDoorStepsOf
import Derived.Test.YtgdagknjnidmiaaGreatDoorSameRw
import Derived.Test.YtgdagknjnidmiaaGreatDoorCohorts
import Derived.Test.YtgdagknjnidmiaaGreatDoorCohortsOf
import Derived.Test.YtgdagknjnidmiaaGreatDoorEqTab
import Derived.Test.YtgdagknjnidmiaaGreatDoorUniq
import Derived.Test.YtgdagknjnidmiaaGreatDoorUniqOf
import Derived.Test.YtgdagknjnidmiaaGreatDoorMeasures
import Derived.LaidMore
import Derived.Laws.Tables
import Derived.Tactics2
import Derived.Deep.RegionWith
import Derived.Deep.DeepCutAuto
set_option linter.unusedVariables false
namespace Go.Proofs.YtgdagknjnidmiaaGreatDoor
open Go.RowKit

theorem actsCounted_tabs {P : Prop} (_ : P) : True := trivial
/-- few letters: their rows are few -/
theorem rws_few (l : List Snt) (h : ∀ x ∈ l, x.okL) (acts : List Ac) (span : Int) : (rws l acts span l.length).keys.length ≤ 12 := by
  have h1 := few_keysW (m := LTS) (rws_nodup l acts span l.length) (rws_keys l acts span (fun s => s ∈ LTS) (fun x hx => (h x hx).2) l.length (Nat.le_refl _))
  have h2 : LTS.length = 8 := rfl
  omega
theorem stL_few (l : List Snt) (acts : List Ac) (span : Int) (h : (rws l acts span l.length).keys.length ≤ 12) : (stL l acts span).length ≤ 12 := by
  unfold stL
  split
  · unfold rwL
    rw [List.length_map, (ordK_perm _).length_eq]
    exact h
  · simp
/-- what cohorts hand back is the same on both sides -/
theorem eqCh_any (w : World) (v v' : Value) (acts : List Ac) (len many : Int) (h : ChIs w v acts len many) (h' : ChIs w v' acts len many) :
    Calls Tryz.prog 13 #[v, v', .func (.func 14) #[] #[]] w fun e w' => e = .returned (.bool true) ∧ ∃ q, w' = w.drewN q := by
  unfold ChIs at h h'
  by_cases h0 : chE acts len many = 0
  · rw [if_pos h0] at h h'
    refine eqTab_any w v v' _ _ h h' ?_
    unfold chE at h0
    by_cases h1 : acsF acts ≠ 0
    · rw [if_pos h1] at h0; exact absurd h0 h1
    · rw [if_neg h1] at h0
      by_cases h2 : len < 1 ∨ 4321440 < len ∨ many < 1 ∨ 60 < many
      · rw [if_pos h2] at h0; cases h0
      · omega
  · rw [if_neg h0] at h h'
    subst h h'
    exact eqTab_nil w
theorem RwIs.below {w w' : World} {v : Value} {L : List Rw} (h : RwIs w v L) (b : Below w.heap.size w w') : RwIs w' v L := by
  obtain ⟨x, y, e, hr⟩ := h
  exact ⟨x, y, e, hr.below b⟩
theorem OutR.belowW {w w' : World} {go n m : Nat} {rb : Nat → Nat} {f : Nat → Nat → Nat} (h : OutR w go n m rb f) (b : Below w.heap.size w w') : OutR w' go n m rb f := h.below (grown_of_below b _)
theorem ChIs.below {w w' : World} {v : Value} {acts : List Ac} {len many : Int} (h : ChIs w v acts len many) (b : Below w.heap.size w w') : ChIs w' v acts len many := by
  unfold ChIs at *
  split at h
  · rename_i h0
    rw [if_pos h0]
    obtain ⟨go, rb, e, ho⟩ := h
    exact ⟨go, rb, e, ho.belowW b⟩
  · rename_i h0
    rw [if_neg h0]
    exact h

set_option maxRecDepth 100000 in
set_option maxHeartbeats 16000000 in
theorem actsCounted_walk (a0 : Option Addr) (len0 cap0 : Nat) (z0 : List Int) (w : World) (w0 : IsRow .i64 w a0 len0 cap0 z0) (ht : True) :
    Calls Tryz.prog 3 #[.slice a0 len0 cap0] w fun e w' => e = .returned (.bool true) ∧ Below w.heap.size w w' := by
  obtain ⟨S, hBS, hp, s0, g0⟩ := strm_begin w0
  clear w0 ht
  go_enter Tryz.func3, Tryz.ntmps3
  go_wp2_with fail
  clear hp
  with_reducible refine (sentLet_any S _ 8 _ s0 (by omega) (by omega) (by omega)).mono ?_
  rintro e w1 ⟨a, c, l, ⟨hll, hlo⟩, rfl, hI, hc, hcm, hag, k1, s1⟩
  have g1 := grown_trans g0 k1
  have HLK := Lib.hid (rws_few l hlo)
  have hHI := Lib.hid hI
  have hHO : Hid (∀ x ∈ l, x.ok) := Lib.hid (fun x hx => (hlo x hx).1)
  have hHA := Lib.hid hag
  clear k1 g0 s0 hI hlo hag
  obtain ⟨n, hn⟩ : ∃ z, l.length = z := ⟨_, rfl⟩
  rw [hn] at hll hc ⊢
  have HN := Lib.hid hn
  clear hn
  go_wp2_with fail
  with_reducible refine (acts_any S _ a l n c _ s1 (by omega) HN.out (by omega) hHI.out hHO.out hHA.out).mono ?_
  rintro e w2 ⟨ga, gc, gl, ⟨hgl, hgo⟩, rfl, hGI, hgc, hgcm, hgag, k2, s2⟩
  have g2 := grown_trans g1 k2
  have HI2 := Lib.hid (hHI.out.grown k2 hHA.out)
  have HGI2 := Lib.hid hGI
  have HGO := Lib.hid hgo
  have HGA := Lib.hid hgag
  clear k2 g1 s1 hHI hGI hgo hgag
  obtain ⟨gn, hgn⟩ : ∃ z, gl.length = z := ⟨_, rfl⟩
  rw [hgn] at hgl hgc ⊢
  have HGN := Lib.hid hgn
  clear hgn
  go_wp2_with fail
  with_reducible refine (pick_at S _ [0, 1, 60, 1000, -1, 4321441] 6 _ _ _ _ s2 (by omega) rfl (by omega) (by omega) (by simp) (by simp)).mono ?_
  rintro e w3 ⟨span, -, rfl, k3, s3⟩
  have g3 := grown_trans g2 k3
  have HI3 := Lib.hid (HI2.out.grown k3 hHA.out)
  have HGI3 := Lib.hid (HGI2.out.grown k3 HGA.out)
  clear k3 g2 s2 HI2 HGI2
  have C1 := Lib.hid (Steps_any a l n c ga gl gn gc span w3 HN.out (by omega) HI3.out hHO.out HGN.out (by omega) HGI3.out HGO.out)
  have C2 := Lib.hid (fun w' b => StepsOf_any a l n c ga gl gn gc span w' HN.out (by omega) hc hcm (HI3.out.below b) hHO.out (HLK.out gl span) HGN.out (by omega) (HGI3.out.below b) HGO.out)
  have HLL := Lib.hid (stL_few l gl span (HLK.out gl span))
  obtain ⟨E, hE⟩ : ∃ z, stE l gl span = z := ⟨_, rfl⟩
  obtain ⟨LL, hLL⟩ : ∃ z, stL l gl span = z := ⟨_, rfl⟩
  rw [hE, hLL] at C1 C2
  rw [hLL] at HLL
  clear hE hLL HI3 HLK hHO HN hHA
  go_wp2_with fail
  with_reducible refine C1.out.mono ?_
  rintro e w4 ⟨v, rfl, hv, b4⟩
  have HV := Lib.hid hv
  have g4 := grown_trans g3 (grown_of_below b4 _)
  have s4 := strm_below s3 b4
  have HGI4 := Lib.hid (HGI3.out.below b4)
  have C3 := Lib.hid (C2.out w4 b4)
  clear hv C1 C2 b4 g3 s3 HGI3
  go_wp2_with fail
  with_reducible refine C3.out.mono ?_
  rintro e w5 ⟨v2, rfl, hv2, b5⟩
  have HV2 := Lib.hid hv2
  have HV1 := Lib.hid (HV.out.below b5)
  have g5 := grown_trans g4 (grown_of_below b5 _)
  have s5 := strm_below s4 b5
  have HGI5 := Lib.hid (HGI4.out.below b5)
  clear hv2 C3 b5 g4 s4 HGI4 HV
  obtain ⟨x1, y1, e1, hr1⟩ := HV1.out
  obtain ⟨x2, y2, e2, hr2⟩ := HV2.out
  obtain ⟨m, hm⟩ : ∃ z, LL.length = z := ⟨_, rfl⟩
  rw [hm] at e1 e2
  subst e1 e2
  have CE := Lib.hid (equal_rws x1 x2 LL m y1 y2 w5 hm (by rw [← hm]; exact Nat.le_trans HLL.out (by omega)) hr1 hr2)
  have hne : (E != E) = false := by simp
  clear HV1 HV2 hr1 hr2 hm HLL
  go_wp2_with fail
  with_reducible refine CE.out.mono ?_
  rintro e w6 ⟨rfl, q6, rfl⟩
  have g6 := grownBy_drewN g5 q6
  have s6 := strm_drewN s5 q6
  have HGI6 : Hid (RAt (w5.drewN q6) ga 3 Ac.cells gl) := Lib.hid HGI5.out
  clear CE g5 s5 HGI5 hne
  generalize w5.drewN q6 = w6 at *
  go_wp2_with fail
  with_reducible refine (pick_at S _ [1, 10, 100, 1000, 0] 5 _ _ _ _ s6 (by omega) rfl (by omega) (by omega) (by simp) (by simp)).mono ?_
  rintro e w7 ⟨len, -, rfl, k7, s7⟩
  have g7 := grown_trans g6 k7
  have HGI7 := Lib.hid (HGI6.out.grown k7 HGA.out)
  clear k7 g6 s6 HGI6
  go_wp2_with fail
  with_reducible refine (pick_at S _ [1, 3, 10, 60, 0, 61] 6 _ _ _ _ s7 (by omega) rfl (by omega) (by omega) (by simp) (by simp)).mono ?_
  rintro e w8 ⟨many, -, rfl, k8, s8⟩
  have g8 := grown_trans g7 k8
  have HGI8 := Lib.hid (HGI7.out.grown k8 HGA.out)
  clear k8 g7 s7 HGI7
  have D1 := Lib.hid (Cohorts_any ga gl gn gc len many w8 HGN.out (by omega) HGI8.out HGO.out)
  have D2 := Lib.hid (fun w' b => CohortsOf_any ga gl gn gc len many w' HGN.out (by omega) (HGI8.out.below b) HGO.out)
  have D3 := Lib.hid (fun w' v v' h h' => eqCh_any w' v v' gl len many h h')
  obtain ⟨CH, hCH⟩ : ∃ P : World → Value → Prop, (fun w v => ChIs w v gl len many) = P := ⟨_, rfl⟩
  have HCB : Hid (∀ w w' v, CH w v → Below w.heap.size w w' → CH w' v) := Lib.hid (by subst hCH; exact fun w w' v h b => ChIs.below h b)
  have D1' : Hid (Calls Tryz.prog 11 #[.slice ga gn gc, .int .i64 len, .int .i64 many] w8 fun e w' => ∃ v, e = .returned (.tuple #[v, .int .i64 (chE gl len many)]) ∧ CH w' v ∧ Below w8.heap.size w8 w') := by subst hCH; exact D1
  have D2' : Hid (∀ w', Below w8.heap.size w8 w' → Calls Tryz.prog 12 #[.slice ga gn gc, .int .i64 len, .int .i64 many] w' fun e w'' => ∃ v, e = .returned (.tuple #[v, .int .i64 (chE gl len many)]) ∧ CH w'' v ∧ Below w'.heap.size w' w'') := by subst hCH; exact D2
  have D3' : Hid (∀ w' v v', CH w' v → CH w' v' → Calls Tryz.prog 13 #[v, v', .func (.func 14) #[] #[]] w' fun e w'' => e = .returned (.bool true) ∧ ∃ q, w'' = w'.drewN q) := by subst hCH; exact D3
  obtain ⟨E2, hE2⟩ : ∃ z, chE gl len many = z := ⟨_, rfl⟩
  rw [hE2] at D1' D2'
  clear hE2 D1 D2 D3 hCH
  go_wp2_with fail
  with_reducible refine D1'.out.mono ?_
  rintro e w9 ⟨u, rfl, hu, b9⟩
  have HU := Lib.hid hu
  have g9 := grown_trans g8 (grown_of_below b9 _)
  have s9 := strm_below s8 b9
  have HGI9 := Lib.hid (HGI8.out.below b9)
  have D4 := Lib.hid (D2'.out w9 b9)
  clear hu D1' D2' b9 g8 s8 HGI8
  go_wp2_with fail
  with_reducible refine D4.out.mono ?_
  rintro e w10 ⟨u2, rfl, hu2, b10⟩
  have g10 := grown_trans g9 (grown_of_below b10 _)
  have s10 := strm_below s9 b10
  have HGI10 := Lib.hid (HGI9.out.below b10)
  have D5 := Lib.hid (D3'.out w10 u u2 (HCB.out _ _ _ HU.out b10) hu2)
  have hne2 : (E2 != E2) = false := by simp
  clear hu2 D3' D4 HCB HU b10 g9 s9 HGI9
  go_wp2_with fail
  with_reducible refine D5.out.mono ?_
  rintro e w11 ⟨rfl, q11, rfl⟩
  have g11 := grownBy_drewN g10 q11
  have s11 := strm_drewN s10 q11
  have HGI11 : Hid (RAt (w10.drewN q11) ga 3 Ac.cells gl) := Lib.hid HGI10.out
  clear D5 g10 s10 HGI10 hne2
  generalize w10.drewN q11 = w11 at *
  go_wp2_with fail
  with_reducible refine (range_any S _ 0 5 _ s11 (by omega) (by omega) (by omega) (by omega)).mono ?_
  rintro e w12 ⟨kind, -, rfl, k12, s12⟩
  have g12 := grown_trans g11 k12
  have HGI12 := Lib.hid (HGI11.out.grown k12 HGA.out)
  clear k12 g11 s11 HGI11
  go_wp2_with fail
  with_reducible refine (pick_at S _ [0, 10, 300, -1] 4 _ _ _ _ s12 (by omega) rfl (by omega) (by omega) (by simp) (by simp)).mono ?_
  rintro e w13 ⟨from_, -, rfl, k13, s13⟩
  have g13 := grown_trans g12 k13
  have HGI13 := Lib.hid (HGI12.out.grown k13 HGA.out)
  clear k13 g12 s12 HGI12
  go_wp2_with fail
  with_reducible refine (pick_at S _ [5, 300, 900, 4321440, 4321441] 5 _ _ _ _ s13 (by omega) rfl (by omega) (by omega) (by simp) (by simp)).mono ?_
  rintro e w14 ⟨to_, -, rfl, k14, s14⟩
  have HB14 := Lib.hid (below_of_grown (grown_trans g13 k14) hBS)
  have HGI14 := Lib.hid ((HGI13.out.grown k14 HGA.out).alloc (.cells #[.int .i64 from_, .int .i64 to_] 45))
  have HX := Lib.hid (XB.new w14 [.int .i64 from_, .int .i64 to_] 45)
  clear k14 g13 s13 s14 HGI13 HGA hBS
  go_wp2_with fail
  obtain ⟨W, hW⟩ : ∃ z, w14.alloc (.cells #[.int .i64 from_, .int .i64 to_] 45) = z := ⟨_, rfl⟩
  have HB0 : Hid (Below w.heap.size w W) := Lib.hid (by rw [← hW]; exact HB14.out.alloc HB14.out.size _)
  obtain ⟨q, hq⟩ : ∃ z, w14.heap.size = z := ⟨_, rfl⟩
  rw [hW] at HGI14 HX ⊢
  rw [hq] at HX ⊢
  clear hW hq HB14
  with_reducible refine (Unique_any ga gl gn gc kind from_ to_ W HGN.out (by omega) HGI14.out HGO.out).mono ?_
  rintro e w15 ⟨rfl, b15⟩
  have HB15 := Lib.hid (HB0.out.trans (b15.mono HB0.out.size))
  have HU := Lib.hid (UniqueOf_any ga gl gn gc kind from_ to_ w15 HGN.out (by omega) (HGI14.out.below b15) HGO.out)
  obtain ⟨E3, hE3⟩ : ∃ z, uqE gl kind from_ to_ = z := ⟨_, rfl⟩
  obtain ⟨NN, hNN⟩ : ∃ z, uqN gl kind from_ to_ = z := ⟨_, rfl⟩
  rw [hE3, hNN] at HU ⊢
  have hx0 := (HX.out.below b15).2 0 _ rfl
  have hx1 := (HX.out.below b15).2 1 _ rfl
  clear hE3 hNN HX HGI14 HB0 b15
  go_wp2_with fail
  with_reducible refine HU.out.mono ?_
  rintro e w16 ⟨rfl, b16⟩
  have HB16 := Lib.hid (HB15.out.trans (b16.mono HB15.out.size))
  clear hx0 hx1 HU HB15 b16
  go_wp2_with fail
  with_reducible refine (measures_any _).mono ?_
  rintro e w17 ⟨rfl, b17⟩
  have HB17 := Lib.hid (HB16.out.trans (b17.mono HB16.out.size))
  have hee : (E3 == E3) = true := by simp
  have hnn : (NN == NN) = true := by simp
  clear b17 HB16
  go_wp2_with fail
  go_ret
  exact ⟨rfl, HB17.out⟩
end Go.Proofs.YtgdagknjnidmiaaGreatDoor
