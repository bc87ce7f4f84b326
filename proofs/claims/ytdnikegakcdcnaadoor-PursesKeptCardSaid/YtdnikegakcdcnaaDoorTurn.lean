/- Purse.Commit and Release, of the program and of the reference (printed by gen_turn.py). -/
import Derived.Test.YtdnikegakcdcnaaDoorPurse2
import Derived.Deep.DeepCutAuto
set_option linter.unusedVariables false
namespace Go.Proofs.YtdnikegakcdcnaaDoor
open Go.RowKit

theorem commit1_any (s : Int) (w : World) : Calls Tryd.prog 136 #[.int .i64 s] w fun e w' => e = .returned (.bool (ok1 s)) ∧ w = w' := by
  by_cases h : s = 1
  · have H := Lib.hid (show ok1 s = true from decide_eq_true h)
    have e1 : (s == 1) = true := by simpa using h
    go_enter Tryd.func136, Tryd.ntmps136
    go_wp2
    go_ret
    exact ⟨ret_bool (by rw [H.out]), rfl⟩
  · have H := Lib.hid (show ok1 s = false from decide_eq_false h)
    have e1 : (s == 1) = false := by simpa using h
    go_enter Tryd.func136, Tryd.ntmps136
    go_wp2
    go_ret
    exact ⟨ret_bool (by rw [H.out]), rfl⟩
theorem release1_any (s : Int) (w : World) : Calls Tryd.prog 138 #[.int .i64 s] w fun e w' => e = .returned (.bool (ok2 s)) ∧ w = w' := by
  by_cases h : s = 1
  · have H := Lib.hid (show ok2 s = true by unfold ok2; rw [decide_eq_true h]; rfl)
    have e1 : (s == 1) = true := by simpa using h
    go_enter Tryd.func138, Tryd.ntmps138
    go_wp2
    go_ret
    exact ⟨ret_bool (by rw [H.out]), rfl⟩
  · have e1 : (s == 1) = false := by simpa using h
    by_cases h2 : s = 2
    · have H := Lib.hid (show ok2 s = true by unfold ok2; rw [decide_eq_true h2, Bool.or_true])
      have e2 : (s == 2) = true := by simpa using h2
      go_enter Tryd.func138, Tryd.ntmps138
      go_wp2
      go_ret
      exact ⟨ret_bool (by rw [H.out]), rfl⟩
    · have H := Lib.hid (show ok2 s = false by unfold ok2; rw [decide_eq_false h, decide_eq_false h2]; rfl)
      have e2 : (s == 2) = false := by simpa using h2
      go_enter Tryd.func138, Tryd.ntmps138
      go_wp2
      go_ret
      exact ⟨ret_bool (by rw [H.out]), rfl⟩
theorem getH (l : List Hd) (j : Nat) (h : j < l.length) (d : Hd) : l.getD j d = l[j] := by
  rw [List.getD_eq_getElem?_getD, List.getElem?_eq_getElem h]; rfl
theorem oneOf (h : Nat) (zs : List Int) (n c : Nat) (ok : Int → Bool) (s : Int) (w : World) (hI : IntsAt w (some ⟨h, 0, none⟩) zs) (hn : zs.length = n) (hn1 : n ≤ 1000) (hok : ∀ s, zs.contains s = ok s) :
    Calls Tryd.prog 198 #[.slice (some ⟨h, 0, none⟩) n c, .int .i64 s] w fun e w' => e = .returned (.bool (ok s)) ∧ w = w' := by
  subst hn
  refine (Tryd.slices_Contains_int h 0 zs.length c zs s w (Nat.le_refl _) (by omega) (fun j hj => ?_)).mono ?_
  · obtain ⟨p', off', h1, h2, h3⟩ := hI j hj
    injection h1 with h1
    injection h1 with e1 e2
    subst e1 e2
    rw [h3, List.getD_eq_getElem?_getD, List.getElem?_eq_getElem hj]
    rfl
  · rintro e w' ⟨rfl, rfl⟩
    rw [List.take_length, hok]
    exact ⟨rfl, rfl⟩

set_option maxRecDepth 100000 in
set_option maxHeartbeats 8000000 in
theorem turnC {b0 : Nat} {gs : List Nat} {g : Nat} {bl : List Bd} {hv : Value} {hl : List Hd} {now : Int} (no t u : Int) (w : World) (hP : Pu b0 gs 166 g bl hv hl now w) (hn : hl.length ≤ 1000)
    (ht0 : -1000000000 ≤ t) (ht1 : t ≤ 1000000000) (hn0 : -1000000000 ≤ no) (hn1 : no ≤ 1000000000) :
    Calls Tryd.prog 135 #[.pointer (some ⟨g, 0, none⟩), .int .i64 no, .int .i64 t, .int .i64 u, .func (.func 136) #[] #[]] w (POut b0 gs 166 g bl hv w (.int .i64 (turnE hl now no t ok1)) (turnL hl now no t ok1 u) (turnN hl now no t ok1)) := by
  obtain ⟨RL, hRL⟩ : ∃ x, turnL hl now no t ok1 u = x := ⟨_, rfl⟩
  obtain ⟨RN, hRN⟩ : ∃ x, turnN hl now no t ok1 = x := ⟨_, rfl⟩
  obtain ⟨E, hE⟩ : ∃ x, turnE hl now no t ok1 = x := ⟨_, rfl⟩
  rw [hRL, hRN, hE]
  have HRL := Lib.hid hRL.symm
  have HRN := Lib.hid hRN.symm
  have HE := Lib.hid hE.symm
  unfold turnL at HRL
  unfold turnN at HRN
  unfold turnE at HE
  rw [hE] at HRL HRN
  clear hRL hRN hE
  have HP := Lib.hid hP
  obtain ⟨ba, bc, -, c1, c2, hgl, -, -, -⟩ := hP.cells
  obtain ⟨ha, hc, hvf, hIh, hlc, hcm⟩ := hP.holds
  have HIH := Lib.hid hIh
  obtain ⟨n, hnn⟩ : ∃ n, hl.length = n := ⟨_, rfl⟩
  rw [hnn] at hn HE hvf
  have HN := Lib.hid hnn
  subst hvf
  have HB0 := Lib.hid (Below.refl w.heap.size w)
  clear hP hnn hIh
  by_cases hno : no < 1 ∨ (n : Int) < no
  · obtain rfl : E = 8 := HE.out.trans (if_pos hno)
    obtain rfl : RL = hl := HRL.out.trans (if_neg (by decide))
    obtain rfl : RN = now := HRN.out.trans (if_neg (by decide))
    go_enter Tryd.func135, Tryd.ntmps135
    go_wp2_with fail
    with_reducible refine (owithin_no _ _ _ _ hno).mono ?_
    rintro e w2 ⟨rfl, rfl⟩
    go_wp2_with fail
    go_ret
    exact POut.same HP.out HB0.out
  · have HE1 := Lib.hid (HE.out.trans (if_neg hno))
    obtain ⟨j, hj⟩ := Int.eq_ofNat_of_zero_le (show 0 ≤ no - 1 by omega)
    obtain rfl : no = (j : Int) + 1 := by omega
    have hjn : j < n := by omega
    have hj1 : ((j : Int) + 1 - 1).toNat = j := by omega
    rw [hj1] at HE1 HRL
    have hjl : j < hl.length := by have := HN.out; omega
    rw [getH hl j hjl] at HE1 HRL
    have p1 : (1 : Int) ≤ (j : Int) + 1 := by omega
    have p2 : (j : Int) + 1 ≤ (n : Int) := by omega
    clear HE hno hj hj1
    go_enter Tryd.func135, Tryd.ntmps135
    go_wp2_with fail
    with_reducible refine (owithin_yes _ _ _ _ p1 p2).mono ?_
    rintro e w2 ⟨rfl, rfl⟩
    go_wp2_with fail
    with_reducible refine (omoment_any _ _).mono ?_
    rintro e w2 ⟨rfl, rfl⟩
    by_cases hm : 0 ≤ t ∧ t ≤ 4321439
    · have hmb : momB t = true := decide_eq_true hm
      have HE2 := Lib.hid (HE1.out.trans (if_neg (by rw [hmb]; decide)))
      rw [hmb]
      clear hmb HE1
      obtain ⟨m0, m1⟩ := hm
      by_cases hnow : t < now
      · obtain rfl : E = 7 := HE2.out.trans (if_pos hnow)
        obtain rfl : RL = hl := HRL.out.trans (if_neg (by decide))
        obtain rfl : RN = now := HRN.out.trans (if_neg (by decide))
        go_wp2_with fail
        go_ret
        exact POut.same HP.out HB0.out
      · have HE3 := Lib.hid (HE2.out.trans (if_neg hnow))
        clear HE2
        have hax : ∃ k : Nat, ha = some ⟨k, 0, none⟩ := by
          have hx := HP.out.own
          rw [HN.out] at hx
          obtain ⟨k, cap', hf, -⟩ := hx.form (by omega)
          injection hf with hf
          exact ⟨k, hf⟩
        obtain ⟨k, rfl⟩ := hax
        obtain ⟨p, off, hpe, hpl, s0, s1, s2, s3, s4, s5⟩ := HIH.out.at6 hjl (v0 := .int .i64 hl[j].no) (v1 := .string hl[j].key) (v2 := .int .i64 hl[j].cents) (v3 := .int .i64 hl[j].at_) (v4 := .int .i64 hl[j].until_) (v5 := .int .i64 hl[j].state) rfl
        injection hpe with hpe
        injection hpe with e1 e2
        subst e1 e2
        simp only [Nat.zero_add] at s0 s1 s2 s3 s4 s5
        have C := Lib.hid (fun w => stateAt_any hl[j] t w)
        have HRL2 := Lib.hid (fun h => HRL.out.trans (if_pos h))
        have HRLN := Lib.hid (fun h => HRL.out.trans (if_neg h))
        have HPS := Lib.hid (fun (w' : World) (now' : Int) (h : Pu b0 gs 166 g bl (.slice (some ⟨k, 0, none⟩) n hc) hl now' w') => h.setSt HN.out hjl u)
        have HSS := Lib.hid (show stSet hl[j] u = ⟨hl[j].no, hl[j].key, hl[j].cents, hl[j].at_, hl[j].until_, u⟩ from rfl)
        have hjj : (0 : Int) ≤ (j : Int) := by omega
        generalize stV hl[j] t = st at *
        obtain ⟨x, hx⟩ : ∃ x, hl[j] = x := ⟨_, rfl⟩
        rw [hx] at s0 s1 s2 s3 s4 s5 C HRL2 HPS HSS
        clear hx HRL
        obtain ⟨xno, xkey, xcents, xat, xuntil, xst⟩ := x
        simp only at s0 s1 s2 s3 s4 s5 C HSS
        clear hjj hcm hlc hn0 hn1 p1
        go_upto_region 7 with (fail)
        go_wp2_with fail
        with_reducible refine (C.out _).mono ?_
        rintro e w4 ⟨rfl, b4⟩
        have HP4 := Lib.hid (HP.out.below b4)
        have HB4 := Lib.hid b4
        clear s0 s1 s2 s3 s4 s5 c1 c2 C b4
        obtain ⟨ob, hob⟩ : ∃ ob, ok1 st = ob := ⟨_, rfl⟩
        have HOB := Lib.hid hob
        rw [hob] at HE3
        clear hob
        obtain ⟨_, _, -, c1, c2, hgl4, -, f1, f2⟩ := HP4.out.cells
        go_wp2_with fail
        with_reducible refine (commit1_any _ _).mono ?_
        rintro e w5 ⟨rfl, rfl⟩
        rw [HOB.out]
        cases ob with
        | false =>
          obtain rfl : E = 11 := HE3.out.trans (if_pos rfl)
          obtain rfl : RL = hl := HRLN.out (by decide)
          obtain rfl : RN = now := HRN.out.trans (if_neg (by decide))
          go_wp2_with fail
          go_ret
          exact POut.same HP.out HB4.out
        | true =>
          obtain rfl : E = 0 := HE3.out.trans (if_neg (by decide))
          obtain rfl : t = RN := (HRN.out.trans (if_pos rfl)).symm
          obtain rfl : RL = hl.set j (stSet ⟨xno, xkey, xcents, xat, xuntil, xst⟩ u) := HRL2.out rfl
          obtain ⟨P7, K7⟩ := HP4.out.setNow t
          have HP7 := Lib.hid P7
          have HK7 := Lib.hid K7
          clear P7 K7 HE3 HRN HRL2
          go_upto_region 10 with (fail)
          generalize w4.setCell ⟨g, 2, none⟩ (.int .i64 t) = w7 at *
          clear c1 c2 f1 f2 hgl4
          obtain ⟨_, _, -, c1, c2, hgl7, -, f1, f2⟩ := HP7.out.cells
          obtain ⟨P8, K8, d8, f8⟩ := HPS.out _ _ HP7.out
          have HP8 := Lib.hid P8
          have HK8 := Lib.hid K8
          clear P8 K8
          go_wp2_with fail
          go_ret
          exact ⟨_, rfl, HP8.out, ((Chg.of_below HB4.out _).trans HK7.out (fun i hi => .inl hi)).trans HK8.out (fun i hi => .inl hi), fun k hk => .inl hk⟩
    · have hmb : momB t = false := decide_eq_false hm
      obtain rfl : E = 1 := HE1.out.trans (if_pos hmb)
      obtain rfl : RL = hl := HRL.out.trans (if_neg (by decide))
      obtain rfl : RN = now := HRN.out.trans (if_neg (by decide))
      rw [hmb]
      go_wp2_with fail
      go_ret
      exact POut.same HP.out HB0.out

set_option maxRecDepth 100000 in
set_option maxHeartbeats 8000000 in
theorem turnR {b0 : Nat} {gs : List Nat} {g : Nat} {bl : List Bd} {hv : Value} {hl : List Hd} {now : Int} (no t u : Int) (w : World) (hP : Pu b0 gs 166 g bl hv hl now w) (hn : hl.length ≤ 1000)
    (ht0 : -1000000000 ≤ t) (ht1 : t ≤ 1000000000) (hn0 : -1000000000 ≤ no) (hn1 : no ≤ 1000000000) :
    Calls Tryd.prog 135 #[.pointer (some ⟨g, 0, none⟩), .int .i64 no, .int .i64 t, .int .i64 u, .func (.func 138) #[] #[]] w (POut b0 gs 166 g bl hv w (.int .i64 (turnE hl now no t ok2)) (turnL hl now no t ok2 u) (turnN hl now no t ok2)) := by
  obtain ⟨RL, hRL⟩ : ∃ x, turnL hl now no t ok2 u = x := ⟨_, rfl⟩
  obtain ⟨RN, hRN⟩ : ∃ x, turnN hl now no t ok2 = x := ⟨_, rfl⟩
  obtain ⟨E, hE⟩ : ∃ x, turnE hl now no t ok2 = x := ⟨_, rfl⟩
  rw [hRL, hRN, hE]
  have HRL := Lib.hid hRL.symm
  have HRN := Lib.hid hRN.symm
  have HE := Lib.hid hE.symm
  unfold turnL at HRL
  unfold turnN at HRN
  unfold turnE at HE
  rw [hE] at HRL HRN
  clear hRL hRN hE
  have HP := Lib.hid hP
  obtain ⟨ba, bc, -, c1, c2, hgl, -, -, -⟩ := hP.cells
  obtain ⟨ha, hc, hvf, hIh, hlc, hcm⟩ := hP.holds
  have HIH := Lib.hid hIh
  obtain ⟨n, hnn⟩ : ∃ n, hl.length = n := ⟨_, rfl⟩
  rw [hnn] at hn HE hvf
  have HN := Lib.hid hnn
  subst hvf
  have HB0 := Lib.hid (Below.refl w.heap.size w)
  clear hP hnn hIh
  by_cases hno : no < 1 ∨ (n : Int) < no
  · obtain rfl : E = 8 := HE.out.trans (if_pos hno)
    obtain rfl : RL = hl := HRL.out.trans (if_neg (by decide))
    obtain rfl : RN = now := HRN.out.trans (if_neg (by decide))
    go_enter Tryd.func135, Tryd.ntmps135
    go_wp2_with fail
    with_reducible refine (owithin_no _ _ _ _ hno).mono ?_
    rintro e w2 ⟨rfl, rfl⟩
    go_wp2_with fail
    go_ret
    exact POut.same HP.out HB0.out
  · have HE1 := Lib.hid (HE.out.trans (if_neg hno))
    obtain ⟨j, hj⟩ := Int.eq_ofNat_of_zero_le (show 0 ≤ no - 1 by omega)
    obtain rfl : no = (j : Int) + 1 := by omega
    have hjn : j < n := by omega
    have hj1 : ((j : Int) + 1 - 1).toNat = j := by omega
    rw [hj1] at HE1 HRL
    have hjl : j < hl.length := by have := HN.out; omega
    rw [getH hl j hjl] at HE1 HRL
    have p1 : (1 : Int) ≤ (j : Int) + 1 := by omega
    have p2 : (j : Int) + 1 ≤ (n : Int) := by omega
    clear HE hno hj hj1
    go_enter Tryd.func135, Tryd.ntmps135
    go_wp2_with fail
    with_reducible refine (owithin_yes _ _ _ _ p1 p2).mono ?_
    rintro e w2 ⟨rfl, rfl⟩
    go_wp2_with fail
    with_reducible refine (omoment_any _ _).mono ?_
    rintro e w2 ⟨rfl, rfl⟩
    by_cases hm : 0 ≤ t ∧ t ≤ 4321439
    · have hmb : momB t = true := decide_eq_true hm
      have HE2 := Lib.hid (HE1.out.trans (if_neg (by rw [hmb]; decide)))
      rw [hmb]
      clear hmb HE1
      obtain ⟨m0, m1⟩ := hm
      by_cases hnow : t < now
      · obtain rfl : E = 7 := HE2.out.trans (if_pos hnow)
        obtain rfl : RL = hl := HRL.out.trans (if_neg (by decide))
        obtain rfl : RN = now := HRN.out.trans (if_neg (by decide))
        go_wp2_with fail
        go_ret
        exact POut.same HP.out HB0.out
      · have HE3 := Lib.hid (HE2.out.trans (if_neg hnow))
        clear HE2
        have hax : ∃ k : Nat, ha = some ⟨k, 0, none⟩ := by
          have hx := HP.out.own
          rw [HN.out] at hx
          obtain ⟨k, cap', hf, -⟩ := hx.form (by omega)
          injection hf with hf
          exact ⟨k, hf⟩
        obtain ⟨k, rfl⟩ := hax
        obtain ⟨p, off, hpe, hpl, s0, s1, s2, s3, s4, s5⟩ := HIH.out.at6 hjl (v0 := .int .i64 hl[j].no) (v1 := .string hl[j].key) (v2 := .int .i64 hl[j].cents) (v3 := .int .i64 hl[j].at_) (v4 := .int .i64 hl[j].until_) (v5 := .int .i64 hl[j].state) rfl
        injection hpe with hpe
        injection hpe with e1 e2
        subst e1 e2
        simp only [Nat.zero_add] at s0 s1 s2 s3 s4 s5
        have C := Lib.hid (fun w => stateAt_any hl[j] t w)
        have HRL2 := Lib.hid (fun h => HRL.out.trans (if_pos h))
        have HRLN := Lib.hid (fun h => HRL.out.trans (if_neg h))
        have HPS := Lib.hid (fun (w' : World) (now' : Int) (h : Pu b0 gs 166 g bl (.slice (some ⟨k, 0, none⟩) n hc) hl now' w') => h.setSt HN.out hjl u)
        have HSS := Lib.hid (show stSet hl[j] u = ⟨hl[j].no, hl[j].key, hl[j].cents, hl[j].at_, hl[j].until_, u⟩ from rfl)
        have hjj : (0 : Int) ≤ (j : Int) := by omega
        generalize stV hl[j] t = st at *
        obtain ⟨x, hx⟩ : ∃ x, hl[j] = x := ⟨_, rfl⟩
        rw [hx] at s0 s1 s2 s3 s4 s5 C HRL2 HPS HSS
        clear hx HRL
        obtain ⟨xno, xkey, xcents, xat, xuntil, xst⟩ := x
        simp only at s0 s1 s2 s3 s4 s5 C HSS
        clear hjj hcm hlc hn0 hn1 p1
        go_upto_region 7 with (fail)
        go_wp2_with fail
        with_reducible refine (C.out _).mono ?_
        rintro e w4 ⟨rfl, b4⟩
        have HP4 := Lib.hid (HP.out.below b4)
        have HB4 := Lib.hid b4
        clear s0 s1 s2 s3 s4 s5 c1 c2 C b4
        obtain ⟨ob, hob⟩ : ∃ ob, ok2 st = ob := ⟨_, rfl⟩
        have HOB := Lib.hid hob
        rw [hob] at HE3
        clear hob
        obtain ⟨_, _, -, c1, c2, hgl4, -, f1, f2⟩ := HP4.out.cells
        go_wp2_with fail
        with_reducible refine (release1_any _ _).mono ?_
        rintro e w5 ⟨rfl, rfl⟩
        rw [HOB.out]
        cases ob with
        | false =>
          obtain rfl : E = 11 := HE3.out.trans (if_pos rfl)
          obtain rfl : RL = hl := HRLN.out (by decide)
          obtain rfl : RN = now := HRN.out.trans (if_neg (by decide))
          go_wp2_with fail
          go_ret
          exact POut.same HP.out HB4.out
        | true =>
          obtain rfl : E = 0 := HE3.out.trans (if_neg (by decide))
          obtain rfl : t = RN := (HRN.out.trans (if_pos rfl)).symm
          obtain rfl : RL = hl.set j (stSet ⟨xno, xkey, xcents, xat, xuntil, xst⟩ u) := HRL2.out rfl
          obtain ⟨P7, K7⟩ := HP4.out.setNow t
          have HP7 := Lib.hid P7
          have HK7 := Lib.hid K7
          clear P7 K7 HE3 HRN HRL2
          go_upto_region 10 with (fail)
          generalize w4.setCell ⟨g, 2, none⟩ (.int .i64 t) = w7 at *
          clear c1 c2 f1 f2 hgl4
          obtain ⟨_, _, -, c1, c2, hgl7, -, f1, f2⟩ := HP7.out.cells
          obtain ⟨P8, K8, d8, f8⟩ := HPS.out _ _ HP7.out
          have HP8 := Lib.hid P8
          have HK8 := Lib.hid K8
          clear P8 K8
          go_wp2_with fail
          go_ret
          exact ⟨_, rfl, HP8.out, ((Chg.of_below HB4.out _).trans HK7.out (fun i hi => .inl hi)).trans HK8.out (fun i hi => .inl hi), fun k hk => .inl hk⟩
    · have hmb : momB t = false := decide_eq_false hm
      obtain rfl : E = 1 := HE1.out.trans (if_pos hmb)
      obtain rfl : RL = hl := HRL.out.trans (if_neg (by decide))
      obtain rfl : RN = now := HRN.out.trans (if_neg (by decide))
      rw [hmb]
      go_wp2_with fail
      go_ret
      exact POut.same HP.out HB0.out

set_option maxRecDepth 100000 in
set_option maxHeartbeats 8000000 in
theorem turnRef {b0 : Nat} {gs : List Nat} {g : Nat} {bl : List Bd} {hv : Value} {hl : List Hd} {now : Int} (ok : Int → Bool) (no t u : Int) (w : World) (hP : Pu b0 gs 168 g bl hv hl now w) (hn : hl.length ≤ 1000)
    (ht0 : -1000000000 ≤ t) (ht1 : t ≤ 1000000000) (hn0 : -1000000000 ≤ no) (hn1 : no ≤ 1000000000) (h m mc : Nat) (zs : List Int) (hm : zs.length = m) (hm1 : m ≤ 10) (hI : IntsAt w (some ⟨h, 0, none⟩) zs) (hzs : ∀ s, zs.contains s = ok s) :
    Calls Tryd.prog 137 #[.pointer (some ⟨g, 0, none⟩), .int .i64 no, .int .i64 t, .int .i64 u, .slice (some ⟨h, 0, none⟩) m mc] w (POut b0 gs 168 g bl hv w (.int .i64 (turnE hl now no t ok)) (turnL hl now no t ok u) (turnN hl now no t ok)) := by
  obtain ⟨RL, hRL⟩ : ∃ x, turnL hl now no t ok u = x := ⟨_, rfl⟩
  obtain ⟨RN, hRN⟩ : ∃ x, turnN hl now no t ok = x := ⟨_, rfl⟩
  obtain ⟨E, hE⟩ : ∃ x, turnE hl now no t ok = x := ⟨_, rfl⟩
  rw [hRL, hRN, hE]
  have HRL := Lib.hid hRL.symm
  have HRN := Lib.hid hRN.symm
  have HE := Lib.hid hE.symm
  unfold turnL at HRL
  unfold turnN at HRN
  unfold turnE at HE
  rw [hE] at HRL HRN
  clear hRL hRN hE
  have HP := Lib.hid hP
  obtain ⟨ba, bc, -, c1, c2, hgl, -, -, -⟩ := hP.cells
  obtain ⟨ha, hc, hvf, hIh, hlc, hcm⟩ := hP.holds
  have HIH := Lib.hid hIh
  obtain ⟨n, hnn⟩ : ∃ n, hl.length = n := ⟨_, rfl⟩
  rw [hnn] at hn HE hvf
  have HN := Lib.hid hnn
  subst hvf
  have HB0 := Lib.hid (Below.refl w.heap.size w)
  have HIO := Lib.hid hI
  clear hI
  clear hP hnn hIh
  by_cases hno : no < 1 ∨ (n : Int) < no
  · obtain rfl : E = 8 := HE.out.trans (if_pos hno)
    obtain rfl : RL = hl := HRL.out.trans (if_neg (by decide))
    obtain rfl : RN = now := HRN.out.trans (if_neg (by decide))
    rcases hno with hno | hno
    · go_enter Tryd.func137, Tryd.ntmps137
      go_wp2_with fail
      go_ret
      exact POut.same HP.out HB0.out
    · have q1 : ¬ no < 1 := by omega
      go_enter Tryd.func137, Tryd.ntmps137
      go_wp2_with fail
      go_ret
      exact POut.same HP.out HB0.out
  · have HE1 := Lib.hid (HE.out.trans (if_neg hno))
    obtain ⟨j, hj⟩ := Int.eq_ofNat_of_zero_le (show 0 ≤ no - 1 by omega)
    obtain rfl : no = (j : Int) + 1 := by omega
    have hjn : j < n := by omega
    have hj1 : ((j : Int) + 1 - 1).toNat = j := by omega
    rw [hj1] at HE1 HRL
    have hjl : j < hl.length := by have := HN.out; omega
    rw [getH hl j hjl] at HE1 HRL
    have p1 : (1 : Int) ≤ (j : Int) + 1 := by omega
    have p2 : (j : Int) + 1 ≤ (n : Int) := by omega
    clear HE hno hj hj1
    have q1 : ¬ (j : Int) + 1 < 1 := by omega
    have q2 : ¬ (n : Int) < (j : Int) + 1 := by omega
    go_enter Tryd.func137, Tryd.ntmps137
    go_wp2_with fail
    with_reducible refine (moment_any _ _).mono ?_
    rintro e w2 ⟨rfl, rfl⟩
    by_cases hm : 0 ≤ t ∧ t ≤ 4321439
    · have hmb : momB t = true := decide_eq_true hm
      have HE2 := Lib.hid (HE1.out.trans (if_neg (by rw [hmb]; decide)))
      rw [hmb]
      clear hmb HE1
      obtain ⟨m0, m1⟩ := hm
      by_cases hnow : t < now
      · obtain rfl : E = 7 := HE2.out.trans (if_pos hnow)
        obtain rfl : RL = hl := HRL.out.trans (if_neg (by decide))
        obtain rfl : RN = now := HRN.out.trans (if_neg (by decide))
        go_wp2_with fail
        go_ret
        exact POut.same HP.out HB0.out
      · have HE3 := Lib.hid (HE2.out.trans (if_neg hnow))
        clear HE2
        have hax : ∃ k : Nat, ha = some ⟨k, 0, none⟩ := by
          have hx := HP.out.own
          rw [HN.out] at hx
          obtain ⟨k, cap', hf, -⟩ := hx.form (by omega)
          injection hf with hf
          exact ⟨k, hf⟩
        obtain ⟨k, rfl⟩ := hax
        obtain ⟨p, off, hpe, hpl, s0, s1, s2, s3, s4, s5⟩ := HIH.out.at6 hjl (v0 := .int .i64 hl[j].no) (v1 := .string hl[j].key) (v2 := .int .i64 hl[j].cents) (v3 := .int .i64 hl[j].at_) (v4 := .int .i64 hl[j].until_) (v5 := .int .i64 hl[j].state) rfl
        injection hpe with hpe
        injection hpe with e1 e2
        subst e1 e2
        simp only [Nat.zero_add] at s0 s1 s2 s3 s4 s5
        have C := Lib.hid (fun w => stateAtRef_any hl[j] t w)
        have HRL2 := Lib.hid (fun h => HRL.out.trans (if_pos h))
        have HRLN := Lib.hid (fun h => HRL.out.trans (if_neg h))
        have HPS := Lib.hid (fun (w' : World) (now' : Int) (h : Pu b0 gs 168 g bl (.slice (some ⟨k, 0, none⟩) n hc) hl now' w') => h.setSt HN.out hjl u)
        have HSS := Lib.hid (show stSet hl[j] u = ⟨hl[j].no, hl[j].key, hl[j].cents, hl[j].at_, hl[j].until_, u⟩ from rfl)
        have hjj : (0 : Int) ≤ (j : Int) := by omega
        generalize stV hl[j] t = st at *
        obtain ⟨x, hx⟩ : ∃ x, hl[j] = x := ⟨_, rfl⟩
        rw [hx] at s0 s1 s2 s3 s4 s5 C HRL2 HPS HSS
        clear hx HRL
        obtain ⟨xno, xkey, xcents, xat, xuntil, xst⟩ := x
        simp only at s0 s1 s2 s3 s4 s5 C HSS
        clear hjj hcm hlc hn0 hn1 p1
        go_upto_region 7 with (fail)
        go_wp2_with fail
        with_reducible refine (C.out _).mono ?_
        rintro e w4 ⟨rfl, b4⟩
        have HP4 := Lib.hid (HP.out.below b4)
        have HB4 := Lib.hid b4
        have HIO4 := Lib.hid (HIO.out.below b4)
        clear s0 s1 s2 s3 s4 s5 c1 c2 C b4
        obtain ⟨ob, hob⟩ : ∃ ob, ok st = ob := ⟨_, rfl⟩
        have HOB := Lib.hid hob
        rw [hob] at HE3
        clear hob
        obtain ⟨_, _, -, c1, c2, hgl4, -, f1, f2⟩ := HP4.out.cells
        go_wp2_with fail
        with_reducible refine (oneOf h zs m mc ok _ _ HIO4.out hm (by omega) hzs).mono ?_
        rintro e w5 ⟨rfl, rfl⟩
        rw [HOB.out]
        cases ob with
        | false =>
          obtain rfl : E = 11 := HE3.out.trans (if_pos rfl)
          obtain rfl : RL = hl := HRLN.out (by decide)
          obtain rfl : RN = now := HRN.out.trans (if_neg (by decide))
          go_wp2_with fail
          go_ret
          exact POut.same HP.out HB4.out
        | true =>
          obtain rfl : E = 0 := HE3.out.trans (if_neg (by decide))
          obtain rfl : t = RN := (HRN.out.trans (if_pos rfl)).symm
          obtain rfl : RL = hl.set j (stSet ⟨xno, xkey, xcents, xat, xuntil, xst⟩ u) := HRL2.out rfl
          obtain ⟨P7, K7⟩ := HP4.out.setNow t
          have HP7 := Lib.hid P7
          have HK7 := Lib.hid K7
          clear P7 K7 HE3 HRN HRL2
          go_upto_region 10 with (fail)
          generalize w4.setCell ⟨g, 2, none⟩ (.int .i64 t) = w7 at *
          clear c1 c2 f1 f2 hgl4
          obtain ⟨_, _, -, c1, c2, hgl7, -, f1, f2⟩ := HP7.out.cells
          obtain ⟨P8, K8, d8, f8⟩ := HPS.out _ _ HP7.out
          have HP8 := Lib.hid P8
          have HK8 := Lib.hid K8
          clear P8 K8
          go_wp2_with fail
          go_ret
          exact ⟨_, rfl, HP8.out, ((Chg.of_below HB4.out _).trans HK7.out (fun i hi => .inl hi)).trans HK8.out (fun i hi => .inl hi), fun k hk => .inl hk⟩
    · have hmb : momB t = false := decide_eq_false hm
      obtain rfl : E = 1 := HE1.out.trans (if_pos hmb)
      obtain rfl : RL = hl := HRL.out.trans (if_neg (by decide))
      obtain rfl : RN = now := HRN.out.trans (if_neg (by decide))
      rw [hmb]
      go_wp2_with fail
      go_ret
      exact POut.same HP.out HB0.out

set_option maxHeartbeats 2000000 in
theorem commitOff_any {b0 : Nat} {gs : List Nat} {g : Nat} {bl : List Bd} {hv : Value} {hl : List Hd} {now : Int} (no t : Int) (w : World) (hP : Pu b0 gs 166 g bl hv hl now w) (hn : hl.length ≤ 1000)
    (ht0 : -1000000000 ≤ t) (ht1 : t ≤ 1000000000) (hn0 : -1000000000 ≤ no) (hn1 : no ≤ 1000000000) :
    Calls Tryd.prog 61 #[.pointer (some ⟨g, 0, none⟩), .int .i64 no, .int .i64 t] w (POut b0 gs 166 g bl hv w (.int .i64 (turnE hl now no t ok1)) (turnL hl now no t ok1 2) (turnN hl now no t ok1)) := by
  have C := Lib.hid (turnC no t 2 w hP hn ht0 ht1 hn0 hn1)
  clear hP
  generalize turnE hl now no t ok1 = E at *
  generalize turnL hl now no t ok1 2 = L at *
  generalize turnN hl now no t ok1 = N at *
  go_enter Tryd.func61, Tryd.ntmps61
  go_wp2_with fail
  with_reducible refine C.out.mono ?_
  rintro e w1 ⟨hv', rfl, h1⟩
  have H1 := Lib.hid h1
  clear h1
  go_wp2_with fail
  go_ret
  obtain ⟨h1, h2, h3⟩ := H1.out
  exact ⟨hv', rfl, h1, h2, h3⟩

set_option maxHeartbeats 2000000 in
theorem releaseOff_any {b0 : Nat} {gs : List Nat} {g : Nat} {bl : List Bd} {hv : Value} {hl : List Hd} {now : Int} (no t : Int) (w : World) (hP : Pu b0 gs 166 g bl hv hl now w) (hn : hl.length ≤ 1000)
    (ht0 : -1000000000 ≤ t) (ht1 : t ≤ 1000000000) (hn0 : -1000000000 ≤ no) (hn1 : no ≤ 1000000000) :
    Calls Tryd.prog 63 #[.pointer (some ⟨g, 0, none⟩), .int .i64 no, .int .i64 t] w (POut b0 gs 166 g bl hv w (.int .i64 (turnE hl now no t ok2)) (turnL hl now no t ok2 3) (turnN hl now no t ok2)) := by
  have C := Lib.hid (turnR no t 3 w hP hn ht0 ht1 hn0 hn1)
  clear hP
  generalize turnE hl now no t ok2 = E at *
  generalize turnL hl now no t ok2 3 = L at *
  generalize turnN hl now no t ok2 = N at *
  go_enter Tryd.func63, Tryd.ntmps63
  go_wp2_with fail
  with_reducible refine C.out.mono ?_
  rintro e w1 ⟨hv', rfl, h1⟩
  have H1 := Lib.hid h1
  clear h1
  go_wp2_with fail
  go_ret
  obtain ⟨h1, h2, h3⟩ := H1.out
  exact ⟨hv', rfl, h1, h2, h3⟩

set_option maxHeartbeats 2000000 in
theorem commitRef_any {b0 : Nat} {gs : List Nat} {g : Nat} {bl : List Bd} {hv : Value} {hl : List Hd} {now : Int} (no t : Int) (w : World) (hP : Pu b0 gs 168 g bl hv hl now w) (hn : hl.length ≤ 1000)
    (ht0 : -1000000000 ≤ t) (ht1 : t ≤ 1000000000) (hn0 : -1000000000 ≤ no) (hn1 : no ≤ 1000000000) :
    Calls Tryd.prog 62 #[.pointer (some ⟨g, 0, none⟩), .int .i64 no, .int .i64 t] w (POut b0 gs 168 g bl hv w (.int .i64 (turnE hl now no t ok1)) (turnL hl now no t ok1 2) (turnN hl now no t ok1)) := by
  have C := Lib.hid (turnRef ok1 no t 2 (w.alloc (.cells #[.int .i64 1] 3)) (hP.below ((Below.refl _ _).alloc (Nat.le_refl _) _)) hn ht0 ht1 hn0 hn1 w.heap.size 1 1 [1] rfl (by omega) (IntsAt.block (zs := [1]) (t := 3) (heap_alloc_new w _)) (fun s => by unfold ok1; simp))
  clear hP
  generalize turnE hl now no t ok1 = E at *
  generalize turnL hl now no t ok1 2 = L at *
  generalize turnN hl now no t ok1 = N at *
  go_enter Tryd.func62, Tryd.ntmps62
  go_wp2_with fail
  with_reducible refine C.out.mono ?_
  rintro e w1 ⟨hv', rfl, h1⟩
  have H1 := Lib.hid h1
  clear h1
  go_wp2_with fail
  go_ret
  obtain ⟨h1, h2, h3⟩ := H1.out
  refine ⟨hv', rfl, h1, (Chg.of_below ((Below.refl w.heap.size w).alloc (Nat.le_refl _) _) _).trans h2 (fun i hi => .inl hi), fun k hk => ?_⟩
  rcases h3 k hk with e | e
  · exact .inl e
  · right
    rw [World.size_alloc] at e
    omega

set_option maxHeartbeats 2000000 in
theorem releaseRef_any {b0 : Nat} {gs : List Nat} {g : Nat} {bl : List Bd} {hv : Value} {hl : List Hd} {now : Int} (no t : Int) (w : World) (hP : Pu b0 gs 168 g bl hv hl now w) (hn : hl.length ≤ 1000)
    (ht0 : -1000000000 ≤ t) (ht1 : t ≤ 1000000000) (hn0 : -1000000000 ≤ no) (hn1 : no ≤ 1000000000) :
    Calls Tryd.prog 64 #[.pointer (some ⟨g, 0, none⟩), .int .i64 no, .int .i64 t] w (POut b0 gs 168 g bl hv w (.int .i64 (turnE hl now no t ok2)) (turnL hl now no t ok2 3) (turnN hl now no t ok2)) := by
  have C := Lib.hid (turnRef ok2 no t 3 (w.alloc (.cells #[.int .i64 1, .int .i64 2] 3)) (hP.below ((Below.refl _ _).alloc (Nat.le_refl _) _)) hn ht0 ht1 hn0 hn1 w.heap.size 2 2 [1, 2] rfl (by omega) (IntsAt.block (zs := [1, 2]) (t := 3) (heap_alloc_new w _)) (fun s => by unfold ok2; simp))
  clear hP
  generalize turnE hl now no t ok2 = E at *
  generalize turnL hl now no t ok2 3 = L at *
  generalize turnN hl now no t ok2 = N at *
  go_enter Tryd.func64, Tryd.ntmps64
  go_wp2_with fail
  with_reducible refine C.out.mono ?_
  rintro e w1 ⟨hv', rfl, h1⟩
  have H1 := Lib.hid h1
  clear h1
  go_wp2_with fail
  go_ret
  obtain ⟨h1, h2, h3⟩ := H1.out
  refine ⟨hv', rfl, h1, (Chg.of_below ((Below.refl w.heap.size w).alloc (Nat.le_refl _) _) _).trans h2 (fun i hi => .inl hi), fun k hk => ?_⟩
  rcases h3 k hk with e | e
  · exact .inl e
  · right
    rw [World.size_alloc] at e
    omega
end Go.Proofs.YtdnikegakcdcnaaDoor
