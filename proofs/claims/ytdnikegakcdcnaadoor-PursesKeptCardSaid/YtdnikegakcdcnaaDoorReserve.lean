/- Purse.Reserve, of the program and of the reference (printed by gen_reserve.py). -/
import Derived.Test.YtdnikegakcdcnaaDoorPurse2
import Derived.Deep.RegionHeld3
import Derived.Deep.RegionLaw
import Derived.Deep.DeepCutAuto
set_option linter.unusedVariables false
namespace Go.Proofs.YtdnikegakcdcnaaDoor
open Go.RowKit

theorem s6_below {w w' : World} (b : Below w.heap.size w w') {q g : Nat} (hq : q < w.heap.size) (hg : g < w.heap.size) {v0 v1 v2 v3 v4 v5 : Value}
    (h : w.cell? ⟨q, 0, none⟩ = some v0 ∧ w.cell? ⟨q, 1, none⟩ = some v1 ∧ w.cell? ⟨q, 2, none⟩ = some v2 ∧ w.cell? ⟨q, 3, none⟩ = some v3 ∧ w.cell? ⟨q, 4, none⟩ = some v4 ∧ w.cell? ⟨g, 1, none⟩ = some v5) :
    w'.cell? ⟨q, 0, none⟩ = some v0 ∧ w'.cell? ⟨q, 1, none⟩ = some v1 ∧ w'.cell? ⟨q, 2, none⟩ = some v2 ∧ w'.cell? ⟨q, 3, none⟩ = some v3 ∧ w'.cell? ⟨q, 4, none⟩ = some v4 ∧ w'.cell? ⟨g, 1, none⟩ = some v5 := by
  obtain ⟨h0, h1, h2, h3, h4, h5⟩ := h
  exact ⟨(b.cell (p := ⟨q, 0, none⟩) hq).trans h0, (b.cell (p := ⟨q, 1, none⟩) hq).trans h1, (b.cell (p := ⟨q, 2, none⟩) hq).trans h2, (b.cell (p := ⟨q, 3, none⟩) hq).trans h3, (b.cell (p := ⟨q, 4, none⟩) hq).trans h4, (b.cell (p := ⟨g, 1, none⟩) hg).trans h5⟩

set_option maxRecDepth 100000 in
set_option maxHeartbeats 8000000 in
theorem reserveOff_any {b0 : Nat} {gs : List Nat} {g : Nat} {bl : List Bd} {hv : Value} {hl : List Hd} {now : Int} (key : ByteArray) (cents t u : Int) (w : World) (hP : Pu b0 gs 166 g bl hv hl now w) (hb : bl.length ≤ 50) (hbl : ∀ x ∈ bl, bdB x = true) (hk : key.size ≤ 1000) (hn : hl.length ≤ 1000) (hok : ∀ x ∈ hl, x.ok)
    (ht0 : -1000000000 ≤ t) (ht1 : t ≤ 1000000000) (hu0 : -1000000000 ≤ u) (hu1 : u ≤ 1000000000) :
    Calls Tryd.prog 59 #[.pointer (some ⟨g, 0, none⟩), .string key, .int .i64 cents, .int .i64 t, .int .i64 u] w (POut b0 gs 166 g bl hv w (resV bl hl now key cents t u) (resL bl hl now key cents t u) (resN bl hl now key cents t u)) := by
  obtain ⟨i0, hi, hz0, hz1, hz2⟩ := info_parts infoHold
  obtain ⟨RV, hRV⟩ : ∃ x, resV bl hl now key cents t u = x := ⟨_, rfl⟩
  obtain ⟨RL, hRL⟩ : ∃ x, resL bl hl now key cents t u = x := ⟨_, rfl⟩
  obtain ⟨RN, hRN⟩ : ∃ x, resN bl hl now key cents t u = x := ⟨_, rfl⟩
  obtain ⟨E, hE⟩ : ∃ x, resE bl hl now key cents t u = x := ⟨_, rfl⟩
  rw [hRV, hRL, hRN]
  have HRV := Lib.hid hRV.symm
  have HRL := Lib.hid hRL.symm
  have HRN := Lib.hid hRN.symm
  have HE := Lib.hid hE.symm
  unfold resV at HRV
  unfold resL at HRL
  unfold resN at HRN
  unfold resE at HE
  rw [hE] at HRV HRL HRN
  clear hRV hRL hRN hE
  have HP := Lib.hid hP
  have HBL := Lib.hid (fun h => hbl _ (bdGet_mem (l := bl) (key := key) h))
  have HOK := Lib.hid hok
  have CB := Lib.hid (fun w (h : Pu b0 gs 166 g bl hv hl now w) => budgetOfOff_any key w h hb hk)
  have CT := Lib.hid (fun w (h : Pu b0 gs 166 g bl hv hl now w) => takenOff_any key t w h hn hok)
  have htb := tkV_bd hl key t hok
  have hgl0 := hP.glt g hP.mem
  have hle0 := hP.le
  clear hP hbl hok
  generalize bdAt bl key = D at *
  generalize tkV hl key t = T at *
  generalize bdGet bl key = G at *
  obtain ⟨htb0, htb1⟩ := htb
  have htb2 : T ≤ 2000000000000000 := by omega
  clear htb1
  go_enter Tryd.func59, Tryd.ntmps59
  go_wp2_with fail
  with_reducible refine (CB.out _ HP.out).mono ?_
  rintro e w1 ⟨rfl, b1⟩
  have HP1 := Lib.hid (HP.out.below b1)
  have HX := Lib.hid (XB.new w1 [.string G.key, .int .i64 G.cents, .int .i64 G.first, .int .i64 G.last, .bool G.pace] 81)
  have HB := Lib.hid ((b1.alloc b1.size (.cells #[.string G.key, .int .i64 G.cents, .int .i64 G.first, .int .i64 G.last, .bool G.pace] 81)))
  have HP2 := Lib.hid (HP1.out.below ((Below.refl _ _).alloc (Nat.le_refl _) (.cells #[.string G.key, .int .i64 G.cents, .int .i64 G.first, .int .i64 G.last, .bool G.pace] 81)))
  simp only [List.toArray] at HX
  have hb1 := b1.size
  clear b1 CB HP1
  by_cases hD : D < 0
  · have hE0 : E = 8 := HE.out.trans (if_pos hD)
    obtain rfl : RV = .tuple #[.int .i64 0, .int .i64 8] := by rw [HRV.out, if_neg (by omega), hE0]
    obtain rfl : RL = hl := HRL.out.trans (if_neg (by omega))
    obtain rfl : RN = now := HRN.out.trans (if_neg (by omega))
    have hd : decide (0 ≤ D) = false := decide_eq_false (by omega)
    rw [hd]
    clear hE0
    go_wp2_with fail
    go_ret2
    exact POut.same HP.out HB.out
  · have hd : decide (0 ≤ D) = true := decide_eq_true (by omega)
    rw [hd]
    have HE1 := Lib.hid (HE.out.trans (if_neg hD))
    have HBB := Lib.hid (HBL.out (by omega))
    clear HE HBL hd
    by_cases hbad : cents < 1 ∨ 1000000000000 < cents ∨ momB t = false ∨ u ≤ t ∨ 4321440 < u
    · have hE0 : E = 1 := HE1.out.trans (if_pos hbad)
      obtain rfl : RV = .tuple #[.int .i64 0, .int .i64 1] := by rw [HRV.out, if_neg (by omega), hE0]
      obtain rfl : RL = hl := HRL.out.trans (if_neg (by omega))
      obtain rfl : RN = now := HRN.out.trans (if_neg (by omega))
      clear hE0 HE1 HX HP2
      have HBD := Lib.hid hbad
      clear hbad
      by_cases q1 : cents < 1 ∨ 1000000000000 < cents
      · go_wp2_with fail
        with_reducible refine (owithin_no _ _ _ _ q1).mono ?_
        rintro e w2 ⟨rfl, rfl⟩
        go_wp2_with fail
        go_ret2
        exact POut.same HP.out HB.out
      · have p1 : 1 ≤ cents := by omega
        have p2 : cents ≤ 1000000000000 := by omega
        clear q1
        go_wp2_with fail
        with_reducible refine (owithin_yes _ _ _ _ p1 p2).mono ?_
        rintro e w2 ⟨rfl, rfl⟩
        go_wp2_with fail
        with_reducible refine (omoment_any _ _).mono ?_
        rintro e w2 ⟨rfl, rfl⟩
        obtain ⟨m, hm⟩ : ∃ m, momB t = m := ⟨_, rfl⟩
        rw [hm]
        have HM := Lib.hid hm
        clear hm
        cases m with
        | false =>
          go_wp2_with fail
          go_ret2
          exact POut.same HP.out HB.out
        | true =>
          have q3 : u < t + 1 ∨ 4321440 < u := by
            rcases HBD.out with h | h | h | h | h
            · omega
            · omega
            · rw [HM.out] at h; cases h
            · omega
            · omega
          go_wp2_with fail
          with_reducible refine (owithin_no _ _ _ _ q3).mono ?_
          rintro e w2 ⟨rfl, rfl⟩
          go_wp2_with fail
          go_ret2
          exact POut.same HP.out HB.out
    · have HE2 := Lib.hid (HE1.out.trans (if_neg hbad))
      have p1 : 1 ≤ cents := by omega
      have p2 : cents ≤ 1000000000000 := by omega
      have p3 : t + 1 ≤ u := by omega
      have p4 : u ≤ 4321440 := by omega
      have hmb : momB t = true := by
        cases h : momB t with
        | true => rfl
        | false => exact absurd (.inr (.inr (.inl h))) hbad
      have hmt : 0 ≤ t ∧ t ≤ 4321439 := by
        unfold momB at hmb
        exact of_decide_eq_true hmb
      obtain ⟨m0, m1⟩ := hmt
      have HMB := Lib.hid hmb
      clear HE1 hbad hmb
      go_wp2_with fail
      with_reducible refine (owithin_yes _ _ _ _ p1 p2).mono ?_
      rintro e w2 ⟨rfl, rfl⟩
      go_wp2_with fail
      with_reducible refine (omoment_any _ _).mono ?_
      rintro e w2 ⟨rfl, rfl⟩
      rw [HMB.out]
      go_wp2_with fail
      with_reducible refine (owithin_yes _ _ _ _ p3 p4).mono ?_
      rintro e w2 ⟨rfl, rfl⟩
      obtain ⟨ba, bc, -, c1, c2, hgl, -, -, -⟩ := HP2.out.cells
      by_cases hnow : t < now
      · have hE0 : E = 7 := HE2.out.trans (if_pos hnow)
        obtain rfl : RV = .tuple #[.int .i64 0, .int .i64 7] := by rw [HRV.out, if_neg (by omega), hE0]
        obtain rfl : RL = hl := HRL.out.trans (if_neg (by omega))
        obtain rfl : RN = now := HRN.out.trans (if_neg (by omega))
        clear hE0
        go_wp2_with fail
        go_ret2
        exact POut.same HP.out HB.out
      · have HE3 := Lib.hid (HE2.out.trans (if_neg hnow))
        have hpv := pacV_bd G t HBB.out m0 m1
        have CP := Lib.hid (fun w => paced_any G t w HBB.out m0 m1)
        generalize pacV G t = PV at *
        obtain ⟨hp0, hp1⟩ := hpv
        obtain ⟨ha, hc, hvf, -, hlc, hcm⟩ := HP2.out.holds
        generalize hw1 : w1.alloc (.cells #[.string G.key, .int .i64 G.cents, .int .i64 G.first, .int .i64 G.last, .bool G.pace] 81) = w3 at *
        obtain ⟨x0, x1, x2, x3, x4⟩ := HX.out.at5
        have hqw3 := HX.out.1
        have HPd := Lib.hid (HP2.out.below (Below.refl w3.heap.size w3).drew)
        clear hw1 HE2 HX HMB
        generalize hq : w1.heap.size = q at *
        have HQ := Lib.hid hq
        clear hq
        obtain ⟨n, hnn⟩ : ∃ n, hl.length = n := ⟨_, rfl⟩
        rw [hnn] at hn HRV HRL hvf
        have HN := Lib.hid hnn
        clear hnn
        subst hvf
        have hd1 : decide (2000 ≤ n) = false := decide_eq_false (by omega)
        have hd2 : decide ((2000 : Int) ≤ (n : Int)) = false := decide_eq_false (by omega)
        have hd3 : ((n : Int) == 2000) = false := by simp; omega
        have hq3 : q < w3.drew.heap.size := hqw3
        have hg3 : g < w3.drew.heap.size := hgl
        have HBd := Lib.hid (HB.out.drew)
        by_cases hfull : PV < T + cents
        · have hE0 : E = 12 := HE3.out.trans (if_pos hfull)
          obtain rfl : RV = .tuple #[.int .i64 0, .int .i64 12] := by rw [HRV.out, if_neg (by omega), hE0]
          obtain rfl : RL = hl := HRL.out.trans (if_neg (by omega))
          obtain rfl : RN = now := HRN.out.trans (if_neg (by omega))
          have hd4 : decide (PV < T + cents) = true := decide_eq_true hfull
          have e1 : IntKind.i64.wrap (T + cents) = T + cents := by rw [IntKind.wrap_i64]; omega
          clear hE0
          go_upto_region 8 with (fail)
          go_region_held3 (fun w' => w'.cell? ⟨q, 0, none⟩ = some (.string G.key) ∧ w'.cell? ⟨q, 1, none⟩ = some (.int .i64 G.cents) ∧ w'.cell? ⟨q, 2, none⟩ = some (.int .i64 G.first) ∧ w'.cell? ⟨q, 3, none⟩ = some (.int .i64 G.last) ∧ w'.cell? ⟨q, 4, none⟩ = some (.bool G.pace) ∧ w'.cell? ⟨g, 1, none⟩ = some (.slice ha n hc))
            (first | go_keep | (refine s6_below b6 ?_ ?_ ?_ <;> first | assumption | (exact Nat.lt_of_lt_of_le hq3 b5.size) | (exact Nat.lt_of_lt_of_le hg3 b5.size)) | (refine s6_below b5 ?_ ?_ ⟨?_, ?_, ?_, ?_, ?_, ?_⟩ <;> first | assumption | (go_simp; done)))
            (first | (go_at_call 132; with_reducible refine (CT.out _ HPd.out).mono ?_; rintro e w5 ⟨rfl, b5⟩) | (go_at_call 129; with_reducible refine (CP.out _).mono ?_; rintro e w6 ⟨rfl, b6⟩))
          have HB6 := Lib.hid ((HBd.out.trans (b5.mono HBd.out.size)).trans (b6.mono (Nat.le_trans HBd.out.size b5.size)))
          clear b5 b6
          go_wp2_with fail
          go_ret2
          exact POut.same HP.out HB6.out
        · have hE0 : E = 0 := HE3.out.trans (if_neg hfull)
          have HRV2 := Lib.hid (HRV.out.trans (if_pos hE0))
          have HRL2 := Lib.hid (HRL.out.trans (if_pos hE0))
          obtain rfl : t = RN := (HRN.out.trans (if_pos hE0)).symm
          have hd4 : decide (PV < T + cents) = false := decide_eq_false hfull
          have e1 : IntKind.i64.wrap (T + cents) = T + cents := by rw [IntKind.wrap_i64]; omega
          clear hE0 HRV HRL HRN HE3
          go_upto_region 8 with (fail)
          go_region_held3 (fun w' => w'.cell? ⟨q, 0, none⟩ = some (.string G.key) ∧ w'.cell? ⟨q, 1, none⟩ = some (.int .i64 G.cents) ∧ w'.cell? ⟨q, 2, none⟩ = some (.int .i64 G.first) ∧ w'.cell? ⟨q, 3, none⟩ = some (.int .i64 G.last) ∧ w'.cell? ⟨q, 4, none⟩ = some (.bool G.pace) ∧ w'.cell? ⟨g, 1, none⟩ = some (.slice ha n hc))
            (first | go_keep | (refine s6_below b6 ?_ ?_ ?_ <;> first | assumption | (exact Nat.lt_of_lt_of_le hq3 b5.size) | (exact Nat.lt_of_lt_of_le hg3 b5.size)) | (refine s6_below b5 ?_ ?_ ⟨?_, ?_, ?_, ?_, ?_, ?_⟩ <;> first | assumption | (go_simp; done)))
            (first | (go_at_call 132; with_reducible refine (CT.out _ HPd.out).mono ?_; rintro e w5 ⟨rfl, b5⟩) | (go_at_call 129; with_reducible refine (CP.out _).mono ?_; rintro e w6 ⟨rfl, b6⟩))
          have HP6 := Lib.hid ((HPd.out.below b5).below b6)
          have HB6 := Lib.hid ((HBd.out.trans (b5.mono HBd.out.size)).trans (b6.mono (Nat.le_trans HBd.out.size b5.size)))
          clear b5 b6 HPd HBd x0 x1 x2 x3 x4 c1 c2 e1
          obtain ⟨_, _, -, d1, d2, hgl6, -, f1, f2⟩ := HP6.out.cells
          obtain ⟨P7, K7⟩ := HP6.out.setNow t
          have HP7 := Lib.hid P7
          have HK7 := Lib.hid K7
          have hz6 := HB6.out.size
          clear P7 K7
          go_upto_region 11 with (fail)
          generalize w6.setCell ⟨g, 2, none⟩ (.int .i64 t) = w7 at *
          clear d1 d2 f1 f2 hgl6
          obtain ⟨_, _, -, d1, d2, hgl7, -, f1, f2⟩ := HP7.out.cells
          have own7 := HP7.out.own
          rw [HN.out] at own7
          have hle7 := HP7.out.le
          obtain rfl : RV = .tuple #[.int .i64 ((n : Int) + 1), .int .i64 0] := HRV2.out
          obtain rfl : RL = hl ++ [⟨(n : Int) + 1, key, cents, t, u, 1⟩] := HRL2.out
          clear HRV2 HRL2
          go_wp2_with (at_builtin; refine wpList_append_lies _ rfl _ _ 92 rfl b0 94 i0 _ 6 56 Tryd.underlying92 hi hz0 hz1 hz2 rfl (by decide) _ _ _ rfl (own7.alloc _) ⟨w7.heap.size, 0, none⟩ 1 1 [.int .i64 ((n : Int) + 1), .string key, .int .i64 cents, .int .i64 t, .int .i64 u, .int .i64 1] rfl rfl ?c1 ?c2 (by omega) ?c3 ?c4 ?c5 _ rfl ?_)
          case c1 => exact cells_new w7 #[.int .i64 ((n : Int) + 1), .string key, .int .i64 cents, .int .i64 t, .int .i64 u, .int .i64 1] 94
          case c2 => simp [Value.oneCell']
          case c3 => unfold maxLen; omega
          case c4 => omega
          case c5 => simp; omega
          intro k cap w8 own8 hgrow8 hat8 hlt8

          have HA := Lib.hid (HP7.out.app (x := ⟨(n : Int) + 1, key, cents, t, u, 1⟩) HN.out (World.grownBy_alloc w7 _ none) own8 hgrow8 (by rw [World.size_alloc]; exact hat8))
          have cA := HA.out.1
          have fA := HA.out.2.1
          clear own8 hgrow8 hat8 own7
          go_wp2_with fail
          go_ret2
          obtain ⟨-, -, hp, hcg, hkk⟩ := HA.out
          refine ⟨_, rfl, hp, ((Chg.of_below HB6.out _).trans HK7.out (fun i hi => .inl hi)).trans hcg (fun i hi => .inl hi), fun j hj => ?_⟩
          have : k = j := by simpa [Value.ownBlock] using hj
          subst this
          rcases hkk with e | e
          · exact .inl e
          · right
            have := HK7.out.size
            omega

set_option maxRecDepth 100000 in
set_option maxHeartbeats 8000000 in
theorem reserveRef_any {b0 : Nat} {gs : List Nat} {g : Nat} {bl : List Bd} {hv : Value} {hl : List Hd} {now : Int} (key : ByteArray) (cents t u : Int) (w : World) (hP : Pu b0 gs 168 g bl hv hl now w) (hb : bl.length ≤ 50) (hbl : ∀ x ∈ bl, bdB x = true) (hk : key.size ≤ 1000) (hn : hl.length ≤ 1000) (hok : ∀ x ∈ hl, x.ok)
    (ht0 : -1000000000 ≤ t) (ht1 : t ≤ 1000000000) (hu0 : -1000000000 ≤ u) (hu1 : u ≤ 1000000000) :
    Calls Tryd.prog 60 #[.pointer (some ⟨g, 0, none⟩), .string key, .int .i64 cents, .int .i64 t, .int .i64 u] w (POut b0 gs 168 g bl hv w (resV bl hl now key cents t u) (resL bl hl now key cents t u) (resN bl hl now key cents t u)) := by
  obtain ⟨i0, hi, hz0, hz1, hz2⟩ := info_parts infoHold
  obtain ⟨RV, hRV⟩ : ∃ x, resV bl hl now key cents t u = x := ⟨_, rfl⟩
  obtain ⟨RL, hRL⟩ : ∃ x, resL bl hl now key cents t u = x := ⟨_, rfl⟩
  obtain ⟨RN, hRN⟩ : ∃ x, resN bl hl now key cents t u = x := ⟨_, rfl⟩
  obtain ⟨E, hE⟩ : ∃ x, resE bl hl now key cents t u = x := ⟨_, rfl⟩
  rw [hRV, hRL, hRN]
  have HRV := Lib.hid hRV.symm
  have HRL := Lib.hid hRL.symm
  have HRN := Lib.hid hRN.symm
  have HE := Lib.hid hE.symm
  unfold resV at HRV
  unfold resL at HRL
  unfold resN at HRN
  unfold resE at HE
  rw [hE] at HRV HRL HRN
  clear hRV hRL hRN hE
  have HP := Lib.hid hP
  have HBL := Lib.hid (fun h => hbl _ (bdGet_mem (l := bl) (key := key) h))
  have HOK := Lib.hid hok
  have CB := Lib.hid (fun w (h : Pu b0 gs 168 g bl hv hl now w) => budgetOfRef_any key w h hb hk)
  have CT := Lib.hid (fun w (h : Pu b0 gs 168 g bl hv hl now w) => takenRef_any key t w h hn hok)
  have htb := tkV_bd hl key t hok
  have hgl0 := hP.glt g hP.mem
  have hle0 := hP.le
  clear hP hbl hok
  generalize bdAt bl key = D at *
  generalize tkV hl key t = T at *
  generalize bdGet bl key = G at *
  obtain ⟨htb0, htb1⟩ := htb
  have htb2 : T ≤ 2000000000000000 := by omega
  clear htb1
  go_enter Tryd.func60, Tryd.ntmps60
  go_wp2_with fail
  with_reducible refine (CB.out _ HP.out).mono ?_
  rintro e w1 ⟨rfl, b1⟩
  have HP1 := Lib.hid (HP.out.below b1)
  have HX := Lib.hid (XB.new w1 [.string G.key, .int .i64 G.cents, .int .i64 G.first, .int .i64 G.last, .bool G.pace] 81)
  have HB := Lib.hid ((b1.alloc b1.size (.cells #[.string G.key, .int .i64 G.cents, .int .i64 G.first, .int .i64 G.last, .bool G.pace] 81)))
  have HP2 := Lib.hid (HP1.out.below ((Below.refl _ _).alloc (Nat.le_refl _) (.cells #[.string G.key, .int .i64 G.cents, .int .i64 G.first, .int .i64 G.last, .bool G.pace] 81)))
  simp only [List.toArray] at HX
  have hb1 := b1.size
  clear b1 CB HP1
  by_cases hD : D < 0
  · have hE0 : E = 8 := HE.out.trans (if_pos hD)
    obtain rfl : RV = .tuple #[.int .i64 0, .int .i64 8] := by rw [HRV.out, if_neg (by omega), hE0]
    obtain rfl : RL = hl := HRL.out.trans (if_neg (by omega))
    obtain rfl : RN = now := HRN.out.trans (if_neg (by omega))
    have hd : decide (0 ≤ D) = false := decide_eq_false (by omega)
    rw [hd]
    clear hE0
    go_wp2_with fail
    go_ret2
    exact POut.same HP.out HB.out
  · have hd : decide (0 ≤ D) = true := decide_eq_true (by omega)
    rw [hd]
    have HE1 := Lib.hid (HE.out.trans (if_neg hD))
    have HBB := Lib.hid (HBL.out (by omega))
    clear HE HBL hd
    by_cases hbad : cents < 1 ∨ 1000000000000 < cents ∨ momB t = false ∨ u ≤ t ∨ 4321440 < u
    · have hE0 : E = 1 := HE1.out.trans (if_pos hbad)
      obtain rfl : RV = .tuple #[.int .i64 0, .int .i64 1] := by rw [HRV.out, if_neg (by omega), hE0]
      obtain rfl : RL = hl := HRL.out.trans (if_neg (by omega))
      obtain rfl : RN = now := HRN.out.trans (if_neg (by omega))
      clear hE0 HE1 HX HP2
      have HBD := Lib.hid hbad
      clear hbad
      by_cases q1 : cents < 1
      · go_wp2_with fail
        go_ret2
        exact POut.same HP.out HB.out
      · by_cases q2 : 1000000000000 < cents
        · go_wp2_with fail
          go_ret2
          exact POut.same HP.out HB.out
        · go_wp2_with fail
          with_reducible refine (moment_any _ _).mono ?_
          rintro e w2 ⟨rfl, rfl⟩
          obtain ⟨m, hm⟩ : ∃ m, momB t = m := ⟨_, rfl⟩
          rw [hm]
          have HM := Lib.hid hm
          clear hm
          cases m with
          | false =>
            go_wp2_with fail
            go_ret2
            exact POut.same HP.out HB.out
          | true =>
            by_cases q3 : u ≤ t
            · go_wp2_with fail
              go_ret2
              exact POut.same HP.out HB.out
            · have q4 : 4321440 < u := by
                rcases HBD.out with h | h | h | h | h
                · omega
                · omega
                · rw [HM.out] at h; cases h
                · omega
                · omega
              go_wp2_with fail
              go_ret2
              exact POut.same HP.out HB.out
    · have HE2 := Lib.hid (HE1.out.trans (if_neg hbad))
      have p1 : 1 ≤ cents := by omega
      have p2 : cents ≤ 1000000000000 := by omega
      have p3 : t + 1 ≤ u := by omega
      have p4 : u ≤ 4321440 := by omega
      have hmb : momB t = true := by
        cases h : momB t with
        | true => rfl
        | false => exact absurd (.inr (.inr (.inl h))) hbad
      have hmt : 0 ≤ t ∧ t ≤ 4321439 := by
        unfold momB at hmb
        exact of_decide_eq_true hmb
      obtain ⟨m0, m1⟩ := hmt
      have HMB := Lib.hid hmb
      clear HE1 hbad hmb
      have q1 : ¬ cents < 1 := by omega
      have q2 : ¬ 1000000000000 < cents := by omega
      have q3 : ¬ u ≤ t := by omega
      have q4 : ¬ 4321440 < u := by omega
      go_wp2_with fail
      with_reducible refine (moment_any _ _).mono ?_
      rintro e w2 ⟨rfl, rfl⟩
      rw [HMB.out]
      clear q1 q2 q3 q4
      have q1 : ¬ cents < 1 := by omega
      have q2 : ¬ 1000000000000 < cents := by omega
      have q3 : ¬ u ≤ t := by omega
      have q4 : ¬ 4321440 < u := by omega
      obtain ⟨ba, bc, -, c1, c2, hgl, -, -, -⟩ := HP2.out.cells
      by_cases hnow : t < now
      · have hE0 : E = 7 := HE2.out.trans (if_pos hnow)
        obtain rfl : RV = .tuple #[.int .i64 0, .int .i64 7] := by rw [HRV.out, if_neg (by omega), hE0]
        obtain rfl : RL = hl := HRL.out.trans (if_neg (by omega))
        obtain rfl : RN = now := HRN.out.trans (if_neg (by omega))
        clear hE0
        go_wp2_with fail
        go_ret2
        exact POut.same HP.out HB.out
      · have HE3 := Lib.hid (HE2.out.trans (if_neg hnow))
        have hpv := pacV_bd G t HBB.out m0 m1
        have CP := Lib.hid (fun w => PacedOf_any G t w HBB.out m0 m1)
        generalize pacV G t = PV at *
        obtain ⟨hp0, hp1⟩ := hpv
        obtain ⟨ha, hc, hvf, -, hlc, hcm⟩ := HP2.out.holds
        generalize hw1 : w1.alloc (.cells #[.string G.key, .int .i64 G.cents, .int .i64 G.first, .int .i64 G.last, .bool G.pace] 81) = w3 at *
        obtain ⟨x0, x1, x2, x3, x4⟩ := HX.out.at5
        have hqw3 := HX.out.1
        have HPd := Lib.hid (HP2.out.below (Below.refl w3.heap.size w3).drew)
        clear hw1 HE2 HX HMB
        generalize hq : w1.heap.size = q at *
        have HQ := Lib.hid hq
        clear hq
        obtain ⟨n, hnn⟩ : ∃ n, hl.length = n := ⟨_, rfl⟩
        rw [hnn] at hn HRV HRL hvf
        have HN := Lib.hid hnn
        clear hnn
        subst hvf
        have hd1 : decide (2000 ≤ n) = false := decide_eq_false (by omega)
        have hd2 : decide ((2000 : Int) ≤ (n : Int)) = false := decide_eq_false (by omega)
        have hd3 : ((n : Int) == 2000) = false := by simp; omega
        have hq3 : q < w3.drew.heap.size := hqw3
        have hg3 : g < w3.drew.heap.size := hgl
        have HBd := Lib.hid (HB.out.drew)
        by_cases hfull : PV < T + cents
        · have hE0 : E = 12 := HE3.out.trans (if_pos hfull)
          obtain rfl : RV = .tuple #[.int .i64 0, .int .i64 12] := by rw [HRV.out, if_neg (by omega), hE0]
          obtain rfl : RL = hl := HRL.out.trans (if_neg (by omega))
          obtain rfl : RN = now := HRN.out.trans (if_neg (by omega))
          have hd4 : decide (PV < T + cents) = true := decide_eq_true hfull
          have e1 : IntKind.i64.wrap (T + cents) = T + cents := by rw [IntKind.wrap_i64]; omega
          clear hE0
          go_upto_region 8 with (fail)
          go_region_held3 (fun w' => w'.cell? ⟨q, 0, none⟩ = some (.string G.key) ∧ w'.cell? ⟨q, 1, none⟩ = some (.int .i64 G.cents) ∧ w'.cell? ⟨q, 2, none⟩ = some (.int .i64 G.first) ∧ w'.cell? ⟨q, 3, none⟩ = some (.int .i64 G.last) ∧ w'.cell? ⟨q, 4, none⟩ = some (.bool G.pace) ∧ w'.cell? ⟨g, 1, none⟩ = some (.slice ha n hc))
            (first | go_keep | (refine s6_below b6 ?_ ?_ ?_ <;> first | assumption | (exact Nat.lt_of_lt_of_le hq3 b5.size) | (exact Nat.lt_of_lt_of_le hg3 b5.size)) | (refine s6_below b5 ?_ ?_ ⟨?_, ?_, ?_, ?_, ?_, ?_⟩ <;> first | assumption | (go_simp; done)))
            (first | (go_at_call 134; with_reducible refine (CT.out _ HPd.out).mono ?_; rintro e w5 ⟨rfl, b5⟩) | (go_at_call 55; with_reducible refine (CP.out _).mono ?_; rintro e w6 ⟨rfl, b6⟩))
          have HB6 := Lib.hid ((HBd.out.trans (b5.mono HBd.out.size)).trans (b6.mono (Nat.le_trans HBd.out.size b5.size)))
          clear b5 b6
          go_wp2_with fail
          go_ret2
          exact POut.same HP.out HB6.out
        · have hE0 : E = 0 := HE3.out.trans (if_neg hfull)
          have HRV2 := Lib.hid (HRV.out.trans (if_pos hE0))
          have HRL2 := Lib.hid (HRL.out.trans (if_pos hE0))
          obtain rfl : t = RN := (HRN.out.trans (if_pos hE0)).symm
          have hd4 : decide (PV < T + cents) = false := decide_eq_false hfull
          have e1 : IntKind.i64.wrap (T + cents) = T + cents := by rw [IntKind.wrap_i64]; omega
          clear hE0 HRV HRL HRN HE3
          go_upto_region 8 with (fail)
          go_region_held3 (fun w' => w'.cell? ⟨q, 0, none⟩ = some (.string G.key) ∧ w'.cell? ⟨q, 1, none⟩ = some (.int .i64 G.cents) ∧ w'.cell? ⟨q, 2, none⟩ = some (.int .i64 G.first) ∧ w'.cell? ⟨q, 3, none⟩ = some (.int .i64 G.last) ∧ w'.cell? ⟨q, 4, none⟩ = some (.bool G.pace) ∧ w'.cell? ⟨g, 1, none⟩ = some (.slice ha n hc))
            (first | go_keep | (refine s6_below b6 ?_ ?_ ?_ <;> first | assumption | (exact Nat.lt_of_lt_of_le hq3 b5.size) | (exact Nat.lt_of_lt_of_le hg3 b5.size)) | (refine s6_below b5 ?_ ?_ ⟨?_, ?_, ?_, ?_, ?_, ?_⟩ <;> first | assumption | (go_simp; done)))
            (first | (go_at_call 134; with_reducible refine (CT.out _ HPd.out).mono ?_; rintro e w5 ⟨rfl, b5⟩) | (go_at_call 55; with_reducible refine (CP.out _).mono ?_; rintro e w6 ⟨rfl, b6⟩))
          have HP6 := Lib.hid ((HPd.out.below b5).below b6)
          have HB6 := Lib.hid ((HBd.out.trans (b5.mono HBd.out.size)).trans (b6.mono (Nat.le_trans HBd.out.size b5.size)))
          clear b5 b6 HPd HBd x0 x1 x2 x3 x4 c1 c2 e1
          obtain ⟨_, _, -, d1, d2, hgl6, -, f1, f2⟩ := HP6.out.cells
          obtain ⟨P7, K7⟩ := HP6.out.setNow t
          have HP7 := Lib.hid P7
          have HK7 := Lib.hid K7
          have hz6 := HB6.out.size
          clear P7 K7
          go_upto_region 11 with (fail)
          generalize w6.setCell ⟨g, 2, none⟩ (.int .i64 t) = w7 at *
          clear d1 d2 f1 f2 hgl6
          obtain ⟨_, _, -, d1, d2, hgl7, -, f1, f2⟩ := HP7.out.cells
          have own7 := HP7.out.own
          rw [HN.out] at own7
          have hle7 := HP7.out.le
          obtain rfl : RV = .tuple #[.int .i64 ((n : Int) + 1), .int .i64 0] := HRV2.out
          obtain rfl : RL = hl ++ [⟨(n : Int) + 1, key, cents, t, u, 1⟩] := HRL2.out
          clear HRV2 HRL2
          have own7d : (w7.drew.alloc (.cells #[.int .i64 ((n : Int) + 1), .string key, .int .i64 cents, .int .i64 t, .int .i64 u, .int .i64 1] 94)).ownsRow b0 94 6 (.slice ha n hc) n (hl.flatMap Hd.cells) := own7.drew.alloc _
          have HOW7 := Lib.hid own7d
          have HCN := Lib.hid (cells_new w7.drew #[.int .i64 ((n : Int) + 1), .string key, .int .i64 cents, .int .i64 t, .int .i64 u, .int .i64 1] 94)
          have HONE : Hid (∀ v ∈ [Value.int .i64 ((n : Int) + 1), .string key, .int .i64 cents, .int .i64 t, .int .i64 u, .int .i64 1], v.oneCell' = true) := Lib.hid (by simp [Value.oneCell'])
          have h63 : n + 1 ≤ maxLen := by unfold maxLen; omega
          have hby : (n + 1) * 56 ≤ 140737488355328 := by omega
          have hbase : b0 ≤ (w7.drew.alloc (.cells #[.int .i64 ((n : Int) + 1), .string key, .int .i64 cents, .int .i64 t, .int .i64 u, .int .i64 1] 94)).heap.size := by simp; omega
          have HBS := Lib.hid hbase
          have h06 : 0 < 6 := by omega
          have h01 : 0 < 1 := by omega
          have en : IntKind.i64.wrap ((n : Int) + 1) = (n : Int) + 1 := by rw [IntKind.wrap_i64]; omega
          have HCG : Hid ((w7.drew.alloc (.cells #[.int .i64 ((n : Int) + 1), .string key, .int .i64 cents, .int .i64 t, .int .i64 u, .int .i64 1] 94)).cell? ⟨g, 1, none⟩ = some (.slice ha n hc)) := Lib.hid (((Below.refl w7.drew.heap.size w7.drew).alloc (Nat.le_refl _) _).cell (p := ⟨g, 1, none⟩) hgl7 |>.trans d1)
          have HNG : Hid (some g ≠ (Value.slice ha n hc).ownBlock) := Lib.hid (fun e => by have := (own7.lt g e.symm).1; omega)
          have HRR : Hid (w7.grownBy (w7.drew.alloc (.cells #[.int .i64 ((n : Int) + 1), .string key, .int .i64 cents, .int .i64 t, .int .i64 u, .int .i64 1] 94)) none) := Lib.hid (grown_alloc (grown_drew (grown_same w7 none)) _)
          clear own7 own7d hbase
          go_region_law ((refine step_append_lies _ (by rfl) _ _ 92 (by rfl) b0 94 i0 _ 6 56 Tryd.underlying92 hi hz0 hz1 hz2 (by rfl) h06 _ _ _ (by rfl) HOW7.out ⟨w7.drew.heap.size, 0, none⟩ 1 1 _ (by rfl) (by rfl) HCN.out HONE.out h01 h63 hby HBS.out _ (by rfl) ?_; intro k cap w8 own8 hgrow8 hat8 hlt8; have hAA := HP7.out.app (x := ⟨(n : Int) + 1, key, cents, t, u, 1⟩) HN.out HRR.out own8 hgrow8 hat8; have HA := Lib.hid hAA; have cA := hAA.1; have fA := hAA.2.1; clear hAA))
          all_goals
            obtain ⟨-, -, hp, hcg, hkk⟩ := HA.out
            have HP9 := Lib.hid hp
            have HC9 := Lib.hid hcg
            have HK9 := Lib.hid hkk
            obtain ⟨_, _, -, y1, -, hgl9, -, -, -⟩ := hp.cells
            have hgc : g < (w8.setCell ⟨g, 1, none⟩ (.slice (some ⟨k, 0, none⟩) (n + 1) cap)).heap.size := hgl9
            clear hp hcg hkk HA cA fA own8 hgrow8 hat8 hlt8 d1 d2 hgl9
            generalize w8.setCell ⟨g, 1, none⟩ (.slice (some ⟨k, 0, none⟩) (n + 1) cap) = w9 at *
            go_wp2_with fail
            go_ret2
            refine ⟨_, rfl, HP9.out, ((Chg.of_below HB6.out _).trans HK7.out (fun i hi => .inl hi)).trans HC9.out (fun i hi => .inl hi), fun j hj => ?_⟩
            have : k = j := by simpa [Value.ownBlock] using hj
            subst this
            rcases HK9.out with e | e
            · exact .inl e
            · right
              have := HK7.out.size
              omega
end Go.Proofs.YtdnikegakcdcnaaDoor
