/- Redeem of both books (printed by gen_bookrd.py). -/
import Derived.Test.YtdnikegakcdcnaaDoorBookOps
import Derived.Deep.RegionHeld3
import Derived.Deep.RegionLaw
import Derived.Deep.DeepCutAuto
set_option linter.unusedVariables false
namespace Go.Proofs.YtdnikegakcdcnaaDoor
open Go.RowKit

theorem wrapN (n : Nat) (h : n ≤ 1000) : IntKind.i64.wrap ((n : Int) + 1) = (n : Int) + 1 := by
  rw [IntKind.wrap_i64]; omega

set_option maxRecDepth 100000 in
set_option maxHeartbeats 8000000 in
theorem redeemX_any {b0 : Nat} {gs : List Nat} {g m nn : Nat} {l : List Cp} {hv : Value} {hl : List Rd} (code who : ByteArray) (t : Int) (w : World) (hP : Bk b0 gs 148 g (.map (some m)) (FX m nn l) hv hl w) (hcs : code.size ≤ 1000) (hws : who.size ≤ 1000) (hln : l.length ≤ 1000) (hn : hl.length ≤ 1000) (hbl : ∀ x ∈ l, cpB x = true) :
    Calls Tryd.prog 41 #[.pointer (some ⟨g, 0, none⟩), .string code, .string who, .int .i64 t] w (BOut b0 gs 148 g (.map (some m)) (FX m nn l) hv w (rdV l hl code who t) (rdL l hl code who t)) := by
  obtain ⟨i0, hi, hz0, hz1, hz2⟩ := info_parts infoRd
  have ca := checkX_any code who t w hP hcs hws
  obtain ⟨AE, c0, o0, m0, e0, f0, u0, hAE, hAC, hAG⟩ := ask_parts l code who t hbl
  unfold AskOut at ca
  rw [hAE, hAC] at ca
  simp only [Cp.agg] at ca
  have CA := Lib.hid ca
  have HAG := Lib.hid hAG
  obtain ⟨RV, hRV⟩ : ∃ x, rdV l hl code who t = x := ⟨_, rfl⟩
  obtain ⟨RL, hRL⟩ : ∃ x, rdL l hl code who t = x := ⟨_, rfl⟩
  obtain ⟨E, hE⟩ : ∃ x, rdE l hl code who t = x := ⟨_, rfl⟩
  rw [hRV, hRL]
  have HRV := Lib.hid hRV.symm
  have HRL := Lib.hid hRL.symm
  have HE := Lib.hid hE.symm
  unfold rdV at HRV
  unfold rdL at HRL
  unfold rdE at HE
  rw [hE] at HRV HRL
  rw [hAE] at HE
  clear hRV hRL hE
  have CU := Lib.hid (fun w' (h : Bk b0 gs 148 g (.map (some m)) (FX m nn l) hv hl w') => usedX_any code who w' h hn)
  unfold UsOut at CU
  have HUA := usA_bd hl code
  have HUO := usO_bd hl code who
  have HP := Lib.hid hP
  clear ca hP hAE hAC hAG hbl
  generalize usA hl code = z1 at *
  generalize usO hl code who = z2 at *
  obtain ⟨za, zb⟩ := HUA
  obtain ⟨zc, zd⟩ := HUO
  have zb' : z1 ≤ 1000 := by omega
  have zd' : z2 ≤ 1000 := by omega
  clear zb zd
  go_enter Tryd.func41, Tryd.ntmps41
  go_wp2_with fail
  with_reducible refine CA.out.mono ?_
  rintro e w1 ⟨rfl, b1⟩
  have HX := Lib.hid (XB.new w1 [.string c0, .string o0, .int .i64 m0, .int .i64 e0, .int .i64 f0, .int .i64 u0] 144)
  simp only [List.toArray] at HX
  have HB1 := Lib.hid (b1.alloc b1.size (.cells #[.string c0, .string o0, .int .i64 m0, .int .i64 e0, .int .i64 f0, .int .i64 u0] 144))
  have HP1 := Lib.hid ((HP.out.below b1).below ((Below.refl _ _).alloc (Nat.le_refl _) (.cells #[.string c0, .string o0, .int .i64 m0, .int .i64 e0, .int .i64 f0, .int .i64 u0] 144)))
  clear b1 CA
  by_cases hAE : AE = 0
  · subst hAE
    obtain ⟨hG, y1, y2, y3, y4⟩ := HAG.out rfl
    have HE1 := Lib.hid (HE.out.trans (if_neg (by decide)))
    rw [hG] at HE1
    simp only at HE1
    clear HAG HE hG
    go_upto_region 4 with (fail)
    generalize w1.alloc (.cells #[.string c0, .string o0, .int .i64 m0, .int .i64 e0, .int .i64 f0, .int .i64 u0] 144) = w2 at *
    generalize w1.heap.size = q at *
    go_wp2_with fail
    with_reducible refine (CU.out _ HP1.out).mono ?_
    rintro e w3 ⟨rfl, b3⟩
    have HB3 := Lib.hid (HB1.out.trans (b3.mono HB1.out.size))
    have HX3 := Lib.hid (HX.out.below b3)
    have HP3 := Lib.hid (HP1.out.below b3)
    clear b3 HX HB1 HP1 CU
    obtain ⟨x0, x1, x2, x3, x4, x5⟩ := HX3.out.at6
    have hq := HX3.out.1
    by_cases ht : t < f0 ∨ u0 ≤ t
    · have hE0 : E = 11 := HE1.out.trans (if_pos ht)
      obtain rfl : RV = .tuple #[.int .i64 0, .int .i64 11] := by rw [HRV.out, if_neg (by omega), hE0]
      obtain rfl : RL = hl := HRL.out.trans (if_neg (by omega))
      clear hE0
      by_cases ht1 : t < f0
      · go_wp2_with fail
        go_ret2
        exact BOut.same HP.out HB3.out
      · have ht2 : u0 ≤ t := by omega
        go_wp2_with fail
        go_ret2
        exact BOut.same HP.out HB3.out
    · have HE2 := Lib.hid (HE1.out.trans (if_neg ht))
      have ht1 : ¬ t < f0 := by omega
      have ht2 : ¬ u0 ≤ t := by omega
      clear ht HE1
      by_cases h1 : m0 ≤ z1
      · have hE0 : E = 12 := HE2.out.trans (if_pos h1)
        obtain rfl : RV = .tuple #[.int .i64 0, .int .i64 12] := by rw [HRV.out, if_neg (by omega), hE0]
        obtain rfl : RL = hl := HRL.out.trans (if_neg (by omega))
        clear hE0
        go_wp2_with fail
        go_ret2
        exact BOut.same HP.out HB3.out
      have HE3 := Lib.hid (HE2.out.trans (if_neg h1))
      clear HE2
      by_cases h2 : e0 ≤ z2
      · have hE0 : E = 6 := HE3.out.trans (if_pos h2)
        obtain rfl : RV = .tuple #[.int .i64 0, .int .i64 6] := by rw [HRV.out, if_neg (by omega), hE0]
        obtain rfl : RL = hl := HRL.out.trans (if_neg (by omega))
        clear hE0
        go_wp2_with fail
        go_ret2
        exact BOut.same HP.out HB3.out
      have hE0 : E = 0 := HE3.out.trans (if_neg h2)
      have HRV2 := Lib.hid (HRV.out.trans (if_pos hE0))
      have HRL2 := Lib.hid (HRL.out.trans (if_pos hE0))
      clear HE3 HRV HRL hE0
      obtain ⟨ha, hc, hvf, -, hlc, hcm⟩ := HP3.out.uses
      obtain ⟨n, hnn⟩ : ∃ n, hl.length = n := ⟨_, rfl⟩
      rw [hnn] at hn HRV2 HRL2 hvf
      have HN := Lib.hid hnn
      clear hnn hlc hcm
      subst hvf
      have own7 := HP3.out.own
      rw [HN.out] at own7
      obtain rfl : RV = .tuple #[.int .i64 ((n : Int) + 1), .int .i64 0] := HRV2.out
      obtain rfl : RL = hl ++ [⟨(n : Int) + 1, code, who, t, -1⟩] := HRL2.out
      obtain ⟨d0, d1, hgl7, f1⟩ := HP3.out.cells
      have hle3 := HP3.out.le
      have hgb := HP3.out.glt g HP3.out.mem
      have hd1 : decide (5000 ≤ n) = false := decide_eq_false (by omega)
      have hd2 : decide ((5000 : Int) ≤ (n : Int)) = false := decide_eq_false (by omega)
      have hd3 : ((n : Int) == 5000) = false := by simp; omega
      clear zb' zd' za zc
      go_upto_region 13 with (fail)
      clear x0 x1 x2 x3 x4 x5 hq HX3 d0
      clear HRV2 HRL2
      go_wp2_with (at_builtin; refine wpList_append_lies _ rfl _ _ 72 rfl b0 74 i0 _ 5 56 Tryd.underlying72 hi hz0 hz1 hz2 rfl (by decide) _ _ _ rfl (own7.alloc _) ⟨w3.heap.size, 0, none⟩ 1 1 [.int .i64 ((n : Int) + 1), .string code, .string who, .int .i64 t, .int .i64 (-1)] rfl rfl ?c1 ?c2 (by omega) ?c3 ?c4 ?c5 _ rfl ?_)
      case c1 => exact cells_new w3 #[.int .i64 ((n : Int) + 1), .string code, .string who, .int .i64 t, .int .i64 (-1)] 74
      case c2 => simp [Value.oneCell']
      case c3 => unfold maxLen; omega
      case c4 => omega
      case c5 => simp; omega
      intro k cap w8 own8 hgrow8 hat8 hlt8

      have HA := Lib.hid (HP3.out.app (x := ⟨(n : Int) + 1, code, who, t, -1⟩) HN.out (World.grownBy_alloc w3 _ none) own8 hgrow8 (by rw [World.size_alloc]; exact hat8))
      have cA := HA.out.1
      have fA := HA.out.2.1
      clear own8 hgrow8 hat8 own7
      go_wp2_with fail
      go_ret2
      obtain ⟨-, -, hp, hcg, hkk⟩ := HA.out
      refine ⟨_, rfl, hp, (Chg.of_below HB3.out _).trans hcg (fun i hi => .inl hi), fun j hj => ?_⟩
      have : k = j := by simpa [Value.ownBlock] using hj
      subst this
      rcases hkk with e | e
      · exact .inl e
      · right
        have := HB3.out.size
        omega
  · have hAE0 := HE.out.trans (if_pos hAE)
    obtain rfl : RV = .tuple #[.int .i64 0, .int .i64 AE] := by rw [HRV.out, if_neg (by rw [hAE0]; exact hAE), hAE0]
    obtain rfl : RL = hl := HRL.out.trans (if_neg (by rw [hAE0]; exact hAE))
    clear hAE0
    have hce1 : (AE == 0) = false := by simpa using hAE
    have hce2 : (AE != 0) = true := by simpa using hAE
    go_wp2_with fail
    go_ret2
    exact BOut.same HP.out HB1.out

set_option maxRecDepth 100000 in
set_option maxHeartbeats 8000000 in
theorem redeemR_any {b0 : Nat} {gs : List Nat} {g bc : Nat} {ba : Option Addr} {l : List Cp} {hv : Value} {hl : List Rd} (code who : ByteArray) (t : Int) (w : World) (hP : Bk b0 gs 155 g (.slice ba l.length bc) (FR ba l) hv hl w) (hcs : code.size ≤ 1000) (hws : who.size ≤ 1000) (hln : l.length ≤ 1000) (hn : hl.length ≤ 1000) (hbl : ∀ x ∈ l, cpB x = true) :
    Calls Tryd.prog 42 #[.pointer (some ⟨g, 0, none⟩), .string code, .string who, .int .i64 t] w (BOut b0 gs 155 g (.slice ba l.length bc) (FR ba l) hv w (rdV l hl code who t) (rdL l hl code who t)) := by
  obtain ⟨i0, hi, hz0, hz1, hz2⟩ := info_parts infoRd
  have ca := askedR_any code who t w hP hcs hws hln
  obtain ⟨AE, c0, o0, m0, e0, f0, u0, hAE, hAC, hAG⟩ := ask_parts l code who t hbl
  unfold AskOut at ca
  rw [hAE, hAC] at ca
  simp only [Cp.agg] at ca
  have CA := Lib.hid ca
  have HAG := Lib.hid hAG
  obtain ⟨RV, hRV⟩ : ∃ x, rdV l hl code who t = x := ⟨_, rfl⟩
  obtain ⟨RL, hRL⟩ : ∃ x, rdL l hl code who t = x := ⟨_, rfl⟩
  obtain ⟨E, hE⟩ : ∃ x, rdE l hl code who t = x := ⟨_, rfl⟩
  rw [hRV, hRL]
  have HRV := Lib.hid hRV.symm
  have HRL := Lib.hid hRL.symm
  have HE := Lib.hid hE.symm
  unfold rdV at HRV
  unfold rdL at HRL
  unfold rdE at HE
  rw [hE] at HRV HRL
  rw [hAE] at HE
  clear hRV hRL hE
  have CU := Lib.hid (fun w' (h : Bk b0 gs 155 g (.slice ba l.length bc) (FR ba l) hv hl w') => usedR_any code who w' h hn)
  unfold UsOut at CU
  have HUA := usA_bd hl code
  have HUO := usO_bd hl code who
  have HP := Lib.hid hP
  clear ca hP hAE hAC hAG hbl
  generalize usA hl code = z1 at *
  generalize usO hl code who = z2 at *
  obtain ⟨za, zb⟩ := HUA
  obtain ⟨zc, zd⟩ := HUO
  have zb' : z1 ≤ 1000 := by omega
  have zd' : z2 ≤ 1000 := by omega
  clear zb zd
  go_enter Tryd.func42, Tryd.ntmps42
  go_wp2_with fail
  with_reducible refine CA.out.mono ?_
  rintro e w1 ⟨rfl, b1⟩
  have HX := Lib.hid (XB.new w1 [.string c0, .string o0, .int .i64 m0, .int .i64 e0, .int .i64 f0, .int .i64 u0] 144)
  simp only [List.toArray] at HX
  have HB1 := Lib.hid (b1.alloc b1.size (.cells #[.string c0, .string o0, .int .i64 m0, .int .i64 e0, .int .i64 f0, .int .i64 u0] 144))
  have HP1 := Lib.hid ((HP.out.below b1).below ((Below.refl _ _).alloc (Nat.le_refl _) (.cells #[.string c0, .string o0, .int .i64 m0, .int .i64 e0, .int .i64 f0, .int .i64 u0] 144)))
  clear b1 CA
  by_cases hAE : AE = 0
  · subst hAE
    obtain ⟨hG, y1, y2, y3, y4⟩ := HAG.out rfl
    have HE1 := Lib.hid (HE.out.trans (if_neg (by decide)))
    rw [hG] at HE1
    simp only at HE1
    clear HAG HE hG
    go_upto_region 4 with (fail)
    generalize w1.alloc (.cells #[.string c0, .string o0, .int .i64 m0, .int .i64 e0, .int .i64 f0, .int .i64 u0] 144) = w2 at *
    generalize w1.heap.size = q at *
    go_wp2_with fail
    with_reducible refine (CU.out _ HP1.out).mono ?_
    rintro e w3 ⟨rfl, b3⟩
    have HB3 := Lib.hid (HB1.out.trans (b3.mono HB1.out.size))
    have HX3 := Lib.hid (HX.out.below b3)
    have HP3 := Lib.hid (HP1.out.below b3)
    clear b3 HX HB1 HP1 CU
    obtain ⟨x0, x1, x2, x3, x4, x5⟩ := HX3.out.at6
    have hq := HX3.out.1
    by_cases ht : t < f0 ∨ u0 ≤ t
    · have hE0 : E = 11 := HE1.out.trans (if_pos ht)
      obtain rfl : RV = .tuple #[.int .i64 0, .int .i64 11] := by rw [HRV.out, if_neg (by omega), hE0]
      obtain rfl : RL = hl := HRL.out.trans (if_neg (by omega))
      clear hE0
      by_cases ht1 : t < f0
      · go_wp2_with fail
        go_ret2
        exact BOut.same HP.out HB3.out
      · have ht2 : u0 ≤ t := by omega
        go_wp2_with fail
        go_ret2
        exact BOut.same HP.out HB3.out
    · have HE2 := Lib.hid (HE1.out.trans (if_neg ht))
      have ht1 : ¬ t < f0 := by omega
      have ht2 : ¬ u0 ≤ t := by omega
      clear ht HE1
      by_cases h1 : m0 ≤ z1
      · have hE0 : E = 12 := HE2.out.trans (if_pos h1)
        obtain rfl : RV = .tuple #[.int .i64 0, .int .i64 12] := by rw [HRV.out, if_neg (by omega), hE0]
        obtain rfl : RL = hl := HRL.out.trans (if_neg (by omega))
        clear hE0
        go_wp2_with fail
        go_ret2
        exact BOut.same HP.out HB3.out
      have HE3 := Lib.hid (HE2.out.trans (if_neg h1))
      clear HE2
      by_cases h2 : e0 ≤ z2
      · have hE0 : E = 6 := HE3.out.trans (if_pos h2)
        obtain rfl : RV = .tuple #[.int .i64 0, .int .i64 6] := by rw [HRV.out, if_neg (by omega), hE0]
        obtain rfl : RL = hl := HRL.out.trans (if_neg (by omega))
        clear hE0
        go_wp2_with fail
        go_ret2
        exact BOut.same HP.out HB3.out
      have hE0 : E = 0 := HE3.out.trans (if_neg h2)
      have HRV2 := Lib.hid (HRV.out.trans (if_pos hE0))
      have HRL2 := Lib.hid (HRL.out.trans (if_pos hE0))
      clear HE3 HRV HRL hE0
      obtain ⟨ha, hc, hvf, -, hlc, hcm⟩ := HP3.out.uses
      obtain ⟨n, hnn⟩ : ∃ n, hl.length = n := ⟨_, rfl⟩
      rw [hnn] at hn HRV2 HRL2 hvf
      have HN := Lib.hid hnn
      clear hnn hlc hcm
      subst hvf
      have own7 := HP3.out.own
      rw [HN.out] at own7
      obtain rfl : RV = .tuple #[.int .i64 ((n : Int) + 1), .int .i64 0] := HRV2.out
      obtain rfl : RL = hl ++ [⟨(n : Int) + 1, code, who, t, -1⟩] := HRL2.out
      obtain ⟨d0, d1, hgl7, f1⟩ := HP3.out.cells
      have hle3 := HP3.out.le
      have hgb := HP3.out.glt g HP3.out.mem
      have hd1 : decide (5000 ≤ n) = false := decide_eq_false (by omega)
      have hd2 : decide ((5000 : Int) ≤ (n : Int)) = false := decide_eq_false (by omega)
      have hd3 : ((n : Int) == 5000) = false := by simp; omega
      clear zb' zd' za zc
      go_upto_region 13 with (fail)
      clear x0 x1 x2 x3 x4 x5 hq HX3 d0
      clear HRV2 HRL2
      have own7d : (w3.drew.alloc (.cells #[.int .i64 ((n : Int) + 1), .string code, .string who, .int .i64 t, .int .i64 (-1)] 74)).ownsRow b0 74 5 (.slice ha n hc) n (hl.flatMap Rd.cells) := own7.drew.alloc _
      have HOW7 := Lib.hid own7d
      have HCN := Lib.hid (cells_new w3.drew #[.int .i64 ((n : Int) + 1), .string code, .string who, .int .i64 t, .int .i64 (-1)] 74)
      have HONE : Hid (∀ v ∈ [Value.int .i64 ((n : Int) + 1), .string code, .string who, .int .i64 t, .int .i64 (-1)], v.oneCell' = true) := Lib.hid (by simp [Value.oneCell'])
      have h63 : n + 1 ≤ maxLen := by unfold maxLen; omega
      have hby : (n + 1) * 56 ≤ 140737488355328 := by omega
      have hbase : b0 ≤ (w3.drew.alloc (.cells #[.int .i64 ((n : Int) + 1), .string code, .string who, .int .i64 t, .int .i64 (-1)] 74)).heap.size := by simp; omega
      have HBS := Lib.hid hbase
      have h06 : 0 < 5 := by omega
      have h01 : 0 < 1 := by omega
      have en := wrapN n hn
      have HCG : Hid ((w3.drew.alloc (.cells #[.int .i64 ((n : Int) + 1), .string code, .string who, .int .i64 t, .int .i64 (-1)] 74)).cell? ⟨g, 1, none⟩ = some (.slice ha n hc)) := Lib.hid (((Below.refl w3.drew.heap.size w3.drew).alloc (Nat.le_refl _) _).cell (p := ⟨g, 1, none⟩) hgl7 |>.trans d1)
      have HNG : Hid (some g ≠ (Value.slice ha n hc).ownBlock) := Lib.hid (fun e => by have := (own7.lt g e.symm).1; omega)
      have HRR : Hid (w3.grownBy (w3.drew.alloc (.cells #[.int .i64 ((n : Int) + 1), .string code, .string who, .int .i64 t, .int .i64 (-1)] 74)) none) := Lib.hid (grown_alloc (grown_drew (grown_same w3 none)) _)
      clear own7 own7d hbase
      go_region_law ((refine step_append_lies _ (by rfl) _ _ 72 (by rfl) b0 74 i0 _ 5 56 Tryd.underlying72 hi hz0 hz1 hz2 (by rfl) h06 _ _ _ (by rfl) HOW7.out ⟨w3.drew.heap.size, 0, none⟩ 1 1 _ (by rfl) (by rfl) HCN.out HONE.out h01 h63 hby HBS.out _ (by rfl) ?_; intro k cap w8 own8 hgrow8 hat8 hlt8; have hAA := HP3.out.app (x := ⟨(n : Int) + 1, code, who, t, -1⟩) HN.out HRR.out own8 hgrow8 hat8; have HA := Lib.hid hAA; have cA := hAA.1; have fA := hAA.2.1; clear hAA))
      all_goals
        obtain ⟨-, -, hp, hcg, hkk⟩ := HA.out
        have HP9 := Lib.hid hp
        have HC9 := Lib.hid hcg
        have HK9 := Lib.hid hkk
        obtain ⟨-, y1, hgl9, -⟩ := hp.cells
        have hgc : g < (w8.setCell ⟨g, 1, none⟩ (.slice (some ⟨k, 0, none⟩) (n + 1) cap)).heap.size := hgl9
        clear hp hcg hkk HA cA fA own8 hgrow8 hat8 hlt8 d1 hgl9
        generalize w8.setCell ⟨g, 1, none⟩ (.slice (some ⟨k, 0, none⟩) (n + 1) cap) = w9 at *
        go_wp2_with fail
        go_ret2
        refine ⟨_, rfl, HP9.out, (Chg.of_below HB3.out _).trans HC9.out (fun i hi => .inl hi), fun j hj => ?_⟩
        have : k = j := by simpa [Value.ownBlock] using hj
        subst this
        rcases HK9.out with e | e
        · exact .inl e
        · right
          have := HB3.out.size
          omega
  · have hAE0 := HE.out.trans (if_pos hAE)
    obtain rfl : RV = .tuple #[.int .i64 0, .int .i64 AE] := by rw [HRV.out, if_neg (by rw [hAE0]; exact hAE), hAE0]
    obtain rfl : RL = hl := HRL.out.trans (if_neg (by rw [hAE0]; exact hAE))
    clear hAE0
    have hce1 : (AE == 0) = false := by simpa using hAE
    have hce2 : (AE != 0) = true := by simpa using hAE
    go_wp2_with fail
    go_ret2
    exact BOut.same HP.out HB1.out
end Go.Proofs.YtdnikegakcdcnaaDoor
