/- The walk of the statement TestsExact. -/
import Derived.Test.YtdnikegakcdcnaaRow
import Derived.Test.YtdnikegakcdcnaaMeasures
import Derived.Test.YtdnikegakcdcnaaFour
import Derived.Test.YtdnikegakcdcnaaPickAt
import Derived.Test.YtdnikegakcdcnaaVerdictOf
import Derived.Test.YtdnikegakcdcnaaExtraOf
import Derived.Test.YtdnikegakcdcnaaFrEq
import Derived.Deep.DeepCutAuto
set_option linter.unusedVariables false
namespace Go.Proofs.Ytdnikegakcdcnaa
open Go.RowKit

section
variable {W w' : World} {fb : Nat} {a b c d : Int}
theorem s4_below (hb : Below W.heap.size W w') (hf : fb < W.heap.size)
    (h : W.cell? ⟨fb, 0, none⟩ = some (.int .i64 a) ∧ W.cell? ⟨fb, 1, none⟩ = some (.int .i64 b) ∧ W.cell? ⟨fb, 2, none⟩ = some (.int .i64 c) ∧ W.cell? ⟨fb, 3, none⟩ = some (.int .i64 d)) :
    w'.cell? ⟨fb, 0, none⟩ = some (.int .i64 a) ∧ w'.cell? ⟨fb, 1, none⟩ = some (.int .i64 b) ∧ w'.cell? ⟨fb, 2, none⟩ = some (.int .i64 c) ∧ w'.cell? ⟨fb, 3, none⟩ = some (.int .i64 d) :=
  ⟨(hb.cell hf).trans h.1, (hb.cell hf).trans h.2.1, (hb.cell hf).trans h.2.2.1, (hb.cell hf).trans h.2.2.2⟩
theorem s4_alloc (o : Obj) (hf : fb < W.heap.size)
    (h : W.cell? ⟨fb, 0, none⟩ = some (.int .i64 a) ∧ W.cell? ⟨fb, 1, none⟩ = some (.int .i64 b) ∧ W.cell? ⟨fb, 2, none⟩ = some (.int .i64 c) ∧ W.cell? ⟨fb, 3, none⟩ = some (.int .i64 d)) :
    (W.alloc o).cell? ⟨fb, 0, none⟩ = some (.int .i64 a) ∧ (W.alloc o).cell? ⟨fb, 1, none⟩ = some (.int .i64 b) ∧ (W.alloc o).cell? ⟨fb, 2, none⟩ = some (.int .i64 c) ∧ (W.alloc o).cell? ⟨fb, 3, none⟩ = some (.int .i64 d) :=
  s4_below ((Below.refl _ _).alloc (Nat.le_refl _) o) hf h
theorem s4_set {p : Addr} (hne : ¬ fb = p.block) (u : Value)
    (h : W.cell? ⟨fb, 0, none⟩ = some (.int .i64 a) ∧ W.cell? ⟨fb, 1, none⟩ = some (.int .i64 b) ∧ W.cell? ⟨fb, 2, none⟩ = some (.int .i64 c) ∧ W.cell? ⟨fb, 3, none⟩ = some (.int .i64 d)) :
    (W.setCell p u).cell? ⟨fb, 0, none⟩ = some (.int .i64 a) ∧ (W.setCell p u).cell? ⟨fb, 1, none⟩ = some (.int .i64 b) ∧ (W.setCell p u).cell? ⟨fb, 2, none⟩ = some (.int .i64 c) ∧ (W.setCell p u).cell? ⟨fb, 3, none⟩ = some (.int .i64 d) := by
  have e : ∀ j, (W.setCell p u).cell? ⟨fb, j, none⟩ = W.cell? ⟨fb, j, none⟩ := fun j => World.cell?_setCell_other W _ _ _ (by intro h'; subst h'; exact hne rfl)
  simp only [e]
  exact h
end

set_option maxRecDepth 100000 in
set_option maxHeartbeats 4000000 in
theorem testsExact_walk (a0 : Option Addr) (len0 cap0 : Nat) (z0 : List Int) (w : World) (w0 : IsRow .i64 w a0 len0 cap0 z0) :
    Calls Try.prog 4 #[.slice a0 len0 cap0] w fun e w' => e = .returned (.bool true) ∧ Below w.heap.size w w' := by
  obtain ⟨S, hBS, hp, s0, g0⟩ := strm_begin w0
  clear w0
  go_enter Try.func4, Try.ntmps4
  go_wp2_with fail
  clear hp
  with_reducible refine (pick_at S _ [0, 1, 5, 30, 59, 60, 61, -1] 8 _ _ _ _ s0 (by omega) rfl (by omega) (by omega) (by simp) (by simp)).mono ?_
  rintro e w1 ⟨n, hn, rfl, k1, s1⟩
  have hn' : -1 ≤ n ∧ n ≤ 61 := by
    simp only [List.mem_cons, List.mem_nil_iff, or_false] at hn
    omega
  have g1 := grown_trans g0 k1
  clear hn s0 g0 k1
  go_wp2_with fail
  have t2 : -1 ≤ n.tdiv 2 ∧ n.tdiv 2 ≤ 61 := by
    have := Frac.tdiv_abs_le n 2
    by_cases h : n = -1
    · subst h; decide
    · have := Int.tdiv_nonneg (show 0 ≤ n by omega) (show (0 : Int) ≤ 2 by omega); omega
  generalize n.tdiv 2 = nh at *
  with_reducible refine (pick_at S _ [0, 1, nh, n, n + 1, -1] 6 _ _ _ _ s1 (by omega) rfl (by omega) (by omega) (by simp) (by simp)).mono ?_
  rintro e w2 ⟨k, hk, rfl, k1, s2⟩
  have hk' : -1 ≤ k ∧ k ≤ 62 := by
    simp only [List.mem_cons, List.mem_nil_iff, or_false] at hk
    omega
  have g2 := grown_trans g1 k1
  clear hk s1 g1 k1 t2
  go_wp2_with fail
  with_reducible refine (Choose_any _ _ _).mono ?_
  rintro e w3 ⟨rfl, q3, rfl⟩
  go_wp2_with fail
  with_reducible refine (Signs_any _ _ _).mono ?_
  rintro e w4 ⟨rfl, b4⟩
  have s4 := strm_below (strm_drewN s2 q3) b4
  have g4 := grown_trans (grownBy_drewN g2 q3) (grown_of_below b4 _)
  clear b4 s2 g2
  have HC := Lib.hid (show chV n k = if n < 0 ∨ 60 < n ∨ k < 0 ∨ n < k then (0, 1) else (chI n k, 0) from rfl)
  have HS := Lib.hid (show sgV n k = if n < 0 ∨ 60 < n ∨ k < 0 ∨ n < k then (0, 0, 1)
    else (Frac.redN (sgSum n.toNat k.toNat (n.toNat + 1) : Nat) (2 ^ n.toNat : Nat), Frac.redD (sgSum n.toNat k.toNat (n.toNat + 1) : Nat) (2 ^ n.toNat : Nat), 0) from rfl)
  go_upto_region 6 with (fail)
  go_cut [67] (fun t wx => t = .bool (decide (n < 0 ∨ 60 < n ∨ k < 0 ∨ n < k)) ∧ w4.alloc (.cells #[.int .i64 (sgV n k).1, .int .i64 (sgV n k).2.1] 28) = wx)
  case first =>
    as_aux_lemma =>
      go_wp2_with fail
      all_goals
        go_meet
        exact ⟨congrArg Value.bool (by rw [Bool.eq_iff_iff]; simp; omega), rfl⟩
  case rest =>
    obtain ⟨rfl, rfl⟩ := hcut
    go_upto_if 67 with (fail)
    go_cut [2, 6, 7, 9] (fun r _ _ _ wx => r = .bool false ∧ Strm wx S 2 ∧ w.grownBy wx (some S.g))
    case first =>
      as_aux_lemma =>
        by_cases hbad : n < 0 ∨ 60 < n ∨ k < 0 ∨ n < k
        · have hd : decide (n < 0 ∨ 60 < n ∨ k < 0 ∨ n < k) = true := by simpa using hbad
          have HC' := Lib.hid (HC.out.trans (if_pos hbad))
          have HS' := Lib.hid (HS.out.trans (if_pos hbad))
          rw [HC'.out, HS'.out, hd]
          clear HC HS hbad hd HC' HS'
          go_wp2_with fail
          go_meet
          exact ⟨rfl, strm_alloc s4 _, grown_alloc g4 _⟩
        · have hd : decide (n < 0 ∨ 60 < n ∨ k < 0 ∨ n < k) = false := by simpa using hbad
          have HC' := Lib.hid (HC.out.trans (if_neg hbad))
          have HS' := Lib.hid (HS.out.trans (if_neg hbad))
          rw [HC'.out, HS'.out, hd]
          obtain ⟨x, rfl⟩ := Int.eq_ofNat_of_zero_le (show 0 ≤ n by omega)
          obtain ⟨y, rfl⟩ := Int.eq_ofNat_of_zero_le (show 0 ≤ k by omega)
          rw [chI_nat _ _ (by omega)]
          simp only [Int.toNat_natCast]
          have HX1 := Lib.hid (fun w => ChooseOf_any x y w (by omega) (by omega))
          have HX2 := Lib.hid (fun w => SignsOf_any x y w (by omega) (by omega))
          clear HC HS hd HC' HS'
          generalize (Choose.ch x y : Nat) = ch at *
          generalize Frac.redN (sgSum x y (x + 1) : Nat) (2 ^ x : Nat) = rn at *
          generalize Frac.redD (sgSum x y (x + 1) : Nat) (2 ^ x : Nat) = rd at *
          have hq := fun (w : World) => fr_neq rn rd rn rd w
          have hg := fr_guard .neq
          have hz4 := g4.size
          go_wp2_with fail
          go_region_held3 (fun w' => w'.cell? ⟨w4.heap.size, 0, none⟩ = some (.int .i64 rn) ∧ w'.cell? ⟨w4.heap.size, 1, none⟩ = some (.int .i64 rd))
            (first | go_keep | (have hz := b5.size; simp at hz; refine ⟨(b6.cell (by show w4.heap.size < _; omega)).trans ?_, (b6.cell (by show w4.heap.size < _; omega)).trans ?_⟩ <;> (first | assumption | (go_split_ands; assumption))) | (refine ⟨(b5.cell (by simp)).trans ?_, (b5.cell (by simp)).trans ?_⟩ <;> (go_simp)))
            (first | (go_at_call 19; with_reducible refine (HX1.out _).mono ?_; rintro e w5 ⟨rfl, b5⟩) | (go_at_call 20; with_reducible refine (HX2.out _).mono ?_; rintro e w6 ⟨rfl, b6⟩))
          clear hq hg HX1 HX2
          go_wp2_with fail
          go_meet
          exact ⟨rfl, strm_below (strm_below (strm_drew (strm_alloc s4 _)) b5) b6, grown_trans (grown_trans (grown_drew (grown_alloc g4 _)) (grown_of_below b5 _)) (grown_of_below b6 _)⟩
    case rest =>
      obtain ⟨rfl, s5, g5⟩ := hcut
      clear HC HS s4 g4
      go_wp2_with fail
      with_reducible refine (four_any S _ _ s5 (by omega)).mono ?_
      rintro e w6 ⟨fb, fc, f, rfl, hfb, hfi, R6, k6, s6⟩
      have g6 := grown_trans g5 k6
      have hfw : w.heap.size ≤ fb := Nat.le_trans g5.size hfb
      have hfS : fb ≠ S.g := by have := strm_lt s5; omega
      obtain ⟨a1, a2⟩ := hfi 0 (by omega)
      obtain ⟨b1, b2⟩ := hfi 1 (by omega)
      obtain ⟨c1, c2⟩ := hfi 2 (by omega)
      obtain ⟨d1, d2⟩ := hfi 3 (by omega)
      have hR6 : w6.cell? ⟨fb, 0, none⟩ = some (.int .i64 (f 0)) ∧ w6.cell? ⟨fb, 1, none⟩ = some (.int .i64 (f 1)) ∧ w6.cell? ⟨fb, 2, none⟩ = some (.int .i64 (f 2)) ∧ w6.cell? ⟨fb, 3, none⟩ = some (.int .i64 (f 3)) ∧ fb < w6.heap.size :=
        ⟨R6.cell 0 (by omega), R6.cell 1 (by omega), R6.cell 2 (by omega), R6.cell 3 (by omega), R6.lt⟩
      clear hfi R6 s5 g5 k6 hfb
      generalize f 0 = a at *
      generalize f 1 = b at *
      generalize f 2 = c at *
      generalize f 3 = d at *
      have HR6 := Lib.hid hR6
      clear hR6
      go_wp2_with fail
      with_reducible refine (pick_at S _ [1, 50, 100, 500, 0, 501] 6 _ _ _ _ s6 (by omega) rfl (by omega) (by omega) (by simp) (by simp)).mono ?_
      rintro e w7 ⟨level, hlev, rfl, k7, s7⟩
      have g7 := grown_trans g6 k7
      obtain ⟨ca, cb, cc, cd, hlt6⟩ := HR6.out
      have hS : some fb ≠ some S.g := by simpa using hfS
      have ca7 := k7.cell ca hS
      have cb7 := k7.cell cb hS
      have cc7 := k7.cell cc hS
      have cd7 := k7.cell cd hS
      have hlt7 : fb < w7.heap.size := Nat.lt_of_lt_of_le hlt6 k7.size
      have hl' : 0 ≤ level ∧ level ≤ 501 := by
        simp only [List.mem_cons, List.mem_nil_iff, or_false] at hlev
        omega
      clear ca cb cc cd hlt6 HR6 s6 g6 k7 hlev hS
      have HX := Lib.hid (fun w => Exact_any a b c d w)
      unfold Ex at HX
      have HX2 := Lib.hid (show (exV a b c d).2.2 = exF [a, b, c, d] by
        unfold exV; split
        · rfl
        · rename_i h; exact (Decidable.not_not.1 h).symm)
      have HEV := Lib.hid (show exV a b c d = ((exV a b c d).1, (exV a b c d).2.1, (exV a b c d).2.2) from rfl)
      generalize (exV a b c d).1 = en at *
      generalize (exV a b c d).2.1 = ed at *
      generalize (exV a b c d).2.2 = ee at *
      go_upto_region 12 with (fail)
      go_cut [12, 13] (fun p e wx => ∃ gp : Nat, p = .pointer (some ⟨gp, 0, none⟩) ∧ e = .int .i64 ee ∧ gp < wx.heap.size ∧ wx.cell? ⟨gp, 0, none⟩ = some (.int .i64 en) ∧ wx.cell? ⟨gp, 1, none⟩ = some (.int .i64 ed) ∧
        fb < wx.heap.size ∧ wx.cell? ⟨fb, 0, none⟩ = some (.int .i64 a) ∧ wx.cell? ⟨fb, 1, none⟩ = some (.int .i64 b) ∧ wx.cell? ⟨fb, 2, none⟩ = some (.int .i64 c) ∧ wx.cell? ⟨fb, 3, none⟩ = some (.int .i64 d) ∧ Strm wx S 11 ∧ w.grownBy wx (some S.g))
      case first =>
        as_aux_lemma =>
          have hfne : ¬ fb = w7.heap.size := by omega
          go_region_held3 (fun w' => w'.cell? ⟨fb, 0, none⟩ = some (.int .i64 a) ∧ w'.cell? ⟨fb, 1, none⟩ = some (.int .i64 b) ∧ w'.cell? ⟨fb, 2, none⟩ = some (.int .i64 c) ∧ w'.cell? ⟨fb, 3, none⟩ = some (.int .i64 d))
            (first | go_keep | (refine s4_below b8 ?_ ?_ <;> first | assumption | (simp; omega)) | (refine s4_alloc _ ?_ (s4_below b8 ?_ ⟨?_, ?_, ?_, ?_⟩) <;> first | assumption | (simp; omega) | (go_simp; done)) | (refine s4_set hfne _ (s4_set hfne _ ?_); assumption))
            (first | (go_at_call 22; with_reducible refine (HX.out _).mono ?_; rintro e w8 ⟨rfl, b8⟩; have hz8 : fb < w8.heap.size := (by have := b8.size; simp at this; omega); have d0 := b8.cell (p := ⟨w7.heap.size, 0, none⟩); have d1 := b8.cell (p := ⟨w7.heap.size, 1, none⟩); have f0 := b8.frozen (p := ⟨w7.heap.size, 0, none⟩); have f1 := b8.frozen (p := ⟨w7.heap.size, 1, none⟩)))
          · have hz := b8.size
            have hh : (w8.alloc (.cells #[.int .i64 en, .int .i64 ed] 28)).cell? ⟨fb, 0, none⟩ = some (.int .i64 a) ∧ (w8.alloc (.cells #[.int .i64 en, .int .i64 ed] 28)).cell? ⟨fb, 1, none⟩ = some (.int .i64 b) ∧ (w8.alloc (.cells #[.int .i64 en, .int .i64 ed] 28)).cell? ⟨fb, 2, none⟩ = some (.int .i64 c) ∧ (w8.alloc (.cells #[.int .i64 en, .int .i64 ed] 28)).cell? ⟨fb, 3, none⟩ = some (.int .i64 d) := by assumption
            have HH := Lib.hid hh
            clear hh d0 d1 f0 f1
            go_wp2_with fail
            go_meet
            obtain ⟨h1, h2, h3, h4⟩ := HH.out
            exact ⟨w8.heap.size, rfl, rfl, by simp, by go_simp, by go_simp, by simp; omega, h1, h2, h3, h4, strm_alloc (strm_below (strm_drew s7) b8) _, grown_alloc (grown_trans (grown_drew g7) (grown_of_below b8 _)) _⟩
          · have hz := b8.size
            have e0 : w8.cell? ⟨w7.heap.size, 0, none⟩ = some (.int .i64 0) := (d0 (by simp)).trans (by go_simp)
            have e1 : w8.cell? ⟨w7.heap.size, 1, none⟩ = some (.int .i64 0) := (d1 (by simp)).trans (by go_simp)
            have hh : ((w8.setCell ⟨w7.heap.size, 0, none⟩ (.int .i64 en)).setCell ⟨w7.heap.size, 1, none⟩ (.int .i64 ed)).cell? ⟨fb, 0, none⟩ = some (.int .i64 a) ∧ ((w8.setCell ⟨w7.heap.size, 0, none⟩ (.int .i64 en)).setCell ⟨w7.heap.size, 1, none⟩ (.int .i64 ed)).cell? ⟨fb, 1, none⟩ = some (.int .i64 b) ∧ ((w8.setCell ⟨w7.heap.size, 0, none⟩ (.int .i64 en)).setCell ⟨w7.heap.size, 1, none⟩ (.int .i64 ed)).cell? ⟨fb, 2, none⟩ = some (.int .i64 c) ∧ ((w8.setCell ⟨w7.heap.size, 0, none⟩ (.int .i64 en)).setCell ⟨w7.heap.size, 1, none⟩ (.int .i64 ed)).cell? ⟨fb, 3, none⟩ = some (.int .i64 d) := by assumption
            have HH := Lib.hid hh
            clear hh d0 d1 f0 f1
            have hsg := strm_lt s7
            have hz' : w7.heap.size + 1 ≤ w8.heap.size := by simpa using hz
            have hzw := g7.size
            go_wp2_with fail
            go_meet
            obtain ⟨h1, h2, h3, h4⟩ := HH.out
            refine ⟨w7.heap.size, rfl, rfl, by simp [World.setCell]; omega, by go_simp, by go_simp, by simp [World.setCell]; omega, h1, h2, h3, h4, ?_, ?_⟩
            · exact strm_set (strm_set (strm_below (strm_drew (strm_alloc s7 _)) b8) (by show S.g < w7.heap.size; omega) _) (by show S.g < w7.heap.size; omega) _
            · exact grown_set (grown_set (grown_trans (grown_drew (grown_alloc g7 _)) (grown_of_below b8 _)) (.inr (by show w.heap.size ≤ w7.heap.size; omega)) _) (.inr (by show w.heap.size ≤ w7.heap.size; omega)) _
      case rest =>
        obtain ⟨gp, rfl, rfl, hgp, p0, p1, hfb8, ca8, cb8, cc8, cd8, s8, g8⟩ := hcut
        clear ca7 cb7 cc7 cd7 hlt7 s7 g7 HX
        go_wp2_with fail
        with_reducible refine (ExactFault_any _ [a, b, c, d] 4 _ _ rfl (by omega) ?hi).mono ?_
        case hi =>
          intro j hj
          simp only [List.length_cons, List.length_nil] at hj
          refine ⟨fb, 0, rfl, hfb8, ?_⟩
          rcases (show j = 0 ∨ j = 1 ∨ j = 2 ∨ j = 3 by omega) with rfl | rfl | rfl | rfl <;> simpa
        rintro e w9 ⟨rfl, rfl⟩
        rw [← HX2.out]
        go_upto_region 14 with (fail)
        go_cut [140] (fun t wx => t = .bool false ∧ fb < wx.heap.size ∧ wx.cell? ⟨fb, 0, none⟩ = some (.int .i64 a) ∧ wx.cell? ⟨fb, 1, none⟩ = some (.int .i64 b) ∧ wx.cell? ⟨fb, 2, none⟩ = some (.int .i64 c) ∧ wx.cell? ⟨fb, 3, none⟩ = some (.int .i64 d) ∧ Strm wx S 11 ∧ w.grownBy wx (some S.g))
        case first =>
          as_aux_lemma =>
            by_cases he : ee = 0
            · have HZ := Lib.hid (HX2.out.symm.trans he)
              obtain ⟨x, y, z, t, rfl, rfl, rfl, rfl, hs⟩ := exF_good HZ.out
              have HE2 := Lib.hid (show exV x y z t = (Frac.redN (exFew x y z t : Nat) (exAll x y z t : Nat), Frac.redD (exFew x y z t : Nat) (exAll x y z t : Nat), 0) by
                unfold exV; rw [if_neg (by simpa using HZ.out)]; rfl)
              have HX := Lib.hid (fun w => ExactOf_good x y z t w hs)
              have HE3 := HEV.out.symm.trans HE2.out
              obtain ⟨e1, e2, e3⟩ : en = Frac.redN (exFew x y z t : Nat) (exAll x y z t : Nat) ∧ ed = Frac.redD (exFew x y z t : Nat) (exAll x y z t : Nat) ∧ ee = 0 := by
                injection HE3 with h1 h2
                injection h2 with h2 h3
                exact ⟨h1, h2, h3⟩
              rw [← e1, ← e2] at HX
              subst e3
              clear HE3 HE2 e1 e2 HZ HEV HX2 he
              have hq := fun (w : World) => fr_neq en ed en ed w
              have hg := fr_guard .neq
              go_region_held3 (fun w' => w'.cell? ⟨fb, 0, none⟩ = some (.int .i64 x) ∧ w'.cell? ⟨fb, 1, none⟩ = some (.int .i64 y) ∧ w'.cell? ⟨fb, 2, none⟩ = some (.int .i64 z) ∧ w'.cell? ⟨fb, 3, none⟩ = some (.int .i64 t) ∧ w'.cell? ⟨gp, 0, none⟩ = some (.int .i64 en) ∧ w'.cell? ⟨gp, 1, none⟩ = some (.int .i64 ed))
                (first | go_keep | (refine ⟨(b9.cell ?_).trans ?_, (b9.cell ?_).trans ?_, (b9.cell ?_).trans ?_, (b9.cell ?_).trans ?_, (b9.cell ?_).trans ?_, (b9.cell ?_).trans ?_⟩ <;> first | (simp; omega) | (go_simp; done)))
                (first | (go_at_call 24; with_reducible refine (HX.out _).mono ?_; rintro e w9 ⟨rfl, b9⟩))
              have hh := s4_below b9 (fb := fb) (by simpa using hfb8) ⟨ca8, cb8, cc8, cd8⟩
              have HH := Lib.hid hh
              clear hh hq hg HX
              go_wp2_with fail
              go_meet
              obtain ⟨h1, h2, h3, h4⟩ := HH.out
              exact ⟨rfl, Nat.lt_of_lt_of_le hfb8 b9.size, h1, h2, h3, h4, strm_below (strm_drew s8) b9, grown_trans (grown_drew g8) (grown_of_below b9 _)⟩
            · have he1 : (ee == 0) = false := by simp [he]
              clear he HEV HX2
              go_quiet (fail)
              go_wp2_with fail
              go_meet
              exact ⟨rfl, hfb8, ca8, cb8, cc8, cd8, strm_drewN s8 _, grownBy_drewN g8 _⟩
        case rest =>
          clear ca8 cb8 cc8 cd8 s8 g8 hfb8 p0 p1 hgp HEV HX2
          obtain ⟨rfl, hfb8, ca8, cb8, cc8, cd8, s8, g8⟩ := hcut
          have HV1 := Lib.hid (fun w => Verdict_any a b c d level w)
          have HV2 := Lib.hid (fun w => VerdictOf_any a b c d level w)
          generalize (vdV a b c d level).1 = v1 at *
          generalize (vdV a b c d level).2 = v2 at *
          go_wp2_with fail
          go_region_held3 (fun w' => w'.cell? ⟨fb, 0, none⟩ = some (.int .i64 a) ∧ w'.cell? ⟨fb, 1, none⟩ = some (.int .i64 b) ∧ w'.cell? ⟨fb, 2, none⟩ = some (.int .i64 c) ∧ w'.cell? ⟨fb, 3, none⟩ = some (.int .i64 d))
            (first | go_keep | (refine s4_below b9 ?_ ?_ <;> first | assumption | (simp; omega)))
            (first | (go_at_call 25; with_reducible refine (HV1.out _).mono ?_; rintro e w9 ⟨rfl, b9⟩))
          obtain ⟨ca9, cb9, cc9, cd9⟩ := s4_below b9 (fb := fb) (by simpa using hfb8) ⟨ca8, cb8, cc8, cd8⟩
          have hfb9 : fb < w9.heap.size := Nat.lt_of_lt_of_le hfb8 b9.size
          have s9 := strm_below (strm_drew s8) b9
          have g9 := grown_trans (grown_drew g8) (grown_of_below b9 _)
          clear ca8 cb8 cc8 cd8 hfb8 s8 g8 b9
          go_wp2_with fail
          go_region_held3 (fun w' => w'.cell? ⟨fb, 0, none⟩ = some (.int .i64 a) ∧ w'.cell? ⟨fb, 1, none⟩ = some (.int .i64 b) ∧ w'.cell? ⟨fb, 2, none⟩ = some (.int .i64 c) ∧ w'.cell? ⟨fb, 3, none⟩ = some (.int .i64 d))
            (first | go_keep | (refine s4_below b10 ?_ ?_ <;> first | assumption | (simp; omega)))
            (first | (go_at_call 26; with_reducible refine (HV2.out _).mono ?_; rintro e w10 ⟨rfl, b10⟩))
          have s10 := strm_below (strm_drew s9) b10
          have g10 := grown_trans (grown_drew g9) (grown_of_below b10 _)
          clear ca9 cb9 cc9 cd9 hfb9 s9 g9 b10 HV1 HV2
          go_wp2_with fail
          with_reducible refine (pick_at S _ [1, 4, 1000, 1000000, 0, 1000001] 6 _ _ _ _ s10 (by omega) rfl (by omega) (by omega) (by simp) (by simp)).mono ?_
          rintro e w11 ⟨xa, hxa, rfl, k11, s11⟩
          have hxa' : 0 ≤ xa ∧ xa ≤ 1000001 := by
            simp only [List.mem_cons, List.mem_nil_iff, or_false] at hxa
            omega
          have g11 := grown_trans g10 k11
          clear s10 g10 k11 hxa a1 a2 b1 b2 c1 c2 d1 d2 hfw hfS hl'
          go_wp2_with fail
          with_reducible refine (pick_at S _ [1, 4, 999999, 0] 4 _ _ _ _ s11 (by omega) rfl (by omega) (by omega) (by simp) (by simp)).mono ?_
          rintro e w12 ⟨xb, hxb, rfl, k12, s12⟩
          have hxb' : 0 ≤ xb ∧ xb ≤ 999999 := by
            simp only [List.mem_cons, List.mem_nil_iff, or_false] at hxb
            omega
          have g12 := grown_trans g11 k12
          clear s11 g11 k12 hxb
          go_upto_region 21 with (fail)
          go_cut [21, 22] (fun p q wx => ∃ xp xq : Int, p = .int .i64 xp ∧ q = .int .i64 xq ∧ Strm wx S 15 ∧ w.grownBy wx (some S.g))
          case first =>
            as_aux_lemma =>
              go_wp2_with fail
              all_goals
                with_reducible refine (next_any S _ _ _ s12 (by omega) (by omega)).mono ?_
                rintro e w13 ⟨xp, -, rfl, k13, s13⟩
                have g13 := grown_trans g12 k13
                clear k13
                go_wp2_with fail
                with_reducible refine (pick_at S _ [0, xb, xb + 1, 1] 4 _ _ _ _ s13 (by omega) rfl (by omega) (by omega) (by simp) (by simp)).mono ?_
                rintro e w14 ⟨xq, -, rfl, k14, s14⟩
                have g14 := grown_trans g13 k14
                clear k14
                go_wp2_with fail
                go_meet
                exact ⟨xp, xq, rfl, rfl, s14, g14⟩
          case rest =>
            obtain ⟨xp, xq, rfl, rfl, s15, g15⟩ := hcut
            clear s12 g12
            have hX1 := fun w => Extra_any xa xp xb xq w
            have hX2 := fun w => ExtraOf_any xa xp xb xq w
            unfold Xt at hX1 hX2
            generalize (xtV xa xp xb xq).1 = y1 at *
            generalize (xtV xa xp xb xq).2.1 = y2 at *
            generalize (xtV xa xp xb xq).2.2 = y3 at *
            have HX1 := Lib.hid hX1
            have HX2 := Lib.hid hX2
            clear hX1 hX2
            have z15 := g15.size
            have B15 := below_of_grown g15 hBS
            clear s15 g15
            go_wp2_with fail
            with_reducible refine (HX1.out _).mono ?_
            rintro e w16 ⟨rfl, b16⟩
            have B16 := B15.trans (b16.mono z15)
            have z16 := B16.size
            clear B15 b16
            go_wp2_with fail
            with_reducible refine (HX2.out _).mono ?_
            rintro e w17 ⟨rfl, b17⟩
            have p0 : w17.cell? ⟨w16.heap.size, 0, none⟩ = some (.int .i64 y1) := (b17.cell (by simp)).trans (by go_simp)
            have p1 : w17.cell? ⟨w16.heap.size, 1, none⟩ = some (.int .i64 y2) := (b17.cell (by simp)).trans (by go_simp)
            have hz17 : w16.heap.size < w17.heap.size := by have := b17.size; simp at this; omega
            have B17 := (B16.alloc z16 _).trans (b17.mono (by simp; omega))
            have z17 := B17.size
            clear B16 b17 HX1 HX2
            go_wp2_with fail
            with_reducible refine (measures_any _).mono ?_
            rintro e w18 ⟨rfl, b18⟩
            have q0 : w18.cell? ⟨w16.heap.size, 0, none⟩ = some (.int .i64 y1) := (b18.cell (by simp; omega)).trans (by go_simp)
            have q1 : w18.cell? ⟨w16.heap.size, 1, none⟩ = some (.int .i64 y2) := (b18.cell (by simp; omega)).trans (by go_simp)
            have q2 : w18.cell? ⟨w17.heap.size, 0, none⟩ = some (.int .i64 y1) := (b18.cell (by simp)).trans (by go_simp)
            have q3 : w18.cell? ⟨w17.heap.size, 1, none⟩ = some (.int .i64 y2) := (b18.cell (by simp)).trans (by go_simp)
            have B18 := (B17.alloc z17 _).trans (b18.mono (by simp; omega))
            clear B17 b18 p0 p1
            have hq := fun (w : World) => fr_eql y1 y2 y1 y2 w
            have hg := fr_guard .eql
            go_wp2
            go_ret
            exact ⟨rfl, B18⟩
end Go.Proofs.Ytdnikegakcdcnaa
