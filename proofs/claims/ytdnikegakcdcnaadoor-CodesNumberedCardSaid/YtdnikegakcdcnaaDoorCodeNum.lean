/- The numbers of codes: offer.power, times, inverse, checkBatch; handref1.space, BatchFault, scrambled, codeOfNumber. -/
import Derived.Test.YtdnikegakcdcnaaDoorCodeSum
import Derived.Test.YtdnikegakcdcnaaDoorMulDiv
set_option linter.unusedVariables false
namespace Go.Proofs.YtdnikegakcdcnaaDoor
open Go.RowKit

theorem power_any (n : Nat) (w : World) (hn : n ≤ 11) :
    Calls Tryd.prog 156 #[.int .i64 (n : Int)] w fun e w' => e = .returned (.int .i64 (pw n : Int)) ∧ w = w' := by
  go_enter Tryd.func156, Tryd.ntmps156
  go_wp2_with fail
  go_loop [3, 5] (fun o i => ∃ (k P : Nat), k ≤ n ∧ i = .int .i64 k ∧ o = .int .i64 P ∧ P = pw k) (fun _ i => n - (intOf i).toNat)
  case atStart => exact ⟨0, 1, Nat.zero_le _, rfl, rfl, rfl⟩
  case round =>
    obtain ⟨k, P, hk, rfl, rfl, hP⟩ := hrel
    by_cases hlt : k < n
    · have hb := pw_le (k + 1) (by omega)
      rw [pw_succ, ← hP] at hb
      have HP := Lib.hid (show P * 31 = pw (k + 1) by rw [pw_succ, hP])
      clear hP
      go_wp2
      go_round
      case rel => exact ⟨k + 1, P * 31, by omega, by go_num, by go_num, HP.out⟩
      case measure => simp [intOf]; omega
    · obtain rfl : k = n := by omega
      have HP := Lib.hid hP
      clear hP
      go_wp2
      go_ret
      exact ⟨ret_int (by rw [HP.out]), rfl⟩

theorem space_any (n : Nat) (w : World) (hn : n ≤ 11) :
    Calls Tryd.prog 160 #[.int .i64 (n : Int)] w fun e w' => e = .returned (.int .i64 (pw n : Int)) ∧ w = w' := by
  go_enter Tryd.func160, Tryd.ntmps160
  go_wp2_with fail
  go_loop [3, 5] (fun o i => ∃ (k P : Nat), k ≤ n ∧ i = .int .i64 k ∧ o = .int .i64 P ∧ P = pw k) (fun _ i => n - (intOf i).toNat)
  case atStart => exact ⟨0, 1, Nat.zero_le _, rfl, rfl, rfl⟩
  case round =>
    obtain ⟨k, P, hk, rfl, rfl, hP⟩ := hrel
    by_cases hlt : k < n
    · have hb := pw_le (k + 1) (by omega)
      rw [pw_succ, ← hP] at hb
      have HP := Lib.hid (show P * 31 = pw (k + 1) by rw [pw_succ, hP])
      clear hP
      go_wp2
      go_round
      case rel => exact ⟨k + 1, P * 31, by omega, by go_num, by go_num, HP.out⟩
      case measure => simp [intOf]; omega
    · obtain rfl : k = n := by omega
      have HP := Lib.hid hP
      clear hP
      go_wp2
      go_ret
      exact ⟨ret_int (by rw [HP.out]), rfl⟩

set_option maxHeartbeats 1000000 in
theorem times_any (a b m : Nat) (w : World) (ha : a ≤ 36028797018963968) (hb : b ≤ 36028797018963968) (hm : m ≤ 36028797018963968) (h0 : 0 < m) (hab : b ≤ m) :
    Calls Tryd.prog 157 #[.int .i64 (a : Int), .int .i64 (b : Int), .int .i64 (m : Int)] w fun e w' => e = .returned (.int .i64 ((a * b % m : Nat) : Int)) ∧ ∃ k, w' = w.drewN k := by
  have HL := Lib.hid (prod_lt a b m (by omega) hab h0)
  go_enter Tryd.func157, Tryd.ntmps157
  go_wp2_with fail
  with_reducible refine (mul64 a b _ (by omega) (by omega)).mono ?_
  rintro e w1 ⟨⟨m1, m2, hp, rfl⟩, rfl⟩
  have hm1 : m1 < m := by rw [hp.1]; exact Nat.div_lt_of_lt_mul HL.out
  have hmod : (m1 : Int) % (m : Int) = (m1 : Int) := Int.emod_eq_of_lt (by omega) (by omega)
  have hne : ¬ m = 0 := by omega
  have HP := Lib.hid hp
  clear hp
  go_wp2_with fail
  with_reducible refine (div_of_mul a b m m1 m2 _ HP.out (by omega) HL.out).mono ?_
  rintro e w2 ⟨⟨q, r, hq, rfl⟩, k, rfl⟩
  have hr : r < m := by rw [hq.2]; exact Nat.mod_lt _ h0
  have HQ := Lib.hid hq.2
  clear hq hmod
  go_wp2
  go_ret
  exact ⟨ret_int (by rw [← HQ.out]), _, rfl⟩

theorem stI_next (m k : Nat) : stI m (k + 1) = ((stI m k).2.1 - (stI m k).2.1 / (stI m k).1 * (stI m k).1, (stI m k).1, (stI m k).2.2.2 - (stI m k).2.1 / (stI m k).1 * (stI m k).2.2.1, (stI m k).2.2.1) := rfl
structure OkI (a b x y : Int) : Prop where
  a0 : 0 < a
  a1 : a ≤ 36028797018963968
  b0 : 0 ≤ b
  b1 : b ≤ 36028797018963968
  x0 : -36028797018963968 ≤ x
  x1 : x ≤ 36028797018963968
  y0 : -36028797018963968 ≤ y
  y1 : y ≤ 36028797018963968
  q1 : b / a ≤ 36028797018963968
  p0 : -36028797018963968 ≤ b / a * x
  p1 : b / a * x ≤ 36028797018963968
theorem okI_of {m k : Nat} (h : okI m k = true) : OkI (stI m k).1 (stI m k).2.1 (stI m k).2.2.1 (stI m k).2.2.2 := by
  unfold okI at h
  simp only [Bool.and_eq_true, decide_eq_true_eq] at h
  obtain ⟨⟨⟨⟨⟨⟨⟨⟨⟨⟨a, b⟩, c⟩, d⟩, e⟩, f⟩, g⟩, i⟩, j⟩, k⟩, l⟩ := h
  exact ⟨a, b, c, d, e, f, g, i, j, k, l⟩
theorem OkI.more {a b x y : Int} (h : OkI a b x y) : 0 ≤ b / a ∧ 0 ≤ b - b / a * a ∧ b - b / a * a < a := by
  have h1 := Int.emod_nonneg b (show a ≠ 0 by have := h.a0; omega)
  have h2 := Int.emod_lt_of_pos b h.a0
  have h3 := Int.mul_ediv_add_emod b a
  rw [Int.mul_comm] at h3
  refine ⟨Int.ediv_nonneg h.b0 (by have := h.a0; omega), ?_, ?_⟩ <;> omega

set_option maxHeartbeats 2000000 in
theorem inverse_any (c : Nat) (w : World) (h1 : 3 ≤ c) (h2 : c ≤ 11) :
    Calls Tryd.prog 166 #[.int .i64 (pw c : Int)] w fun e w' => e = .returned (.int .i64 (inv c : Int)) ∧ w = w' := by
  have HO := Lib.hid (inv_ok c h1 h2)
  have hm0 := pw_pos c
  have hm1 := pw_le c h2
  have h79 : (7919 : Int) % (pw c : Int) = 7919 := by
    have := pw_mono h1
    have e : pw 3 = 29791 := rfl
    exact Int.emod_eq_of_lt (by omega) (by omega)
  obtain ⟨N, hN⟩ : ∃ N, nI c = N := ⟨_, rfl⟩
  have HS := Lib.hid (fun k (hk : k < N) => okI_of (HO.out.step k (by rw [hN]; exact hk)))
  have HD : Hid ((stI (pw c) N).1 = 0 ∧ -36028797018963968 ≤ (stI (pw c) N).2.2.2 ∧ (stI (pw c) N).2.2.2 ≤ 36028797018963968) := Lib.hid (by
    have := HO.out.done
    rw [hN] at this
    unfold okJ at this
    simp only [Bool.and_eq_true, decide_eq_true_eq] at this
    exact ⟨this.1.1, this.1.2, this.2⟩)
  have HR := Lib.hid HO.out.res
  rw [hN] at HR
  have HN := Lib.hid (stI_next (pw c))
  have H0 := Lib.hid (show stI (pw c) 0 = (7919, (pw c : Int), 1, 0) by show ((7919 : Int) % (pw c : Int), _) = _; rw [h79])
  clear hN h1 h2
  generalize inv c = I at *
  generalize stI (pw c) = st at *
  generalize pw c = m at *
  have hne : ¬ m = 0 := by omega
  clear HO
  go_enter Tryd.func166, Tryd.ntmps166
  go_wp2_with fail
  have H79 := Lib.hid h79
  clear h79
  go_loop [3, 4, 5, 6] (fun a b x y => ∃ k, k ≤ N ∧ a = .int .i64 (st k).1 ∧ b = .int .i64 (st k).2.1 ∧ x = .int .i64 (st k).2.2.1 ∧ y = .int .i64 (st k).2.2.2) (fun a _ _ _ => (intOf a).toNat)
  case atStart => exact ⟨0, Nat.zero_le _, by rw [H0.out]; exact congrArg _ H79.out, by rw [H0.out], by rw [H0.out], by rw [H0.out]⟩
  case round =>
    obtain ⟨k, hk, rfl, rfl, rfl, rfl⟩ := hrel
    by_cases hlt : k < N
    · have hs := HS.out k hlt
      have HNk := Lib.hid (HN.out k)
      obtain ⟨s, hsk⟩ : ∃ s, st k = s := ⟨_, rfl⟩
      rw [hsk] at hs HNk ⊢
      clear hsk
      obtain ⟨a, b, x, y⟩ := s
      simp only at hs HNk ⊢
      obtain ⟨q0, r0, r1⟩ := hs.more
      obtain ⟨g1, g2, g3, g4, g5, g6, g7, g8, g9, g10, g11⟩ := hs
      have ht : Int.tdiv b a = b / a := Int.tdiv_eq_ediv_of_nonneg g3
      obtain ⟨q, hq⟩ : ∃ q, b / a = q := ⟨_, rfl⟩
      rw [hq] at HNk q0 r0 r1 g9 g10 g11
      have ha : ¬ a = 0 := by omega
      have e1 : IntKind.i64.wrap (q * a) = q * a := by rw [IntKind.wrap_i64]; omega
      have e2 : IntKind.i64.wrap (q * x) = q * x := by rw [IntKind.wrap_i64]; omega
      have e3 : IntKind.i64.wrap (b - q * a) = b - q * a := by rw [IntKind.wrap_i64]; omega
      have e4 : IntKind.i64.wrap (y - q * x) = y - q * x := by rw [IntKind.wrap_i64]; omega
      have hm2 : (b - q * a).toNat < a.toNat := by omega
      clear r0 r1 g10 g11
      go_wp2
      clear e1 e2 e3 e4 ht hq
      go_round
      case rel => exact ⟨k + 1, by omega, by rw [HNk.out], by rw [HNk.out], by rw [HNk.out], by rw [HNk.out]⟩
      case measure => simp [intOf]; omega
    · obtain rfl : k = N := by omega
      obtain ⟨d0, d1, d2⟩ := HD.out
      have hr := HR.out
      obtain ⟨s, hsk⟩ : ∃ s, st k = s := ⟨_, rfl⟩
      rw [hsk] at hr d0 d1 d2 ⊢
      clear hsk HS HD HN HR H0
      obtain ⟨a, b, x, y⟩ := s
      simp only at hr d0 d1 d2 ⊢
      subst d0
      have hR := Lib.hid hr
      clear hr
      obtain ⟨u, hu⟩ : ∃ u, y.tmod (m : Int) = u := ⟨_, rfl⟩
      have hub : -(m : Int) < u ∧ u < m := by
        rw [← hu]
        by_cases hy : 0 ≤ y
        · rw [Int.tmod_eq_emod_of_nonneg hy]
          exact ⟨by have := Int.emod_nonneg y (show (m : Int) ≠ 0 by omega); omega, Int.emod_lt_of_pos y (by omega)⟩
        · have := tmod_bd y m (by omega) (by omega)
          omega
      rw [hu] at hR
      obtain ⟨u0, u1⟩ := hub
      have HRR := Lib.hid (show u % (m : Int) = (I : Int) by
        have h : (u + m) % (m : Int) = (I : Int) := by rw [← Int.tmod_eq_emod_of_nonneg (by omega)]; exact hR.out
        simpa using h)
      by_cases hy : 0 ≤ y
      · have hu2 : y % (m : Int) = u := by rw [← Int.tmod_eq_emod_of_nonneg hy]; exact hu
        clear hu
        go_wp2
        go_ret
        exact ⟨ret_int HRR.out, rfl⟩
      · go_wp2
        go_ret
        exact ⟨ret_int HRR.out, rfl⟩

/-- what is wrong with the arguments of a batch -/
def batchE (p : ByteArray) (c key : Int) : Int :=
  if 12 < p.size then 2 else if sgnB p.data.toList = false then 3 else if c < 3 ∨ 11 < c then 1 else if key < 0 ∨ (pw c.toNat : Int) ≤ key then 1 else 0

set_option maxHeartbeats 1000000 in
theorem checkBatch_any (p : ByteArray) (c key : Int) (w : World) (hp : p.size ≤ 100) :
    Calls Tryd.prog 155 #[.string p, .int .i64 c, .int .i64 key] w fun e w' => e = .returned (.int .i64 (batchE p c key)) ∧ w = w' := by
  obtain ⟨E, hE⟩ : ∃ E, batchE p c key = E := ⟨_, rfl⟩
  rw [hE]
  have HE := Lib.hid hE.symm
  unfold batchE at HE
  clear hE
  have C1 := Lib.hid (fun w => areSigns_any p w (by unfold maxLen; omega))
  generalize sgnB p.data.toList = b at *
  by_cases h12 : 12 < p.size
  · obtain rfl : E = 2 := HE.out.trans (if_pos h12)
    go_enter Tryd.func155, Tryd.ntmps155
    go_wp2
    go_ret
    exact ⟨rfl, rfl⟩
  · have HE1 := Lib.hid (HE.out.trans (if_neg h12))
    clear HE
    go_enter Tryd.func155, Tryd.ntmps155
    go_wp2_with fail
    with_reducible refine (C1.out _).mono ?_
    rintro e w1 ⟨rfl, rfl⟩
    cases b with
    | false =>
      obtain rfl : E = 3 := HE1.out.trans (if_pos rfl)
      go_wp2_with fail
      go_ret
      exact ⟨rfl, rfl⟩
    | true =>
      have HE2 := Lib.hid (HE1.out.trans (if_neg (by decide)))
      clear HE1
      by_cases hc : c < 3 ∨ 11 < c
      · obtain rfl : E = 1 := HE2.out.trans (if_pos hc)
        go_wp2_with fail
        with_reducible refine (owithin_no _ _ _ _ hc).mono ?_
        rintro e w1 ⟨rfl, rfl⟩
        go_wp2_with fail
        go_ret
        exact ⟨rfl, rfl⟩
      · have HE3 := Lib.hid (HE2.out.trans (if_neg hc))
        obtain ⟨n, rfl⟩ := Int.eq_ofNat_of_zero_le (show 0 ≤ c by omega)
        have hn : n ≤ 11 := by omega
        have hn3 : (3 : Int) ≤ (n : Int) := by omega
        have hn11 : (n : Int) ≤ 11 := by omega
        have hpb := pw_le n hn
        have hpp := pw_pos n
        have HC := Lib.hid (fun w => power_any n w hn)
        rw [Int.toNat_natCast] at HE3
        generalize pw n = P at *
        clear HE2 hc
        by_cases hk : key < 0 ∨ (P : Int) ≤ key
        · obtain rfl : E = 1 := HE3.out.trans (if_pos hk)
          go_wp2_with fail
          with_reducible refine (owithin_yes _ _ _ _ hn3 hn11).mono ?_
          rintro e w1 ⟨rfl, rfl⟩
          go_wp2_with fail
          with_reducible refine (HC.out _).mono ?_
          rintro e w1 ⟨rfl, rfl⟩
          go_wp2_with fail
          with_reducible refine (owithin_no _ _ _ _ (by omega)).mono ?_
          rintro e w1 ⟨rfl, rfl⟩
          go_wp2_with fail
          go_ret
          exact ⟨rfl, rfl⟩
        · obtain rfl : E = 0 := HE3.out.trans (if_neg hk)
          go_wp2_with fail
          with_reducible refine (owithin_yes _ _ _ _ hn3 hn11).mono ?_
          rintro e w1 ⟨rfl, rfl⟩
          go_wp2_with fail
          with_reducible refine (HC.out _).mono ?_
          rintro e w1 ⟨rfl, rfl⟩
          go_wp2_with fail
          with_reducible refine (owithin_yes _ _ _ _ (by omega) (by omega)).mono ?_
          rintro e w1 ⟨rfl, rfl⟩
          go_wp2_with fail
          go_ret
          exact ⟨rfl, rfl⟩

set_option maxHeartbeats 1000000 in
theorem BatchFault_any (p : ByteArray) (c key : Int) (w : World) (hp : p.size ≤ 100) :
    Calls Tryd.prog 159 #[.string p, .int .i64 c, .int .i64 key] w fun e w' => e = .returned (.int .i64 (batchE p c key)) ∧ Below w.heap.size w w' := by
  obtain ⟨E, hE⟩ : ∃ E, batchE p c key = E := ⟨_, rfl⟩
  rw [hE]
  have HE := Lib.hid hE.symm
  unfold batchE at HE
  clear hE
  have C1 := Lib.hid (fun w => made_sgn p w (by unfold maxLen; omega))
  generalize sgnB p.data.toList = b at *
  by_cases h12 : 12 < p.size
  · obtain rfl : E = 2 := HE.out.trans (if_pos h12)
    go_enter Tryd.func159, Tryd.ntmps159
    go_wp2
    go_ret
    exact ⟨rfl, Below.refl _ _⟩
  · have HE1 := Lib.hid (HE.out.trans (if_neg h12))
    clear HE
    go_enter Tryd.func159, Tryd.ntmps159
    go_wp2_with fail
    with_reducible refine (C1.out _).mono ?_
    rintro e w1 ⟨rfl, hb⟩
    cases b with
    | false =>
      obtain rfl : E = 3 := HE1.out.trans (if_pos rfl)
      go_wp2_with fail
      go_ret
      exact ⟨rfl, hb⟩
    | true =>
      have HE2 := Lib.hid (HE1.out.trans (if_neg (by decide)))
      clear HE1
      by_cases hc : c < 3 ∨ 11 < c
      · obtain rfl : E = 1 := HE2.out.trans (if_pos hc)
        rcases hc with hc | hc
        · go_wp2_with fail
          go_ret
          exact ⟨rfl, hb⟩
        · have hc3 : ¬ c < 3 := by omega
          go_wp2_with fail
          go_ret
          exact ⟨rfl, hb⟩
      · have HE3 := Lib.hid (HE2.out.trans (if_neg hc))
        obtain ⟨n, rfl⟩ := Int.eq_ofNat_of_zero_le (show 0 ≤ c by omega)
        have hn : n ≤ 11 := by omega
        have hn3 : ¬ (n : Int) < 3 := by omega
        have hn11 : ¬ 11 < (n : Int) := by omega
        have hpb := pw_le n hn
        have hpp := pw_pos n
        have HC := Lib.hid (fun w => space_any n w hn)
        rw [Int.toNat_natCast] at HE3
        generalize pw n = P at *
        clear HE2 hc
        by_cases hk0 : key < 0
        · obtain rfl : E = 1 := HE3.out.trans (if_pos (.inl hk0))
          go_wp2_with fail
          go_ret
          exact ⟨rfl, hb⟩
        · by_cases hk : (P : Int) ≤ key
          · obtain rfl : E = 1 := HE3.out.trans (if_pos (.inr hk))
            go_wp2_with fail
            with_reducible refine (HC.out _).mono ?_
            rintro e w1 ⟨rfl, rfl⟩
            go_wp2_with fail
            go_ret
            exact ⟨rfl, hb⟩
          · obtain rfl : E = 0 := HE3.out.trans (if_neg (by omega))
            go_wp2_with fail
            with_reducible refine (HC.out _).mono ?_
            rintro e w1 ⟨rfl, rfl⟩
            go_wp2_with fail
            go_ret
            exact ⟨rfl, hb⟩

theorem half_odd {K : Nat} (h : K % 2 = 1) : 2 * (K / 2) + 1 = K := by omega
theorem half_even {K : Nat} (h : ¬ K % 2 = 1) : 2 * (K / 2) = K := by omega

set_option maxHeartbeats 2000000 in
theorem scrambled_any (n key m : Nat) (w : World) (hn : n ≤ 36028797018963968) (hk : key ≤ 36028797018963968) (hm : m ≤ 1152921504606846976) (h0 : 0 < m) :
    Calls Tryd.prog 167 #[.int .i64 (n : Int), .int .i64 (key : Int), .int .i64 (m : Int)] w fun e w' => e = .returned (.int .i64 ((((n * 7919 + key) % m : Nat)) : Int)) ∧ w = w' := by
  have hne : ¬ m = 0 := by omega
  obtain ⟨R, hR⟩ : ∃ R, (n * 7919 + key) % m = R := ⟨_, rfl⟩
  rw [hR]
  have HR := Lib.hid (show (key % m + n * 7919) % m = R by rw [← hR, Nat.add_comm (n * 7919), Nat.add_mod, Nat.mod_mod, ← Nat.add_mod])
  clear hR
  have hk1 := Nat.mod_lt key h0
  have hk2 : (key : Int) % (m : Int) = ((key % m : Nat) : Int) := (Int.natCast_emod key m).symm
  generalize key % m = o0 at *
  go_enter Tryd.func167, Tryd.ntmps167
  go_wp2_with fail
  have HK2 := Lib.hid hk2
  clear hk2 hk
  go_loop [0, 7, 8] (fun x o k => ∃ (n' o' K : Nat), x = .int .i64 n' ∧ o = .int .i64 o' ∧ k = .int .i64 K ∧ n' ≤ 1152921504606846976 ∧ o' < m ∧ K ≤ 7919 ∧ (o' + n' * K) % m = R) (fun _ _ k => (intOf k).toNat)
  case atStart => exact ⟨n, o0, 7919, rfl, congrArg _ HK2.out, rfl, by omega, hk1, by omega, HR.out⟩
  case round =>
    obtain ⟨n', o', K, rfl, rfl, rfl, hn', ho', hK, hI⟩ := hrel
    have HI := Lib.hid hI
    clear hI
    by_cases hlt : 0 < K
    · have e1 : (2 * (n' : Int)) % (m : Int) = ((2 * n' % m : Nat) : Int) := by rw [Int.natCast_emod]; simp
      have e2 : ((o' : Int) + (n' : Int)) % (m : Int) = (((o' + n') % m : Nat) : Int) := by rw [Int.natCast_emod]; simp
      have b1 := Nat.mod_lt (2 * n') h0
      have b2 := Nat.mod_lt (o' + n') h0
      by_cases hp : K % 2 = 1
      · have HX := Lib.hid (scr_odd o' n' (K / 2) m)
        rw [half_odd hp] at HX
        have hp2 : (K : Int) % 2 = 1 := by omega
        generalize 2 * n' % m = n2 at *
        generalize (o' + n') % m = o2 at *
        have HX2 := Lib.hid (HX.out.trans HI.out)
        clear HX HI hp
        go_wp2
        have E1 := Lib.hid e1
        have E2 := Lib.hid e2
        clear e1 e2
        go_round
        case rel => exact ⟨n2, o2, K / 2, congrArg _ E1.out, congrArg _ E2.out, by go_num, by omega, b2, by omega, HX2.out⟩
        case measure => simp [intOf]; omega
      · have HX := Lib.hid (scr_even o' n' (K / 2) m)
        rw [half_even hp] at HX
        have hp2 : (K : Int) % 2 = 0 := by omega
        generalize 2 * n' % m = n2 at *
        have HX2 := Lib.hid (HX.out.trans HI.out)
        clear HX HI hp e2 b2
        go_wp2
        have E1 := Lib.hid e1
        clear e1
        go_round
        case rel => exact ⟨n2, o', K / 2, congrArg _ E1.out, rfl, by go_num, by omega, ho', by omega, HX2.out⟩
        case measure => simp [intOf]; omega
    · obtain rfl : K = 0 := by omega
      have HF := Lib.hid (show o' = R by rw [← HI.out, Nat.mul_zero, Nat.add_zero, Nat.mod_eq_of_lt ho'])
      go_wp2
      go_ret
      exact ⟨ret_int (by rw [HF.out]), rfl⟩

/-- the code of a number -/
def codeAt (p : ByteArray) (c key n : Nat) : ByteArray := sealS (p ++ ⟨(digs ((n * 7919 + key) % pw c) c).toArray⟩)
theorem codeAt_size (p : ByteArray) (c key n : Nat) : (codeAt p c key n).size ≤ p.size + c + 1 := by
  unfold codeAt
  refine Nat.le_trans (sealS_size _) ?_
  rw [ByteArray.size_append]
  have : (⟨(digs ((n * 7919 + key) % pw c) c).toArray⟩ : ByteArray).size = c := by
    show (digs ((n * 7919 + key) % pw c) c).toArray.size = c
    rw [List.size_toArray, digs_len]
  omega
theorem digs_step (v j : Nat) (d : Nat) (h : v / pw j % 31 = d) : sgn d ++ (⟨(digs v j).toArray⟩ : ByteArray) = ⟨(digs v (j + 1)).toArray⟩ := by
  have hd : d < 31 := by rw [← h]; exact Nat.mod_lt _ (by omega)
  rw [sgn_eq d hd]
  have e : digs v (j + 1) = sgL.getD d 0 :: digs v j := by rw [← h]; rfl
  rw [e]
  apply ByteArray.ext
  rw [ByteArray.data_append]
  simp
theorem sealO_ok (p : ByteArray) (v c : Nat) (hp : p.size ≤ 12) (hs : sgnB p.data.toList = true) (h1 : 3 ≤ c) (h2 : c ≤ 11) : sealO (p ++ ⟨(digs v c).toArray⟩) = (sealS (p ++ ⟨(digs v c).toArray⟩), 0) := by
  have hsz : (p ++ (⟨(digs v c).toArray⟩ : ByteArray)).size = p.size + c := by
    rw [ByteArray.size_append]
    have : (⟨(digs v c).toArray⟩ : ByteArray).size = c := by
      show (digs v c).toArray.size = c
      rw [List.size_toArray, digs_len]
    omega
  unfold sealO
  rw [if_neg (by omega), if_neg]
  rw [app_list, sgnB_app, hs]
  have := digs_sgn v c
  simpa using this

set_option maxHeartbeats 2000000 in
theorem codeOfNumber_any (p : ByteArray) (c key n : Nat) (w : World) (hp : p.size ≤ 12) (hs : sgnB p.data.toList = true) (h1 : 3 ≤ c) (h2 : c ≤ 11) (hk : key < pw c) (hn : n < pw c) :
    Calls Tryd.prog 161 #[.string p, .int .i64 (c : Int), .int .i64 (key : Int), .int .i64 (n : Int)] w fun e w' => e = .returned (.string (codeAt p c key n)) ∧ Below w.heap.size w w' := by
  have hb := pw_le c h2
  have h0 := pw_pos c
  have C1 := Lib.hid (fun w => space_any c w h2)
  have C2 := Lib.hid (fun w => scrambled_any n key (pw c) w (by omega) (by omega) (by omega) h0)
  obtain ⟨v, hv⟩ : ∃ v, (n * 7919 + key) % pw c = v := ⟨_, rfl⟩
  have hvl : v < pw c := by rw [← hv]; exact Nat.mod_lt _ h0
  rw [hv] at C2
  have HV := Lib.hid (show codeAt p c key n = sealS (p ++ ⟨(digs v c).toArray⟩) by unfold codeAt; rw [hv])
  have HO := Lib.hid (sealO_ok p v c hp hs h1 h2)
  clear hs hv
  generalize pw c = P at *
  go_enter Tryd.func161, Tryd.ntmps161
  go_wp2_with fail
  with_reducible refine (C1.out _).mono ?_
  rintro e w1 ⟨rfl, rfl⟩
  go_wp2_with fail
  with_reducible refine (C2.out _).mono ?_
  rintro e w1 ⟨rfl, rfl⟩
  go_wp2_with fail
  go_loop [9, 10, 19] (fun x s i => ∃ (k V : Nat) (b : ByteArray), k ≤ c ∧ i = .int .i64 k ∧ x = .int .i64 V ∧ s = .string b ∧ V = v / pw k ∧ b = ⟨(digs v k).toArray⟩ ∧ V ≤ v) (fun _ _ i => c - (intOf i).toNat)
  case atStart => exact ⟨0, v, ⟨#[]⟩, Nat.zero_le _, rfl, rfl, rfl, by simp [pw], rfl, Nat.le_refl _⟩
  case round =>
    obtain ⟨k, V, b, hk', rfl, rfl, rfl, hV, hB, hVv⟩ := hrel
    by_cases hlt : k < c
    · obtain ⟨d, hd⟩ : ∃ d, V % 31 = d := ⟨_, rfl⟩
      have hd31 : d < 31 := by rw [← hd]; exact Nat.mod_lt _ (by omega)
      have HD := Lib.hid (digs_step v k d (by rw [← hV]; exact hd))
      rw [← hB] at HD
      have HN := Lib.hid (show V / 31 = v / pw (k + 1) by rw [div_pw, hV])
      have hbs : b.size = k := by
        rw [hB]
        show (digs v k).toArray.size = k
        rw [List.size_toArray, digs_len]
      have HBS := Lib.hid hbs
      have hbs' : b.size ≤ 11 := by omega
      have hdi : (V : Int) % 31 = (d : Int) := by omega
      have hgs := sgn_size d hd31
      obtain ⟨g, hg⟩ : ∃ g, sgn d = g := ⟨_, rfl⟩
      rw [hg] at HD hgs
      have hsl : (⟨#[48, 49, 50, 51, 52, 53, 54, 55, 56, 57, 65, 66, 67, 68, 69, 70, 71, 72, 74, 75, 77, 78, 80, 81, 82, 84, 85, 86, 87, 88, 89]⟩ : ByteArray).extract d (d + 1) = g := hg
      clear hg hbs hV hB hd
      go_wp2
      clear hdi hsl
      go_round
      case rel => exact ⟨k + 1, V / 31, g ++ b, by omega, by go_num, by go_num, rfl, HN.out, HD.out, by omega⟩
      case measure => simp [intOf]; omega
    · obtain rfl : k = c := by omega
      have hbs : b.size ≤ 11 := by
        rw [hB]
        show (digs v k).toArray.size ≤ 11
        rw [List.size_toArray, digs_len]
        omega
      have HB := Lib.hid hB
      have hz : ¬ (9223372036854775807 < p.size + b.size) := by omega
      have CS := Lib.hid (fun w => SealOf_any (p ++ b) w (by rw [ByteArray.size_append]; omega))
      rw [HB.out] at CS
      rw [HO.out] at CS
      rw [← HB.out] at CS HV
      clear hB hV
      go_wp2_with fail
      with_reducible refine (CS.out _).mono ?_
      rintro e w1 ⟨rfl, hb1⟩
      go_wp2_with fail
      go_ret
      exact ⟨by rw [HV.out]; rfl, hb1⟩
end Go.Proofs.YtdnikegakcdcnaaDoor
