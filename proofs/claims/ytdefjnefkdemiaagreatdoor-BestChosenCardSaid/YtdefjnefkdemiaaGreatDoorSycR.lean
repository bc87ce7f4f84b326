/- slices.SortStableFunc at the pieces of handbill/handref1.piece, its merges, the third case and the whole (printed by gen_stab.py). -/
import Derived.Test.YtdefjnefkdemiaaGreatDoorSymR
import Derived.Deep.CutBlock
import Derived.Deep.DeepCutAuto
set_option linter.unusedVariables false
namespace Go.Proofs.YtdefjnefkdemiaaGreatDoor
open Go.RowKit Go.Sort

set_option maxRecDepth 100000 in
set_option maxHeartbeats 8000000 in
theorem symCR (g n cap a m b f : Nat) (d : Array Pc) (w0 W : World) (h : PrW w0 g d W) (hn : d.size = n) (hn1 : n ≤ 100000) (ham : a < m) (hmb : m < b) (hb : b ≤ n) (hf : b - a ≤ f + 1) (h1 : ¬ m - a = 1) (h2 : ¬ b - m = 1) (ih : (∀ (g n cap a m b : Nat) (d : Array Pc) (w0 W : World), PrW w0 g d W → d.size = n → n ≤ 100000 → a < m → m < b → b ≤ n → b - a ≤ f →
    Calls Tryz.prog 134 #[.slice (some ⟨g, 0, none⟩) n cap, .int .i64 a, .int .i64 m, .int .i64 b, .func (.func 102) #[] #[]] W fun e w' => e = .returned (.tuple #[]) ∧ PrW w0 g (symF ltP f d a m b) w')) :
    Calls Tryz.prog 134 #[.slice (some ⟨g, 0, none⟩) n cap, .int .i64 a, .int .i64 m, .int .i64 b, .func (.func 102) #[] #[]] W fun e w' => e = .returned (.tuple #[]) ∧ PrW w0 g (symF ltP (f + 1) d a m b) w' := by
  have IH := Lib.hid ih
  clear ih
  have mixed : Tryz.prog.follows .mixedOrders = true := by kernel_rfl
  have HN := Lib.hid hn
  have HP := Lib.hid h
  have HQ := Lib.hid h.grow
  clear hn h
  obtain ⟨M, hM⟩ : ∃ M, (a + b) / 2 = M := ⟨_, rfl⟩
  obtain ⟨lo, hlo⟩ : ∃ lo, (if M < m then M + m - b else a) = lo := ⟨_, rfl⟩
  obtain ⟨hi, hhi⟩ : ∃ hi, (if M < m then M else m) = hi := ⟨_, rfl⟩
  obtain ⟨p, hp⟩ : ∃ p, M + m - 1 = p := ⟨_, rfl⟩
  obtain ⟨N, hN⟩ : ∃ N, M + m = N := ⟨_, rfl⟩
  have hSS : symS ltP d a m b = bsF (fun c => !ltP d[p - c]! d[c]!) (hi - lo) lo hi := by
    unfold symS
    rw [hM, ← hlo, ← hhi, hp]
    split <;> rfl
  have hbd : lo ≤ hi ∧ hi ≤ p + 1 ∧ p < lo + b ∧ hi ≤ m ∧ hi ≤ M ∧ a ≤ lo := by
    by_cases hMm : M < m
    · rw [if_pos hMm] at hlo hhi; omega
    · rw [if_neg hMm] at hlo hhi; omega
  have hsb := symS_lo ltP d a m b ham hmb
  obtain ⟨s, hs⟩ : ∃ s, symS ltP d a m b = s := ⟨_, rfl⟩
  obtain ⟨e2, he2⟩ : ∃ e2, N - s = e2 := ⟨_, rfl⟩
  have HR : Hid (symF ltP (f + 1) d a m b =
      (if M < e2 ∧ e2 < b then symF ltP f (if a < s ∧ s < M then symF ltP f (if s < m ∧ m < e2 then rotF (e2 - s) d m (m - s) (e2 - m) else d) a s M else (if s < m ∧ m < e2 then rotF (e2 - s) d m (m - s) (e2 - m) else d)) M e2 b
      else (if a < s ∧ s < M then symF ltP f (if s < m ∧ m < e2 then rotF (e2 - s) d m (m - s) (e2 - m) else d) a s M else (if s < m ∧ m < e2 then rotF (e2 - s) d m (m - s) (e2 - m) else d)))) := Lib.hid (by
    rw [symF, if_neg h1, if_neg h2]
    simp only
    rw [hs, hM, hN, he2])
  rw [HR.out]
  clear HR
  rw [hs] at hsb hSS
  rw [hM, hN, he2] at hsb
  obtain ⟨hb0, hb1, hb2, hb3, hb4, hb5⟩ := hbd
  obtain ⟨hs0, hs1, hs2, hs3⟩ := hsb
  have hm1 : ((m : Int) - (a : Int) == 1) = false := by simp; omega
  have hm2 : ((b : Int) - (m : Int) == 1) = false := by simp; omega
  have kM : ((a : Int) + (b : Int)) / 2 = (M : Int) := by omega
  have kN : (M : Int) + (m : Int) = (N : Int) := by omega
  have kp : (N : Int) - 1 = (p : Int) := by omega
  have hMn : a < M ∧ M < b := by omega
  obtain ⟨hM0, hM1⟩ := hMn
  have HLO := Lib.hid hlo
  have HHI := Lib.hid hhi
  have HSS := Lib.hid hSS
  have HE2 := Lib.hid he2
  have hNs : s ≤ N := by omega
  have HPN := Lib.hid hN
  have HpN := Lib.hid hp
  have hpM : p < b + m := by omega
  clear hlo hhi hSS he2 hN hp hM hs h1 h2
  obtain ⟨d1, hd1⟩ : ∃ d1, (if s < m ∧ m < e2 then rotF (e2 - s) d m (m - s) (e2 - m) else d) = d1 := ⟨_, rfl⟩
  rw [hd1]
  have HD1 := Lib.hid hd1
  have hd1s : d1.size = d.size := by
    rw [← hd1]
    split
    · exact size_rotF _ _ _ _ _
    · rfl
  have HD1S := Lib.hid (hd1s.trans HN.out)
  clear hd1 hd1s
  obtain ⟨d2, hd2⟩ : ∃ d2, (if a < s ∧ s < M then symF ltP f d1 a s M else d1) = d2 := ⟨_, rfl⟩
  rw [hd2]
  have HD2 := Lib.hid hd2
  have hd2s : d2.size = d1.size := by
    rw [← hd2]
    split
    · exact size_symF _ _ _ _ _ _
    · rfl
  have HD2S := Lib.hid (hd2s.trans HD1S.out)
  clear hd2 hd2s
  obtain ⟨d3, hd3⟩ : ∃ d3, (if M < e2 ∧ e2 < b then symF ltP f d2 M e2 b else d2) = d3 := ⟨_, rfl⟩
  rw [hd3]
  have HD3 := Lib.hid hd3
  clear hd3
  go_enter Tryz.func134, Tryz.ntmps134
  go_upto_if 140 with (fail)
  go_cut [20, 21] (fun u v wx => u = .int .i64 (lo : Nat) ∧ v = .int .i64 (hi : Nat) ∧ wx = W)
  case first =>
    as_aux_lemma =>
      by_cases hMm : M < m
      · have hl := HLO.out
        have hh := HHI.out
        rw [if_pos hMm] at hl hh
        subst hh
        have kl : (N : Int) - (b : Int) = (lo : Int) := by have := HPN.out; omega
        clear hl
        go_wp2_with fail
        go_meet
        exact ⟨rfl, rfl, rfl⟩
      · have hl := HLO.out
        have hh := HHI.out
        rw [if_neg hMm] at hl hh
        subst hl hh
        go_wp2_with fail
        go_meet
        exact ⟨rfl, rfl, rfl⟩
  case rest =>
  obtain ⟨rfl, rfl, rfl⟩ := hcut
  clear HLO HHI
  go_wp2_with fail
  go_loopw [20, 21, 23] (fun u v _ wr => ∃ (i j k : Nat), lo ≤ i ∧ i ≤ j ∧ j ≤ hi ∧ j - i ≤ k ∧ u = .int .i64 i ∧ v = .int .i64 j ∧ bsF (fun c => !ltP d[p - c]! d[c]!) k i j = s ∧ PrW w0 g d wr) (fun u v _ _ => (intOf v - intOf u).toNat)
  case atStart => exact ⟨lo, hi, hi - lo, Nat.le_refl _, hb0, Nat.le_refl _, Nat.le_refl _, rfl, rfl, HSS.out.symm, HP.out⟩
  case round =>
    obtain ⟨i, j, k, hmi, hij, hjb, hk, rfl, rfl, hE, hPr⟩ := hrel
    have HE := Lib.hid hE
    have HPR := Lib.hid hPr
    clear hE hPr
    by_cases hlt : i < j
    · obtain ⟨h, hh⟩ : ∃ h, h = (i + j) / 2 := ⟨_, rfl⟩
      have hh2 : ((i : Int) + (j : Int)) / 2 = (h : Int) := by omega
      have hh3 : (h : Int) < (n : Int) := by omega
      have hih : i ≤ h := by omega
      have hhj : h < j := by omega
      obtain ⟨k, rfl⟩ : ∃ k', k = k' + 1 := ⟨k - 1, by omega⟩
      have HY := Lib.hid (bsF_yes (fun c => !ltP d[p - c]! d[c]!) k i j hlt)
      have HNO := Lib.hid (bsF_no (fun c => !ltP d[p - c]! d[c]!) k i j hlt)
      rw [← hh] at HY HNO
      have HH := Lib.hid hh
      clear hh
      obtain ⟨v, hv⟩ : ∃ v, p - h = v := ⟨_, rfl⟩
      rw [hv] at HY HNO
      have hv2 : (p : Int) - (h : Int) = (v : Int) := by omega
      have hv3 : (v : Int) < (n : Int) := by omega
      have hwv : IntKind.i64.wrap (v : Int) = (v : Int) := by rw [IntKind.wrap_i64]; omega
      have hwp : IntKind.i64.wrap ((p : Int) - (h : Int)) = (v : Int) := by rw [hv2]; exact hwv
      clear hv
      have C := Lib.hid (fun (kk : Nat) (os : Array Obj) => cmpR d[v]! d[h]! (grow (wr.drewN kk) os))
      have q0 := fun (kk : Nat) (os : Array Obj) => (HPR.out.grow kk os).c0 (v) (by have := HN.out; omega)
      have q1 := fun (kk : Nat) (os : Array Obj) => (HPR.out.grow kk os).c1 (v) (by have := HN.out; omega)
      have q2 := fun (kk : Nat) (os : Array Obj) => (HPR.out.grow kk os).c0 (h) (by have := HN.out; omega)
      have q3 := fun (kk : Nat) (os : Array Obj) => (HPR.out.grow kk os).c1 (h) (by have := HN.out; omega)
      have HLT := Lib.hid (cmpLtR d[v]! d[h]!)
      have HGW := Lib.hid HPR.out.grow
      cases hl : ltP d[v]! d[h]! with
      | true =>
        as_aux_lemma =>
          have hlz : Frac.cmpI d[h]!.2 d[v]!.2 < 0 := by rw [HLT.out]; exact hl
          have hnz : decide (Frac.cmpI d[h]!.2 d[v]!.2 < 0) = true := decide_eq_true hlz
          have HE2 := Lib.hid ((HNO.out (by simp only [hl]; rfl)).symm.trans HE.out)
          clear HY HNO HLT hl
          generalize d[h]! = x at *
          generalize d[v]! = y at *
          go_wp2_with fail
          go_quiet_grown ((go_at_call 102; refine Calls.grown_of (C.out _ _)))
          have HPQ := Lib.hid (HGW.out nq osq)
          clear q0 q1 q2 q3 C HGW
          generalize grow (wr.drewN nq) osq = wq at *
          go_wp2_with fail
          go_roundw
          case rel => exact ⟨i, h, k, by omega, by omega, by omega, by have := HH.out; omega, rfl, rfl, HE2.out, HPQ.out⟩
          case measure => simp [intOf]; omega
      | false =>
        as_aux_lemma =>
          have hlz : ¬ (Frac.cmpI d[h]!.2 d[v]!.2 < 0) := by rw [HLT.out, hl]; simp
          have hnz : decide (Frac.cmpI d[h]!.2 d[v]!.2 < 0) = false := decide_eq_false hlz
          have HE2 := Lib.hid ((HY.out (by simp only [hl]; rfl)).symm.trans HE.out)
          clear HY HNO HLT hl
          generalize d[h]! = x at *
          generalize d[v]! = y at *
          go_wp2_with fail
          go_quiet_grown ((go_at_call 102; refine Calls.grown_of (C.out _ _)))
          have HPQ := Lib.hid (HGW.out nq osq)
          clear q0 q1 q2 q3 C HGW
          generalize grow (wr.drewN nq) osq = wq at *
          go_wp2_with fail
          go_roundw
          case rel => exact ⟨h + 1, j, k, by omega, by omega, by omega, by have := HH.out; omega, by go_num, rfl, HE2.out, HPQ.out⟩
          case measure => simp [intOf]; omega
    · as_aux_lemma =>
        obtain rfl : i = s := (bsF_end _ _ _ _ hlt).symm.trans HE.out
        have ke : (N : Int) - (i : Int) = (e2 : Int) := by have := HE2.out; omega
        clear HE HSS HP HQ hmi hk hb0 hb1 hb2 hb3 hb4 hb5
        go_upto_region 39 with (fail)
        go_cut [185] (fun u wx => u = .bool (decide (i < m ∧ m < e2)) ∧ PrW w0 g d wx)
        case first =>
          as_aux_lemma =>
            by_cases c1 : i < m
            · by_cases c2 : m < e2
              · have hd : decide (i < m ∧ m < e2) = true := decide_eq_true ⟨c1, c2⟩
                have HD := Lib.hid hd
                clear hd
                go_wp2_with fail
                go_meet
                exact ⟨by rw [HD.out], HPR.out⟩
              · have hd : decide (i < m ∧ m < e2) = false := decide_eq_false (fun h => c2 h.2)
                have HD := Lib.hid hd
                clear hd
                go_wp2_with fail
                go_meet
                exact ⟨by rw [HD.out], HPR.out⟩
            · have hd : decide (i < m ∧ m < e2) = false := decide_eq_false (fun h => c1 h.1)
              have HD := Lib.hid hd
              clear hd
              go_wp2_with fail
              go_meet
              exact ⟨by rw [HD.out], HPR.out⟩
        case rest =>
        obtain ⟨rfl, hPc⟩ := hcut
        clear HPR
        have HPC := Lib.hid hPc
        clear hPc
        go_upto_if 185 with (fail)
        go_cut [] (fun wx => PrW w0 g d1 wx)
        case first =>
          as_aux_lemma =>
            by_cases c : i < m ∧ m < e2
            · have hd : decide (i < m ∧ m < e2) = true := decide_eq_true c
              have hdd := HD1.out
              rw [if_pos c] at hdd
              obtain ⟨c1, c2⟩ := c
              have C := Lib.hid (rotR g n cap i m e2 (.func (.func 102) #[] #[]) d w0 _ HPC.out HN.out hn1 c1 c2 (by omega))
              clear HD1
              rw [hd]
              clear hd
              go_wp2_with fail
              with_reducible refine C.out.mono ?_
              rintro e w2 ⟨rfl, hP2⟩
              rw [hdd] at hP2
              have HP2 := Lib.hid hP2
              clear hP2 C hdd
              go_wp2_with fail
              go_meet
              exact HP2.out
            · have hdd := HD1.out
              rw [if_neg c] at hdd
              rw [decide_eq_false c]
              rw [hdd] at HPC
              clear HD1 hdd
              go_wp2_with fail
              go_meet
              exact HPC.out
        case rest =>
        have HPR := Lib.hid hcut
        clear hcut HPC
        go_upto_region 41 with (fail)
        go_cut [199] (fun u wx => u = .bool (decide (a < i ∧ i < M)) ∧ PrW w0 g d1 wx)
        case first =>
          as_aux_lemma =>
            by_cases c1 : a < i
            · by_cases c2 : i < M
              · have hd : decide (a < i ∧ i < M) = true := decide_eq_true ⟨c1, c2⟩
                have HD := Lib.hid hd
                clear hd
                go_wp2_with fail
                go_meet
                exact ⟨by rw [HD.out], HPR.out⟩
              · have hd : decide (a < i ∧ i < M) = false := decide_eq_false (fun h => c2 h.2)
                have HD := Lib.hid hd
                clear hd
                go_wp2_with fail
                go_meet
                exact ⟨by rw [HD.out], HPR.out⟩
            · have hd : decide (a < i ∧ i < M) = false := decide_eq_false (fun h => c1 h.1)
              have HD := Lib.hid hd
              clear hd
              go_wp2_with fail
              go_meet
              exact ⟨by rw [HD.out], HPR.out⟩
        case rest =>
        obtain ⟨rfl, hPc⟩ := hcut
        clear HPR
        have HPC := Lib.hid hPc
        clear hPc
        go_upto_if 199 with (fail)
        go_cut [] (fun wx => PrW w0 g d2 wx)
        case first =>
          as_aux_lemma =>
            by_cases c : a < i ∧ i < M
            · have hd : decide (a < i ∧ i < M) = true := decide_eq_true c
              have hdd := HD2.out
              rw [if_pos c] at hdd
              obtain ⟨c1, c2⟩ := c
              have C := Lib.hid (IH.out g n cap a i M d1 w0 _ HPC.out HD1S.out hn1 c1 c2 (by omega) (by omega))
              clear HD2
              rw [hd]
              clear hd
              go_wp2_with fail
              with_reducible refine C.out.mono ?_
              rintro e w2 ⟨rfl, hP2⟩
              rw [hdd] at hP2
              have HP2 := Lib.hid hP2
              clear hP2 C hdd
              go_wp2_with fail
              go_meet
              exact HP2.out
            · have hdd := HD2.out
              rw [if_neg c] at hdd
              rw [decide_eq_false c]
              rw [hdd] at HPC
              clear HD2 hdd
              go_wp2_with fail
              go_meet
              exact HPC.out
        case rest =>
        have HPR := Lib.hid hcut
        clear hcut HPC
        go_upto_region 43 with (fail)
        go_cut [213] (fun u wx => u = .bool (decide (M < e2 ∧ e2 < b)) ∧ PrW w0 g d2 wx)
        case first =>
          as_aux_lemma =>
            by_cases c1 : M < e2
            · by_cases c2 : e2 < b
              · have hd : decide (M < e2 ∧ e2 < b) = true := decide_eq_true ⟨c1, c2⟩
                have HD := Lib.hid hd
                clear hd
                go_wp2_with fail
                go_meet
                exact ⟨by rw [HD.out], HPR.out⟩
              · have hd : decide (M < e2 ∧ e2 < b) = false := decide_eq_false (fun h => c2 h.2)
                have HD := Lib.hid hd
                clear hd
                go_wp2_with fail
                go_meet
                exact ⟨by rw [HD.out], HPR.out⟩
            · have hd : decide (M < e2 ∧ e2 < b) = false := decide_eq_false (fun h => c1 h.1)
              have HD := Lib.hid hd
              clear hd
              go_wp2_with fail
              go_meet
              exact ⟨by rw [HD.out], HPR.out⟩
        case rest =>
        obtain ⟨rfl, hPc⟩ := hcut
        clear HPR
        have HPC := Lib.hid hPc
        clear hPc
        as_aux_lemma =>
          by_cases c : M < e2 ∧ e2 < b
          · have hd : decide (M < e2 ∧ e2 < b) = true := decide_eq_true c
            have hdd := HD3.out
            rw [if_pos c] at hdd
            obtain ⟨c1, c2⟩ := c
            have C := Lib.hid (IH.out g n cap M e2 b d2 w0 _ HPC.out HD2S.out hn1 c1 c2 (by omega) (by omega))
            clear HD3
            rw [hd]
            clear hd
            go_wp2_with fail
            with_reducible refine C.out.mono ?_
            rintro e w2 ⟨rfl, hP2⟩
            rw [hdd] at hP2
            have HP2 := Lib.hid hP2
            clear hP2 C hdd
            go_wp2_with fail
            go_end0
            exact ⟨rfl, HP2.out⟩
          · have hdd := HD3.out
            rw [if_neg c] at hdd
            rw [decide_eq_false c]
            rw [hdd] at HPC
            clear HD3 hdd
            go_wp2_with fail
            go_end0
            exact ⟨rfl, HPC.out⟩
theorem symR (f : Nat) : ∀ (g n cap a m b : Nat) (d : Array Pc) (w0 W : World), PrW w0 g d W → d.size = n → n ≤ 100000 → a < m → m < b → b ≤ n → b - a ≤ f →
    Calls Tryz.prog 134 #[.slice (some ⟨g, 0, none⟩) n cap, .int .i64 a, .int .i64 m, .int .i64 b, .func (.func 102) #[] #[]] W fun e w' => e = .returned (.tuple #[]) ∧ PrW w0 g (symF ltP f d a m b) w' := by
  induction f with
  | zero => intro g n cap a m b d w0 W h hn hn1 ham hmb hb hf; omega
  | succ f ih =>
    intro g n cap a m b d w0 W h hn hn1 ham hmb hb hf
    by_cases h1 : m - a = 1
    · exact symAR g n cap a m b f d w0 W h hn hn1 ham hmb hb hf h1
    · by_cases h2 : b - m = 1
      · exact symBR g n cap a m b f d w0 W h hn hn1 ham hmb hb hf h1 h2
      · exact symCR g n cap a m b f d w0 W h hn hn1 ham hmb hb hf h1 h2 ih
end Go.Proofs.YtdefjnefkdemiaaGreatDoor
