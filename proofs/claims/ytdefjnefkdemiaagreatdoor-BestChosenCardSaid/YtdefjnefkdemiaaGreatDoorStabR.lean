/- slices.SortStableFunc at the pieces of handbill/handref1.piece: what it leaves is the plain function 'stable' (printed by gen_stab.py). -/
import Derived.Test.YtdefjnefkdemiaaGreatDoorPcW
import Derived.Deep.DeepCutAuto
set_option linter.unusedVariables false
namespace Go.Proofs.YtdefjnefkdemiaaGreatDoor
open Go.RowKit Go.Sort

set_option maxRecDepth 100000 in
set_option maxHeartbeats 4000000 in
theorem swRR (g n cap a b k : Nat) (fv : Value) (d : Array Pc) (w0 W : World) (h : PrW w0 g d W) (hn : d.size = n) (hn1 : n ≤ 100000) (hab : a ≠ b) (ha : a + k ≤ n) (hb : b + k ≤ n) :
    Calls Tryz.prog 156 #[.slice (some ⟨g, 0, none⟩) n cap, .int .i64 a, .int .i64 b, .int .i64 k, fv] W fun e w' => e = .returned (.tuple #[]) ∧ PrW w0 g (swR a b k d) w' := by
  have HN := Lib.hid hn
  have HP := Lib.hid h
  clear hn h
  go_enter Tryz.func156, Tryz.ntmps156
  go_wp2_with fail
  go_loopw [10] (fun i wr => ∃ q : Nat, q ≤ k ∧ i = .int .i64 q ∧ PrW w0 g (swR a b q d) wr) (fun i _ => k - (intOf i).toNat)
  case atStart => exact ⟨0, Nat.zero_le _, rfl, HP.out⟩
  case round =>
    obtain ⟨q, hq, rfl, hR⟩ := hrel
    by_cases hlt : q < k
    · have hsz : (swR a b q d).size = n := (size_swR a b q d).trans HN.out
      have hS := (hR.swap (a + q) (b + q) (by omega) (by omega)).drew
      rw [show swp (swR a b q d) (a + q) (b + q) = swR a b (q + 1) d from rfl] at hS
      have i0 := hR.c0 (a + q) (by omega)
      have i1 := hR.c1 (a + q) (by omega)
      have j0 := hR.c0 (b + q) (by omega)
      have j1 := hR.c1 (b + q) (by omega)
      have zi0 := hR.f0 (a + q) (by omega)
      have zi1 := hR.f1 (a + q) (by omega)
      have zj0 := hR.f0 (b + q) (by omega)
      have zj1 := hR.f1 (b + q) (by omega)
      have HS := Lib.hid hS
      clear hS hR hsz
      generalize (swR a b q d)[a + q]! = x at *
      generalize (swR a b q d)[b + q]! = y at *
      have n00 : ¬ (a + q) * 2 = (b + q) * 2 := by omega
      have n01 : ¬ (a + q) * 2 = (b + q) * 2 + 1 := by omega
      have n10 : ¬ (a + q) * 2 + 1 = (b + q) * 2 := by omega
      go_wp2_with fail
      go_big_region
      go_wp2_with fail
      go_roundw
      case rel => exact ⟨q + 1, by omega, by go_num, HS.out⟩
      case measure => simp [intOf]; omega
    · obtain rfl : q = k := by omega
      have HR := Lib.hid hR
      clear hR
      go_wp2_with fail
      go_end0
      exact ⟨rfl, HR.out⟩
set_option maxRecDepth 100000 in
set_option maxHeartbeats 4000000 in
theorem rotR (g n cap a m b : Nat) (fv : Value) (d : Array Pc) (w0 W : World) (h : PrW w0 g d W) (hn : d.size = n) (hn1 : n ≤ 100000) (ham : a < m) (hmb : m < b) (hb : b ≤ n) :
    Calls Tryz.prog 148 #[.slice (some ⟨g, 0, none⟩) n cap, .int .i64 a, .int .i64 m, .int .i64 b, fv] W fun e w' => e = .returned (.tuple #[]) ∧ PrW w0 g (rotF (b - a) d m (m - a) (b - m)) w' := by
  have HN := Lib.hid hn
  have HP := Lib.hid h
  obtain ⟨R, hR⟩ : ∃ R, rotF (b - a) d m (m - a) (b - m) = R := ⟨_, rfl⟩
  rw [hR]
  have HR := Lib.hid hR
  clear hn h hR
  go_enter Tryz.func148, Tryz.ntmps148
  go_wp2_with fail
  go_loopw [10, 11] (fun u v wr => ∃ (i j f : Nat) (d' : Array Pc), 0 < i ∧ 0 < j ∧ i ≤ m - a ∧ j ≤ b - m ∧ i + j ≤ f ∧ u = .int .i64 i ∧ v = .int .i64 j ∧ d'.size = n ∧ rotF f d' m i j = R ∧ PrW w0 g d' wr) (fun u v _ => (intOf u).toNat + (intOf v).toNat)
  case atStart => exact ⟨m - a, b - m, b - a, d, by omega, by omega, Nat.le_refl _, Nat.le_refl _, by omega, by go_num, by go_num, HN.out, HR.out, HP.out⟩
  case round =>
    obtain ⟨i, j, f, d', hi, hj, hi0, hj0, hf, rfl, rfl, hd', hE, hP⟩ := hrel
    have HD := Lib.hid hd'
    have HE := Lib.hid hE
    obtain ⟨f, rfl⟩ : ∃ f', f = f' + 1 := ⟨f - 1, by omega⟩
    obtain ⟨p, hp⟩ : ∃ p, p = m - i := ⟨_, rfl⟩
    have hp1 : (m : Int) - (i : Int) = (p : Int) := by omega
    have hpi : p + i = m := by omega
    have HPI := Lib.hid hpi
    have hpa : a ≤ p := by omega
    have HPM := Lib.hid hp
    by_cases heq : i = j
    · subst heq
      have C := Lib.hid (swRR g n cap p m i fv d' w0 _ hP hd' hn1 (by omega) (by omega) (by omega))
      clear hP hd' hp hpi hE
      go_wp2_with fail
      with_reducible refine C.out.mono ?_
      rintro e w2 ⟨rfl, hP2⟩
      have HP2 := Lib.hid hP2
      clear hP2 C
      go_wp2_with fail
      go_end0
      refine ⟨rfl, ?_⟩
      rw [← HE.out, rotF_eq, ← HPM.out]
      exact HP2.out
    · have hneq : ((i : Int) != (j : Int)) = true := by simp only [bne_iff_ne, ne_eq]; omega
      by_cases hgt : j < i
      · have C := Lib.hid (swRR g n cap p m j fv d' w0 _ hP hd' hn1 (by omega) (by omega) (by omega))
        clear hP hd' hp hpi hE
        go_wp2_with fail
        with_reducible refine C.out.mono ?_
        rintro e w2 ⟨rfl, hP2⟩
        have HP2 := Lib.hid hP2
        clear hP2 C
        go_wp2_with fail
        go_roundw
        case rel =>
          refine ⟨i - j, j, f, swR p m j d', by omega, by omega, by omega, by omega, by omega, by go_num, rfl, (size_swR _ _ _ _).trans HD.out, ?_, HP2.out⟩
          rw [← HE.out, rotF_gt _ _ _ _ _ hgt, ← HPM.out]
        case measure => simp [intOf]; omega
      · have hlt : i < j := by omega
        obtain ⟨q, hq⟩ : ∃ q, q = m + j - i := ⟨_, rfl⟩
        have hq1 : (m : Int) + (j : Int) - (i : Int) = (q : Int) := by omega
        have HQM := Lib.hid hq
        have C := Lib.hid (swRR g n cap p q i fv d' w0 _ hP hd' hn1 (by omega) (by omega) (by omega))
        clear hP hd' hp hpi hE hq
        go_wp2_with fail
        with_reducible refine C.out.mono ?_
        rintro e w2 ⟨rfl, hP2⟩
        have HP2 := Lib.hid hP2
        clear hP2 C
        go_wp2_with fail
        go_roundw
        case rel =>
          refine ⟨i, j - i, f, swR p q i d', by omega, by omega, by omega, by omega, by omega, rfl, by go_num, (size_swR _ _ _ _).trans HD.out, ?_, HP2.out⟩
          rw [← HE.out, rotF_lt _ _ _ _ _ hlt, ← HPM.out, ← HQM.out]
        case measure => simp [intOf]; omega

set_option maxRecDepth 100000 in
set_option maxHeartbeats 4000000 in
theorem cmpR (x y : Pc) (w : World) :
    Calls Tryz.prog 102 #[.agg #[.int .i64 x.1, .int .i64 x.2], .agg #[.int .i64 y.1, .int .i64 y.2]] w fun e w' => e = .returned (.int .i64 (Frac.cmpI y.2 x.2)) ∧ ∃ q os, w' = grow (w.drewN q) os := by
  have HG := Lib.hid (grow_of_allocs w (.cells #[.int .i64 x.1, .int .i64 x.2] 127) (.cells #[.int .i64 y.1, .int .i64 y.2] 127))
  obtain ⟨x1, x2⟩ := x
  obtain ⟨y1, y2⟩ := y
  simp only at HG
  go_enter Tryz.func102, Tryz.ntmps102
  go_wp2_with fail
  with_reducible refine (compare_int _ _ _).mono ?_
  rintro e w1 ⟨rfl, rfl⟩
  go_wp2_with fail
  go_ret
  exact ⟨rfl, HG.out⟩
theorem cmpLtR (x y : Pc) : (Frac.cmpI y.2 x.2 < 0) = (ltP x y = true) := by
  unfold Frac.cmpI ltP
  by_cases h : y.2 < x.2
  · simp [h]
  · rw [if_neg h]
    split <;> simp [h]

set_option maxRecDepth 100000 in
set_option maxHeartbeats 8000000 in
theorem insR (g n cap a b : Nat) (d : Array Pc) (w0 W : World) (h : PrW w0 g d W) (hn : d.size = n) (hn1 : n ≤ 100000) (hab : a ≤ b) (hb : b ≤ n) :
    Calls Tryz.prog 133 #[.slice (some ⟨g, 0, none⟩) n cap, .int .i64 a, .int .i64 b, .func (.func 102) #[] #[]] W fun e w' => e = .returned (.tuple #[]) ∧ PrW w0 g (insertionSort ltP d a b) w' := by
  have mixed : Tryz.prog.follows .mixedOrders = true := by kernel_rfl
  have HN := Lib.hid hn
  have HP := Lib.hid h
  obtain ⟨R, hR⟩ : ∃ R, insertionSort ltP d a b = R := ⟨_, rfl⟩
  rw [hR]
  have HR := Lib.hid hR
  clear hn h hR
  go_enter Tryz.func133, Tryz.ntmps133
  go_wp2_with fail
  go_loopw [8, 9] (fun u _ wr => ∃ (i : Nat) (d' : Array Pc), a < i ∧ i ≤ b + 1 ∧ u = .int .i64 i ∧ d'.size = n ∧ insOuter ltP a b i d' = R ∧ PrW w0 g d' wr) (fun u _ _ => b + 1 - (intOf u).toNat)
  case atStart => exact ⟨a + 1, d, by omega, by omega, by go_num, HN.out, HR.out, HP.out⟩
  case round =>
    obtain ⟨i, d', hai, hib, rfl, hd', hE, hP⟩ := hrel
    have HD := Lib.hid hd'
    have HE := Lib.hid hE
    have HPR := Lib.hid hP
    clear hd' hE hP
    by_cases hlt : i < b
    · have HE2 := Lib.hid ((insOuter_go ltP a b i d' hlt).symm.trans HE.out)
      obtain ⟨RI, hRI⟩ : ∃ RI, insInner ltP a i d' = RI := ⟨_, rfl⟩
      rw [hRI] at HE2
      have HRI := Lib.hid hRI
      clear hRI
      go_wp2_with fail
      go_loopw [9] (fun v wx => ∃ (j : Nat) (dj : Array Pc), a ≤ j ∧ j ≤ i ∧ v = .int .i64 j ∧ dj.size = n ∧ insInner ltP a j dj = RI ∧ PrW w0 g dj wx) (fun v _ => (intOf v).toNat)
      case atStart => exact ⟨i, d', by omega, Nat.le_refl _, rfl, HD.out, HRI.out, HPR.out⟩
      case round =>
        obtain ⟨j, dj, haj, hji, rfl, hdj, hEj, hPj⟩ := hrel
        have HDJ := Lib.hid hdj
        have HEJ := Lib.hid hEj
        have HPJ := Lib.hid hPj
        clear hdj hEj hPj
        by_cases hja : a < j
        · obtain ⟨p, rfl⟩ : ∃ p, j = p + 1 := ⟨j - 1, by omega⟩
          have hjs : p + 1 < n := by omega
          have hsz := HDJ.out
          have C := Lib.hid (fun (m : Nat) (os : Array Obj) => cmpR dj[p + 1]! dj[p]! (grow (wr.drewN m) os))
          have q0 := fun (m : Nat) (os : Array Obj) => (HPJ.out.grow m os).c0 (p + 1) (by omega)
          have q1 := fun (m : Nat) (os : Array Obj) => (HPJ.out.grow m os).c1 (p + 1) (by omega)
          have q2 := fun (m : Nat) (os : Array Obj) => (HPJ.out.grow m os).c0 p (by omega)
          have q3 := fun (m : Nat) (os : Array Obj) => (HPJ.out.grow m os).c1 p (by omega)
          have hwp : IntKind.i64.wrap ((p : Int) + 1 - 1) = (p : Int) := by rw [IntKind.wrap_i64]; omega
          have hwp2 : IntKind.i64.wrap (p : Int) = (p : Int) := by rw [IntKind.wrap_i64]; omega
          have hja' : (a : Int) < (p : Int) + 1 := by omega
          have hjz : (p : Int) + 1 < (n : Int) := by omega
          have hjz1 : (p : Int) < (n : Int) := by omega
          have e0 : ((p : Int) + 1).toNat = p + 1 := by omega
          have p0 : (0 : Int) ≤ (p : Int) + 1 := by omega
          have HLT := Lib.hid (cmpLtR dj[p + 1]! dj[p]!)
          clear hsz
          by_cases hl : ltP dj[p + 1]! dj[p]! = true
          · have hlz : Frac.cmpI dj[p]!.2 dj[p + 1]!.2 < 0 := by have := cmpLtR dj[p + 1]! dj[p]!; rw [this]; exact hl
            have HSW := Lib.hid (fun W (hW : PrW w0 g dj W) => (hW.swap (p + 1) p (by have := HDJ.out; omega) (by have := HDJ.out; omega)).drew)
            have HGO := Lib.hid ((insInner_go ltP a (p + 1) dj hja (by simpa using hl)).symm.trans HEJ.out)
            have Hq := Lib.hid HPJ.out.grow
            clear HLT hl
            generalize hxx : dj[p + 1]! = x at *
            generalize hyy : dj[p]! = y at *
            have HX := Lib.hid hxx
            have HY := Lib.hid hyy
            clear hxx hyy
            go_wp2_with fail
            go_quiet_grown ((go_at_call 102; refine Calls.grown_of (C.out _ _)))
            have hPq := Hq.out nq osq
            clear q0 q1 q2 q3 C
            generalize grow (wr.drewN nq) osq = wq at *
            have hsz := HDJ.out
            have i0 := hPq.cx (p + 1) (by omega) HX.out
            have i1 := hPq.cy (p + 1) (by omega) HX.out
            have j0 := hPq.cx p (by omega) HY.out
            have j1 := hPq.cy p (by omega) HY.out
            have zi0 := hPq.f0 (p + 1) (by omega)
            have zi1 := hPq.f1 (p + 1) (by omega)
            have zj0 := hPq.f0 p (by omega)
            have zj1 := hPq.f1 p (by omega)
            have HSW2 := Lib.hid (HSW.out _ hPq)
            clear hPq hsz HSW
            have n00 : ¬ (p + 1) * 2 = p * 2 := by omega
            have n01 : ¬ (p + 1) * 2 = p * 2 + 1 := by omega
            have n10 : ¬ (p + 1) * 2 + 1 = p * 2 := by omega
            go_wp2_with fail
            go_big_region
            go_wp2_with fail
            go_roundw
            case rel => exact ⟨p, swp dj (p + 1) p, by omega, by omega, by go_num, (size_swp _ _ _).trans HDJ.out, HGO.out, HSW2.out⟩
            case measure => simp [intOf]
          · have hlz : ¬ (Frac.cmpI dj[p]!.2 dj[p + 1]!.2 < 0) := by have := cmpLtR dj[p + 1]! dj[p]!; rw [this]; exact hl
            have HEJ2 := Lib.hid ((insInner_stop ltP a (p + 1) dj (.inr (by simpa using hl))).symm.trans HEJ.out)
            have Hq := Lib.hid HPJ.out.grow
            clear HLT hl
            generalize dj[p + 1]! = x at *
            generalize dj[p]! = y at *
            go_wp2_with fail
            go_quiet_grown ((go_at_call 102; refine Calls.grown_of (C.out _ _)))
            have HPQ := Lib.hid (Hq.out nq osq)
            clear q0 q1 q2 q3 C Hq
            generalize grow (wr.drewN nq) osq = wq at *
            go_wp2_with fail
            go_roundw
            case rel => exact ⟨i + 1, dj, by omega, by omega, by go_num, HDJ.out, by rw [HEJ2.out]; exact HE2.out, HPQ.out⟩
            case measure => simp [intOf]; omega
        · obtain rfl : j = a := by omega
          have hnj : decide ((j : Int) > (j : Int)) = false := decide_eq_false (by omega)
          have HEJ2 := Lib.hid ((insInner_stop ltP j j dj (.inl (Nat.le_refl _))).symm.trans HEJ.out)
          have HPD := Lib.hid HPJ.out.drew
          go_wp2_with fail
          go_big_region
          all_goals go_wp2_with fail
          go_roundw
          case rel => exact ⟨i + 1, dj, by omega, by omega, by go_num, HDJ.out, by rw [HEJ2.out]; exact HE2.out, HPD.out⟩
          case measure => simp [intOf]; omega
    · have HE2 := Lib.hid ((insOuter_stop ltP a b i d' hlt).symm.trans HE.out)
      go_wp2_with fail
      go_end0
      exact ⟨rfl, by rw [← HE2.out]; exact HPR.out⟩
end Go.Proofs.YtdefjnefkdemiaaGreatDoor
