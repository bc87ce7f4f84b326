/- slices.SortStableFunc at the pieces of handbill/offer.piece, its merges (printed by gen_stab.py). -/
import Derived.Test.YtdefjnefkdemiaaGreatDoorStabO
import Derived.Deep.CutBlock
import Derived.Deep.DeepCutAuto
set_option linter.unusedVariables false
namespace Go.Proofs.YtdefjnefkdemiaaGreatDoor
open Go.RowKit Go.Sort

set_option maxRecDepth 100000 in
set_option maxHeartbeats 8000000 in
theorem symAO (g n cap a m b f : Nat) (d : Array Pc) (w0 W : World) (h : PrW w0 g d W) (hn : d.size = n) (hn1 : n ≤ 100000) (ham : a < m) (hmb : m < b) (hb : b ≤ n) (hf : b - a ≤ f + 1) (h1 : m - a = 1) :
    Calls Tryz.prog 140 #[.slice (some ⟨g, 0, none⟩) n cap, .int .i64 a, .int .i64 m, .int .i64 b, .func (.func 115) #[] #[]] W fun e w' => e = .returned (.tuple #[]) ∧ PrW w0 g (symF ltP (f + 1) d a m b) w' := by
  have mixed : Tryz.prog.follows .mixedOrders = true := by kernel_rfl
  have HN := Lib.hid hn
  have HP := Lib.hid h
  have HQ := Lib.hid h.grow
  clear hn h
  have HR : Hid (symF ltP (f + 1) d a m b = mvU a (bsF (fun h => ltP d[h]! d[a]!) (b - m) m b - 1 - a) d) := Lib.hid (by rw [symF, if_pos h1])
  rw [HR.out]
  clear HR
  have hm1 : ((m : Int) - (a : Int) == 1) = true := by simp; omega
  have h1a : m = a + 1 := by omega
  have h1b : m ≤ a + 1 := by omega
  clear h1 h1a
  obtain ⟨s, hs⟩ : ∃ s, bsF (fun h => ltP d[h]! d[a]!) (b - m) m b = s := ⟨_, rfl⟩
  rw [hs]
  have HS := Lib.hid hs
  have hsb := bsF_in (fun h => ltP d[h]! d[a]!) (b - m) m b (by omega)
  rw [hs] at hsb
  obtain ⟨hs0, hs1⟩ := hsb
  clear hs
  go_enter Tryz.func140, Tryz.ntmps140
  go_wp2_with fail
  go_loopw [10, 11, 12] (fun u v _ wr => ∃ (i j k : Nat), m ≤ i ∧ i ≤ j ∧ j ≤ b ∧ j - i ≤ k ∧ u = .int .i64 i ∧ v = .int .i64 j ∧ bsF (fun h => ltP d[h]! d[a]!) k i j = s ∧ PrW w0 g d wr) (fun u v _ _ => (intOf v - intOf u).toNat)
  case atStart => exact ⟨m, b, b - m, Nat.le_refl _, by omega, Nat.le_refl _, Nat.le_refl _, rfl, rfl, HS.out, HP.out⟩
  case round =>
    obtain ⟨i, j, k, hmi, hij, hjb, hk, rfl, rfl, hE, hPr⟩ := hrel
    have HE := Lib.hid hE
    have HPR := Lib.hid hPr
    clear hE hPr
    by_cases hlt : i < j
    · obtain ⟨h, hh⟩ : ∃ h, h = (i + j) / 2 := ⟨_, rfl⟩
      have hh2 : ((i : Int) + (j : Int)) / 2 = (h : Int) := by omega
      have hh3 : (h : Int) < (n : Int) := by omega
      have hh4 : (a : Int) < (n : Int) := by omega
      have hih : i ≤ h := by omega
      have hhj : h < j := by omega
      obtain ⟨k, rfl⟩ : ∃ k', k = k' + 1 := ⟨k - 1, by omega⟩
      have HY := Lib.hid (bsF_yes (fun h => ltP d[h]! d[a]!) k i j hlt)
      have HNO := Lib.hid (bsF_no (fun h => ltP d[h]! d[a]!) k i j hlt)
      rw [← hh] at HY HNO
      have HH := Lib.hid hh
      clear hh
      have C := Lib.hid (fun (kk : Nat) (os : Array Obj) => cmpO d[h]! d[a]! (grow (wr.drewN kk) os))
      have q0 := fun (kk : Nat) (os : Array Obj) => (HPR.out.grow kk os).c0 (h) (by have := HN.out; omega)
      have q1 := fun (kk : Nat) (os : Array Obj) => (HPR.out.grow kk os).c1 (h) (by have := HN.out; omega)
      have q2 := fun (kk : Nat) (os : Array Obj) => (HPR.out.grow kk os).c0 (a) (by have := HN.out; omega)
      have q3 := fun (kk : Nat) (os : Array Obj) => (HPR.out.grow kk os).c1 (a) (by have := HN.out; omega)
      have HLT := Lib.hid (cmpLtO d[h]! d[a]!)
      have HGW := Lib.hid HPR.out.grow
      cases hl : ltP d[h]! d[a]! with
      | true =>
        have hlz : Frac.cmpI d[a]!.2 d[h]!.2 < 0 := by rw [HLT.out]; exact hl
        have HE2 := Lib.hid ((HY.out hl).symm.trans HE.out)
        clear HY HNO HLT hl
        generalize d[h]! = x at *
        generalize d[a]! = y at *
        go_wp2_with fail
        go_quiet_grown ((go_at_call 115; refine Calls.grown_of (C.out _ _)))
        have HPQ := Lib.hid (HGW.out nq osq)
        clear q0 q1 q2 q3 C HGW
        generalize grow (wr.drewN nq) osq = wq at *
        go_wp2_with fail
        go_roundw
        case rel => exact ⟨h + 1, j, k, by omega, by omega, by omega, by have := HH.out; omega, by go_num, rfl, HE2.out, HPQ.out⟩
        case measure => simp [intOf]; omega
      | false =>
        have hlz : ¬ (Frac.cmpI d[a]!.2 d[h]!.2 < 0) := by rw [HLT.out, hl]; simp
        have HE2 := Lib.hid ((HNO.out hl).symm.trans HE.out)
        clear HY HNO HLT hl
        generalize d[h]! = x at *
        generalize d[a]! = y at *
        go_wp2_with fail
        go_quiet_grown ((go_at_call 115; refine Calls.grown_of (C.out _ _)))
        have HPQ := Lib.hid (HGW.out nq osq)
        clear q0 q1 q2 q3 C HGW
        generalize grow (wr.drewN nq) osq = wq at *
        go_wp2_with fail
        go_roundw
        case rel => exact ⟨i, h, k, by omega, by omega, by omega, by have := HH.out; omega, rfl, rfl, HE2.out, HPQ.out⟩
        case measure => simp [intOf]; omega
    · obtain rfl : i = s := (bsF_end _ _ _ _ hlt).symm.trans HE.out
      obtain ⟨z, hz⟩ : ∃ z, z = i - 1 - a := ⟨_, rfl⟩
      have hz2 : i ≤ a + z + 1 := by omega
      have hz3 : a + z + 1 ≤ i := by omega
      have HZ := Lib.hid hz
      clear hz
      go_wp2_with fail
      go_loopw [13] (fun u wr => ∃ q v : Nat, q ≤ z ∧ a + q = v ∧ u = .int .i64 v ∧ PrW w0 g (mvU a q d) wr) (fun u _ => a + z - (intOf u).toNat)
      case atStart => exact ⟨0, a, Nat.zero_le _, rfl, rfl, HPR.out⟩
      case round =>
        obtain ⟨q, v, hq, hv, rfl, hR⟩ := hrel
        by_cases hlq : q < z
        · have hsz : (mvU a q d).size = n := (size_mvU a q d).trans HN.out
          have hS := (hR.swap (a + q) (a + q + 1) (by omega) (by omega)).drew
          rw [show swp (mvU a q d) (a + q) (a + q + 1) = mvU a (q + 1) d from rfl] at hS
          have HS2 := Lib.hid hS
          rw [hv] at HS2
          have i0 := hR.c0 (v) (by have := hsz; omega)
          have i1 := hR.c1 (v) (by have := hsz; omega)
          have j0 := hR.c0 (v + 1) (by have := hsz; omega)
          have j1 := hR.c1 (v + 1) (by have := hsz; omega)
          have zi0 := hR.f0 (v) (by have := hsz; omega)
          have zi1 := hR.f1 (v) (by have := hsz; omega)
          have zj0 := hR.f0 (v + 1) (by have := hsz; omega)
          have zj1 := hR.f1 (v + 1) (by have := hsz; omega)
          have n00 : ¬ (v) * 2 = (v + 1) * 2 := by omega
          have n01 : ¬ (v) * 2 = (v + 1) * 2 + 1 := by omega
          have n10 : ¬ (v) * 2 + 1 = (v + 1) * 2 := by omega
          have HV := Lib.hid hv
          have hvb : v + 1 < n := by omega
          have hvz : (v : Int) + 1 < (n : Int) := by omega
          have hvy : (v : Int) < (n : Int) := by omega
          have hlv : v + 1 < i := by omega
          have e0 : ((v : Int) + 1).toNat = v + 1 := by omega
          have p0 : (0 : Int) ≤ (v : Int) + 1 := by omega
          clear hS hR hsz hv
          generalize (mvU a q d)[v]! = x at *
          generalize (mvU a q d)[v + 1]! = y at *
          go_wp2_with fail
          go_big_region
          go_wp2_with fail
          go_roundw
          case rel => exact ⟨q + 1, v + 1, by omega, by have := HV.out; omega, by go_num, HS2.out⟩
          case measure => have := HV.out; simp [intOf]; omega
        · obtain rfl : q = z := by omega
          have HR : Hid (PrW w0 g (mvU a (i - 1 - a) d) wr) := Lib.hid (by rw [← HZ.out]; exact hR)
          clear hR
          go_wp2_with fail
          refine bodyPost_ret (v := .tuple #[]) (results_none rfl _ _ _) rfl ?_
          exact ⟨rfl, HR.out⟩
set_option maxRecDepth 100000 in
set_option maxHeartbeats 8000000 in
theorem symBO (g n cap a m b f : Nat) (d : Array Pc) (w0 W : World) (h : PrW w0 g d W) (hn : d.size = n) (hn1 : n ≤ 100000) (ham : a < m) (hmb : m < b) (hb : b ≤ n) (hf : b - a ≤ f + 1) (h1 : ¬ m - a = 1) (h2 : b - m = 1) :
    Calls Tryz.prog 140 #[.slice (some ⟨g, 0, none⟩) n cap, .int .i64 a, .int .i64 m, .int .i64 b, .func (.func 115) #[] #[]] W fun e w' => e = .returned (.tuple #[]) ∧ PrW w0 g (symF ltP (f + 1) d a m b) w' := by
  have mixed : Tryz.prog.follows .mixedOrders = true := by kernel_rfl
  have HN := Lib.hid hn
  have HP := Lib.hid h
  have HQ := Lib.hid h.grow
  clear hn h
  have HR : Hid (symF ltP (f + 1) d a m b = mvD m (m - bsF (fun h => !ltP d[m]! d[h]!) (m - a) a m) d) := Lib.hid (by rw [symF, if_neg h1, if_pos h2])
  rw [HR.out]
  clear HR
  have hm1 : ((m : Int) - (a : Int) == 1) = false := by simp; omega
  have hm2 : ((b : Int) - (m : Int) == 1) = true := by simp; omega
  have h2a : b ≤ m + 1 := by omega
  clear h1 h2
  obtain ⟨s, hs⟩ : ∃ s, bsF (fun h => !ltP d[m]! d[h]!) (m - a) a m = s := ⟨_, rfl⟩
  rw [hs]
  have HS := Lib.hid hs
  have hsb := bsF_in (fun h => !ltP d[m]! d[h]!) (m - a) a m (by omega)
  rw [hs] at hsb
  obtain ⟨hs0, hs1⟩ := hsb
  clear hs
  go_enter Tryz.func140, Tryz.ntmps140
  go_wp2_with fail
  go_loopw [14, 15, 16] (fun u v _ wr => ∃ (i j k : Nat), a ≤ i ∧ i ≤ j ∧ j ≤ m ∧ j - i ≤ k ∧ u = .int .i64 i ∧ v = .int .i64 j ∧ bsF (fun h => !ltP d[m]! d[h]!) k i j = s ∧ PrW w0 g d wr) (fun u v _ _ => (intOf v - intOf u).toNat)
  case atStart => exact ⟨a, m, m - a, Nat.le_refl _, by omega, Nat.le_refl _, Nat.le_refl _, rfl, rfl, HS.out, HP.out⟩
  case round =>
    obtain ⟨i, j, k, hmi, hij, hjb, hk, rfl, rfl, hE, hPr⟩ := hrel
    have HE := Lib.hid hE
    have HPR := Lib.hid hPr
    clear hE hPr
    by_cases hlt : i < j
    · obtain ⟨h, hh⟩ : ∃ h, h = (i + j) / 2 := ⟨_, rfl⟩
      have hh2 : ((i : Int) + (j : Int)) / 2 = (h : Int) := by omega
      have hh3 : (h : Int) < (n : Int) := by omega
      have hh4 : (m : Int) < (n : Int) := by omega
      have hih : i ≤ h := by omega
      have hhj : h < j := by omega
      obtain ⟨k, rfl⟩ : ∃ k', k = k' + 1 := ⟨k - 1, by omega⟩
      have HY := Lib.hid (bsF_yes (fun h => !ltP d[m]! d[h]!) k i j hlt)
      have HNO := Lib.hid (bsF_no (fun h => !ltP d[m]! d[h]!) k i j hlt)
      rw [← hh] at HY HNO
      have HH := Lib.hid hh
      clear hh
      have C := Lib.hid (fun (kk : Nat) (os : Array Obj) => cmpO d[m]! d[h]! (grow (wr.drewN kk) os))
      have q0 := fun (kk : Nat) (os : Array Obj) => (HPR.out.grow kk os).c0 (m) (by have := HN.out; omega)
      have q1 := fun (kk : Nat) (os : Array Obj) => (HPR.out.grow kk os).c1 (m) (by have := HN.out; omega)
      have q2 := fun (kk : Nat) (os : Array Obj) => (HPR.out.grow kk os).c0 (h) (by have := HN.out; omega)
      have q3 := fun (kk : Nat) (os : Array Obj) => (HPR.out.grow kk os).c1 (h) (by have := HN.out; omega)
      have HLT := Lib.hid (cmpLtO d[m]! d[h]!)
      have HGW := Lib.hid HPR.out.grow
      cases hl : ltP d[m]! d[h]! with
      | true =>
        have hlz : Frac.cmpI d[h]!.2 d[m]!.2 < 0 := by rw [HLT.out]; exact hl
        have hnz : decide (Frac.cmpI d[h]!.2 d[m]!.2 < 0) = true := decide_eq_true hlz
        have HE2 := Lib.hid ((HNO.out (by simp only [hl]; rfl)).symm.trans HE.out)
        clear HY HNO HLT hl
        generalize d[h]! = x at *
        generalize d[m]! = y at *
        go_wp2_with fail
        go_quiet_grown ((go_at_call 115; refine Calls.grown_of (C.out _ _)))
        have HPQ := Lib.hid (HGW.out nq osq)
        clear q0 q1 q2 q3 C HGW
        generalize grow (wr.drewN nq) osq = wq at *
        go_wp2_with fail
        go_roundw
        case rel => exact ⟨i, h, k, by omega, by omega, by omega, by have := HH.out; omega, rfl, rfl, HE2.out, HPQ.out⟩
        case measure => simp [intOf]; omega
      | false =>
        have hlz : ¬ (Frac.cmpI d[h]!.2 d[m]!.2 < 0) := by rw [HLT.out, hl]; simp
        have hnz : decide (Frac.cmpI d[h]!.2 d[m]!.2 < 0) = false := decide_eq_false hlz
        have HE2 := Lib.hid ((HY.out (by simp only [hl]; rfl)).symm.trans HE.out)
        clear HY HNO HLT hl
        generalize d[h]! = x at *
        generalize d[m]! = y at *
        go_wp2_with fail
        go_quiet_grown ((go_at_call 115; refine Calls.grown_of (C.out _ _)))
        have HPQ := Lib.hid (HGW.out nq osq)
        clear q0 q1 q2 q3 C HGW
        generalize grow (wr.drewN nq) osq = wq at *
        go_wp2_with fail
        go_roundw
        case rel => exact ⟨h + 1, j, k, by omega, by omega, by omega, by have := HH.out; omega, by go_num, rfl, HE2.out, HPQ.out⟩
        case measure => simp [intOf]; omega
    · obtain rfl : i = s := (bsF_end _ _ _ _ hlt).symm.trans HE.out
      obtain ⟨z, hz⟩ : ∃ z, z = m - i := ⟨_, rfl⟩
      have hz2 : m ≤ i + z := by omega
      have hz3 : i + z ≤ m := by omega
      have HZ := Lib.hid hz
      clear hz
      go_wp2_with fail
      go_loopw [17] (fun u wr => ∃ q v : Nat, q ≤ z ∧ v + q = m ∧ u = .int .i64 v ∧ PrW w0 g (mvD m q d) wr) (fun u _ => (intOf u).toNat)
      case atStart => exact ⟨0, m, Nat.zero_le _, rfl, rfl, HPR.out⟩
      case round =>
        obtain ⟨q, v', hq, hv, rfl, hR⟩ := hrel
        by_cases hlq : q < z
        · obtain ⟨v, rfl⟩ : ∃ v, v' = v + 1 := ⟨v' - 1, by omega⟩
          have hsz : (mvD m q d).size = n := (size_mvD m q d).trans HN.out
          have hS := (hR.swap (m - q) (m - q - 1) (by omega) (by omega)).drew
          rw [show swp (mvD m q d) (m - q) (m - q - 1) = mvD m (q + 1) d from rfl, show m - q = v + 1 by omega, show v + 1 - 1 = v from rfl] at hS
          have HS2 := Lib.hid hS
          have i0 := hR.c0 (v + 1) (by have := hsz; omega)
          have i1 := hR.c1 (v + 1) (by have := hsz; omega)
          have j0 := hR.c0 (v) (by have := hsz; omega)
          have j1 := hR.c1 (v) (by have := hsz; omega)
          have zi0 := hR.f0 (v + 1) (by have := hsz; omega)
          have zi1 := hR.f1 (v + 1) (by have := hsz; omega)
          have zj0 := hR.f0 (v) (by have := hsz; omega)
          have zj1 := hR.f1 (v) (by have := hsz; omega)
          have n00 : ¬ (v + 1) * 2 = (v) * 2 := by omega
          have n01 : ¬ (v + 1) * 2 = (v) * 2 + 1 := by omega
          have n10 : ¬ (v + 1) * 2 + 1 = (v) * 2 := by omega
          have HV := Lib.hid hv
          have hvb : v + 1 < n := by omega
          have hvz : (v : Int) + 1 < (n : Int) := by omega
          have hvy : (v : Int) < (n : Int) := by omega
          have hlv : i < v + 1 := by omega
          have e0 : ((v : Int) + 1).toNat = v + 1 := by omega
          have p0 : (0 : Int) ≤ (v : Int) + 1 := by omega
          have hwp : IntKind.i64.wrap ((v : Int) + 1 - 1) = (v : Int) := by rw [IntKind.wrap_i64]; omega
          clear hS hR hsz hv
          generalize (mvD m q d)[v]! = x at *
          generalize (mvD m q d)[v + 1]! = y at *
          go_wp2_with fail
          go_big_region
          go_wp2_with fail
          go_roundw
          case rel => exact ⟨q + 1, v, by omega, by have := HV.out; omega, by go_num, HS2.out⟩
          case measure => simp [intOf]
        · obtain rfl : q = z := by omega
          have HR : Hid (PrW w0 g (mvD m (m - i) d) wr) := Lib.hid (by rw [← HZ.out]; exact hR)
          clear hR
          go_wp2_with fail
          refine bodyPost_ret (v := .tuple #[]) (results_none rfl _ _ _) rfl ?_
          exact ⟨rfl, HR.out⟩
end Go.Proofs.YtdefjnefkdemiaaGreatDoor
