/- offer.Number and handref1.NumberOf. -/
import Derived.Test.YtdnikegakcdcnaaDoorBatch
import Derived.Test.YtdnikegakcdcnaaDoorPathFn
set_option linter.unusedVariables false
namespace Go.Proofs.YtdnikegakcdcnaaDoor
open Go.RowKit

/-- the bytes of a code behind its prefix -/
def tailL (s : ByteArray) (a i : Nat) : List UInt8 := (s.data.toList.drop a).take i
theorem tail_succ (s : ByteArray) (a i : Nat) (h : a + i < s.size) : tailL s a (i + 1) = tailL s a i ++ [s[a + i]] := by
  unfold tailL
  have hl : i < (s.data.toList.drop a).length := by
    rw [List.length_drop, Array.length_toList]
    have : s.data.size = s.size := rfl
    omega
  rw [List.take_succ_eq_append_getElem hl, List.getElem_drop]
  rfl
theorem tail_sgn (s : ByteArray) (a i : Nat) (h : sgnB s.data.toList = true) : sgnB (tailL s a i) = true := by
  unfold sgnB at *
  rw [List.all_eq_true] at *
  intro c hc
  exact h c (List.mem_of_mem_drop (List.mem_of_mem_take hc))
theorem tail_len (s : ByteArray) (a i : Nat) (h : a + i ≤ s.size) : (tailL s a i).length = i := by
  unfold tailL
  rw [List.length_take, List.length_drop, Array.length_toList]
  have : s.data.size = s.size := rfl
  omega
theorem val_bd (s : ByteArray) (a i : Nat) (h : sgnB s.data.toList = true) (hi : a + i ≤ s.size) : 0 ≤ valN (tailL s a i) ∧ valN (tailL s a i) < pw i := by
  have := valN_bd _ (tail_sgn s a i h)
  rw [tail_len s a i hi] at this
  exact this
theorem val_succ (s : ByteArray) (a i : Nat) (h : a + i < s.size) : valN (tailL s a (i + 1)) = valN (tailL s a i) * 31 + ixS s[a + i] := by
  rw [tail_succ s a i h, valN_snoc]

/-- what is turned back -/
def offN (p : ByteArray) (c k : Nat) (s : ByteArray) : Nat := ((valN (tailL s p.size c)).toNat + pw c - k) % pw c
def numN (p : ByteArray) (c k : Nat) (s : ByteArray) : Nat := offN p c k s * inv c % pw c
def numBad (p : ByteArray) (c : Nat) (s : ByteArray) : Bool := decide (s.size ≠ p.size + c + 1) || !(Lib.hasPrefix s.data.toList p.data.toList)
/-- what Number and NumberOf give -/
def numO (p : ByteArray) (c key : Int) (s : ByteArray) : Int × Int :=
  if batchE p c key ≠ 0 then (0, batchE p c key) else if codeE s ≠ 0 then (0, codeE s) else if numBad p c.toNat s = true then (0, 8) else ((numN p c.toNat key.toNat s : Int), 0)
theorem codeE_ok {s : ByteArray} (h : codeE s = 0) : 4 ≤ s.size ∧ s.size ≤ 24 ∧ sgnB s.data.toList = true := by
  unfold codeE at h
  split at h
  · omega
  · split at h
    · omega
    · rename_i h1 h2
      exact ⟨by omega, by omega, by simpa using h2⟩

theorem pre_any (s p : ByteArray) (w : World) : Calls Tryd.prog 164 #[.string s, .string p] w fun e w' => e = .returned (.bool (Lib.hasPrefix s.data.toList p.data.toList)) ∧ w = w' := by
  refine (Tryd.strings_HasPrefix s p w).mono ?_
  rintro e w' ⟨rfl, rfl⟩
  exact ⟨rfl, rfl⟩

set_option maxRecDepth 100000 in
set_option maxHeartbeats 4000000 in
theorem Number_any (p : ByteArray) (c key : Int) (s : ByteArray) (w : World) (hp : p.size ≤ 100) (hs : s.size ≤ 1000) :
    Calls Tryd.prog 85 #[.string p, .int .i64 c, .int .i64 key, .string s] w fun e w' => e = .returned (.tuple #[.int .i64 (numO p c key s).1, .int .i64 (numO p c key s).2]) ∧ Below w.heap.size w w' := by
  obtain ⟨O, hO⟩ : ∃ O, numO p c key s = O := ⟨_, rfl⟩
  rw [hO]
  have HO := Lib.hid hO.symm
  unfold numO at HO
  clear hO
  have C1 := Lib.hid (fun w => checkBatch_any p c key w hp)
  have C2 := Lib.hid (fun w => CheckCode_any s w hs)
  obtain ⟨E, hE⟩ : ∃ E, batchE p c key = E := ⟨_, rfl⟩
  have HOK := Lib.hid (fun h : E = 0 => batchE_ok (hE.trans h))
  rw [hE] at HO C1
  obtain ⟨E2, hE2⟩ : ∃ E, codeE s = E := ⟨_, rfl⟩
  have HOK2 := Lib.hid (fun h : E2 = 0 => codeE_ok (hE2.trans h))
  rw [hE2] at HO C2
  clear hE hE2
  go_enter Tryd.func85, Tryd.ntmps85
  go_wp2_with fail
  with_reducible refine (C1.out _).mono ?_
  rintro e w1 ⟨rfl, rfl⟩
  by_cases hE0 : E = 0
  · have HO1 := Lib.hid (HO.out.trans (if_neg (by simpa using hE0)))
    obtain ⟨hp12, -, n, k, rfl, hn3, hn11, rfl, hkP⟩ := HOK.out hE0
    subst hE0
    clear HO HOK
    go_wp2_with fail
    with_reducible refine (C2.out _).mono ?_
    rintro e w1 ⟨rfl, rfl⟩
    by_cases hE20 : E2 = 0
    · have HO2 := Lib.hid (HO1.out.trans (if_neg (by simpa using hE20)))
      obtain ⟨hs4, hs24, hsg⟩ := HOK2.out hE20
      subst hE20
      simp only [Int.toNat_natCast] at HO2
      clear HO1 HOK2 C1 C2
      have HB := Lib.hid (show numBad p n s = (decide (s.size ≠ p.size + n + 1) || !(Lib.hasPrefix s.data.toList p.data.toList)) from rfl)
      generalize numBad p n s = B at *
      have CH := Lib.hid (fun w => pre_any s p w)
      generalize Lib.hasPrefix s.data.toList p.data.toList = hpre at *
      by_cases hsz : s.size = p.size + n + 1
      · have hd : ((s.size : Int) != (p.size : Int) + (n : Int) + 1) = false := by simp; omega
        cases hpre with
        | false =>
          obtain rfl : B = true := by rw [HB.out]; simp
          obtain rfl : O = (0, 8) := HO2.out.trans (if_pos rfl)
          go_wp2_with fail
          with_reducible refine (CH.out _).mono ?_
          rintro e w1 ⟨rfl, rfl⟩
          go_wp2_with fail
          go_ret2
          exact ⟨rfl, Below.refl _ _⟩
        | true =>
          obtain rfl : B = false := by rw [HB.out]; simp; omega
          obtain rfl : O = ((numN p n k s : Int), 0) := HO2.out.trans (if_neg (by decide))
          have CP := Lib.hid (fun w => power_any n w hn11)
          have CI := Lib.hid (fun w => inverse_any n w hn3 hn11)
          have hPb := pw_le n hn11
          have hPp := pw_pos n
          have CT := Lib.hid (fun w => times_any (offN p n k s) (inv n) (pw n) w (by have := Nat.mod_lt ((valN (tailL s p.size n)).toNat + pw n - k) (pw_pos n); unfold offN; omega) (by have := (inv_ok n hn3 hn11).lt; omega) (by omega) (by omega) (by have := (inv_ok n hn3 hn11).lt; omega))
          have HNN := Lib.hid (show numN p n k s = offN p n k s * inv n % pw n from rfl)
          have HOF := Lib.hid (show offN p n k s = ((valN (tailL s p.size n)).toNat + pw n - k) % pw n from rfl)
          have HVB := Lib.hid (fun i hi => val_bd s p.size i hsg hi)
          have HSG := Lib.hid hsg
          have HHS := Lib.hid hsz
          have HPM := Lib.hid (fun i (hi : i ≤ n) => pw_mono hi)
          generalize offN p n k s = OF at *
          generalize inv n = I at *
          obtain ⟨P, hP⟩ : ∃ P, pw n = P := ⟨_, rfl⟩
          rw [hP] at hkP CP CI hPb hPp CT HNN HOF HPM
          have HP := Lib.hid hP
          clear hP HO2 HB hsg
          go_wp2_with fail
          with_reducible refine (CH.out _).mono ?_
          rintro e w1 ⟨rfl, rfl⟩
          go_wp2_with fail
          with_reducible refine (CP.out _).mono ?_
          rintro e w1 ⟨rfl, rfl⟩
          clear hsz hd CH CP
          go_wp2_with fail
          go_loop [12, 14, 44] (fun v _ i => ∃ (q V : Nat), q ≤ n ∧ i = .int .i64 (q : Int) ∧ v = .int .i64 (V : Int) ∧ (V : Int) = valN (tailL s p.size q)) (fun _ _ i => n - (intOf i).toNat)
          case atStart => exact ⟨0, 0, Nat.zero_le _, rfl, rfl, rfl⟩
          case round =>
            obtain ⟨q, V, hq, rfl, rfl, hV⟩ := hrel
            have hsz := HHS.out
            by_cases hlt : q < n
            · have hidx : p.size + q < s.size := by omega
              have hb := HVB.out (q + 1) (by omega)
              have hb1 := HPM.out (q + 1) (by omega)
              have hsu := val_succ s p.size q hidx
              rw [← hV] at hsu
              rw [hsu] at hb
              have hix := ixS_bd s[p.size + q]
              have CX := Lib.hid (fun w => ix_any s[p.size + q] w)
              have HSU := Lib.hid hsu
              obtain ⟨x, hx⟩ : ∃ x, ixS s[p.size + q] = x := ⟨_, rfl⟩
              rw [hx] at hb hix CX HSU
              clear hsu hx hV hsz
              obtain ⟨hb0, hb2⟩ := hb
              have hb3 : (V : Int) * 31 + x < (P : Int) := by omega
              clear hb2 hb1
              go_wp2_with fail
              with_reducible refine (CX.out _).mono ?_
              rintro e w1 ⟨rfl, rfl⟩
              go_wp2_with fail
              go_round
              case rel => exact ⟨q + 1, ((V : Int) * 31 + x).toNat, by omega, by go_num, congrArg _ (by omega), by rw [HSU.out]; omega⟩
              case measure => simp [intOf]; omega
            · obtain rfl : q = n := by omega
              have hb := HVB.out q (by omega)
              rw [← hV, HP.out] at hb
              have HV := Lib.hid hV
              clear hV hsz
              obtain ⟨-, hb2⟩ := hb
              have hof := HOF.out
              rw [← HV.out, Int.toNat_natCast] at hof
              have ho : ((V : Int) - (k : Int) + (P : Int)) % (P : Int) = (OF : Int) := by
                rw [hof, Int.natCast_emod]
                congr 1
                omega
              clear hof
              have hne : ¬ P = 0 := by omega
              have e1 : IntKind.i64.wrap ((V : Int) - (k : Int)) = (V : Int) - (k : Int) := by rw [IntKind.wrap_i64]; omega
              have e2 : IntKind.i64.wrap ((V : Int) - (k : Int) + (P : Int)) = (V : Int) - (k : Int) + (P : Int) := by rw [IntKind.wrap_i64]; omega
              have e3 : ((V : Int) - (k : Int) + (P : Int)).tmod (P : Int) = (OF : Int) := by rw [Int.tmod_eq_emod_of_nonneg (by omega)]; exact ho
              go_wp2_with fail
              go_quiet ((first | (go_at_call 166; refine Calls.quiet_of_same ((CI.out _).mono fun _ _ h => ⟨h.1, h.2.symm⟩)) | (go_at_call 157; exact Calls.quiet_of (CT.out _))))
              go_wp2_with fail
              go_ret2
              exact ⟨congrArg (fun z => Ending.returned (Value.tuple #[.int .i64 z, .int .i64 0])) (show ((OF : Int) * (I : Int) % (P : Int)) = (numN p q k s : Int) by rw [HNN.out]; simp), below_drewN (Below.refl _ _) _⟩
      · have hd : ((s.size : Int) != (p.size : Int) + (n : Int) + 1) = true := by simp; omega
        obtain rfl : B = true := by rw [HB.out]; simp [hsz]
        obtain rfl : O = (0, 8) := HO2.out.trans (if_pos rfl)
        go_wp2_with fail
        go_ret2
        exact ⟨rfl, Below.refl _ _⟩
    · obtain rfl : O = (0, E2) := HO1.out.trans (if_pos hE20)
      go_wp2_with fail
      go_ret2
      exact ⟨rfl, Below.refl _ _⟩
  · obtain rfl : O = (0, E) := HO.out.trans (if_pos hE0)
    go_wp2_with fail
    go_ret2
    exact ⟨rfl, Below.refl _ _⟩

set_option maxRecDepth 100000 in
set_option maxHeartbeats 8000000 in
theorem NumberOf_any (p : ByteArray) (c key : Int) (s : ByteArray) (w : World) (hp : p.size ≤ 100) (hs : s.size ≤ 1000) :
    Calls Tryd.prog 86 #[.string p, .int .i64 c, .int .i64 key, .string s] w fun e w' => e = .returned (.tuple #[.int .i64 (numO p c key s).1, .int .i64 (numO p c key s).2]) ∧ Below w.heap.size w w' := by
  obtain ⟨O, hO⟩ : ∃ O, numO p c key s = O := ⟨_, rfl⟩
  rw [hO]
  have HO := Lib.hid hO.symm
  unfold numO at HO
  clear hO
  have C1 := Lib.hid (fun w => BatchFault_any p c key w hp)
  have C2 := Lib.hid (fun w => CodeFault_any s w hs)
  obtain ⟨E, hE⟩ : ∃ E, batchE p c key = E := ⟨_, rfl⟩
  have HOK := Lib.hid (fun h : E = 0 => batchE_ok (hE.trans h))
  rw [hE] at HO C1
  obtain ⟨E2, hE2⟩ : ∃ E, codeE s = E := ⟨_, rfl⟩
  have HOK2 := Lib.hid (fun h : E2 = 0 => codeE_ok (hE2.trans h))
  rw [hE2] at HO C2
  clear hE hE2
  go_enter Tryd.func86, Tryd.ntmps86
  go_wp2_with fail
  with_reducible refine (C1.out _).mono ?_
  rintro e w1 ⟨rfl, b1⟩
  go_wp2_with fail
  with_reducible refine (C2.out _).mono ?_
  rintro e w2 ⟨rfl, b2⟩
  have HB2 := Lib.hid (b1.trans (b2.mono b1.size))
  clear b1 b2
  go_wp2_with fail
  have hor := orErr_any w2.heap.size [E, E2] 2 2 30 (w2.alloc (.cells #[.int .i64 E, .int .i64 E2] 30)) rfl (by omega) (heap_alloc_new _ _)
  with_reducible refine hor.mono ?_
  rintro e w3 ⟨rfl, rfl⟩
  have HB3 := Lib.hid (HB2.out.alloc HB2.out.size (.cells #[.int .i64 E, .int .i64 E2] 30))
  clear hor HB2
  generalize w2.alloc (.cells #[.int .i64 E, .int .i64 E2] 30) = w3 at *
  have HOR := Lib.hid (show orE [E, E2] = if E = 0 then (if E2 = 0 then 0 else E2) else E from rfl)
  obtain ⟨E3, hE3⟩ : ∃ E3, orE [E, E2] = E3 := ⟨_, rfl⟩
  rw [hE3] at HOR ⊢
  clear hE3
  by_cases hE0 : E = 0
  · have HO1 := Lib.hid (HO.out.trans (if_neg (by simpa using hE0)))
    have HOR1 := Lib.hid (HOR.out.trans (if_pos hE0))
    obtain ⟨hp12, -, n, k, rfl, hn3, hn11, rfl, hkP⟩ := HOK.out hE0
    subst hE0
    clear HO HOK HOR
    by_cases hE20 : E2 = 0
    · have HO2 := Lib.hid (HO1.out.trans (if_neg (by simpa using hE20)))
      obtain rfl : E3 = 0 := HOR1.out.trans (if_pos hE20)
      obtain ⟨hs4, hs24, hsg⟩ := HOK2.out hE20
      subst hE20
      simp only [Int.toNat_natCast] at HO2
      clear HO1 HOK2 C1 C2 HOR1
      have HB := Lib.hid (show numBad p n s = (decide (s.size ≠ p.size + n + 1) || !(Lib.hasPrefix s.data.toList p.data.toList)) from rfl)
      generalize numBad p n s = B at *
      have CH := Lib.hid (fun w => pre_any s p w)
      generalize Lib.hasPrefix s.data.toList p.data.toList = hpre at *
      by_cases hsz : s.size = p.size + n + 1
      · have hd : ((s.size : Int) != (p.size : Int) + (n : Int) + 1) = false := by simp; omega
        cases hpre with
        | false =>
          obtain rfl : B = true := by rw [HB.out]; simp
          obtain rfl : O = (0, 8) := HO2.out.trans (if_pos rfl)
          go_wp2_with fail
          with_reducible refine (CH.out _).mono ?_
          rintro e w1 ⟨rfl, rfl⟩
          go_wp2_with fail
          go_ret2
          exact ⟨rfl, HB3.out⟩
        | true =>
          obtain rfl : B = false := by rw [HB.out]; simp; omega
          obtain rfl : O = ((numN p n k s : Int), 0) := HO2.out.trans (if_neg (by decide))
          have CP := Lib.hid (fun w => space_any n w hn11)
          have hPb := pw_le n hn11
          have hPp := pw_pos n
          have HIO := Lib.hid (inv_ok n hn3 hn11)
          have HNN := Lib.hid (show numN p n k s = offN p n k s * inv n % pw n from rfl)
          have HNL := Lib.hid (show numN p n k s < pw n from Nat.mod_lt _ (pw_pos n))
          have HOF := Lib.hid (show offN p n k s = ((valN (tailL s p.size n)).toNat + pw n - k) % pw n from rfl)
          have HOL := Lib.hid (show offN p n k s < pw n from Nat.mod_lt _ (pw_pos n))
          have HFI := Lib.hid (fun j x (hj : j ≤ n) => found_iff n j x (offN p n k s) hj HIO.out (by omega))
          rw [← HNN.out] at HFI
          have HVB := Lib.hid (fun i hi => val_bd s p.size i hsg hi)
          have HSG := Lib.hid hsg
          have HHS := Lib.hid hsz
          have HPM := Lib.hid (fun i (hi : i ≤ n) => pw_mono hi)
          clear HNN HIO
          obtain ⟨N, hN⟩ : ∃ N, numN p n k s = N := ⟨_, rfl⟩
          rw [hN] at HNL HFI
          have HN := Lib.hid hN
          clear hN
          generalize offN p n k s = OF at *
          obtain ⟨P, hP⟩ : ∃ P, pw n = P := ⟨_, rfl⟩
          rw [hP] at hkP CP hPb hPp HOF HOL HNL HPM
          have HP := Lib.hid hP
          clear hP HO2 HB hsg
          go_wp2_with fail
          with_reducible refine (CH.out _).mono ?_
          rintro e w1 ⟨rfl, rfl⟩
          go_wp2_with fail
          with_reducible refine (CP.out _).mono ?_
          rintro e w1 ⟨rfl, rfl⟩
          clear hsz hd CH CP
          go_wp2_with fail
          go_loop [12, 13] (fun v i => ∃ (q V : Nat), q ≤ n ∧ i = .int .i64 ((p.size : Int) + (q : Int)) ∧ v = .int .i64 (V : Int) ∧ (V : Int) = valN (tailL s p.size q)) (fun _ i => p.size + n - (intOf i).toNat)
          case atStart => exact ⟨0, 0, Nat.zero_le _, by simp, rfl, rfl⟩
          case round =>
            obtain ⟨q, V, hq, rfl, rfl, hV⟩ := hrel
            have hsz := HHS.out
            by_cases hlt : q < n
            · have hidx : p.size + q < s.size := by omega
              have hb := HVB.out (q + 1) (by omega)
              have hb1 := HPM.out (q + 1) (by omega)
              have hsu := val_succ s p.size q hidx
              rw [← hV] at hsu
              rw [hsu] at hb
              have hix := ixS_bd s[p.size + q]
              have CX := Lib.hid (fun w => ix_any s[p.size + q] w)
              have HSU := Lib.hid hsu
              obtain ⟨x, hx⟩ : ∃ x, ixS s[p.size + q] = x := ⟨_, rfl⟩
              rw [hx] at hb hix CX HSU
              have hss : (p.size : Int) + (q : Int) < (s.size : Int) - 1 := by omega
              clear hsu hx hV hsz
              obtain ⟨hb0, hb2⟩ := hb
              have hb3 : (V : Int) * 31 + x < (P : Int) := by omega
              clear hb2 hb1
              go_wp2_with fail
              with_reducible refine (CX.out _).mono ?_
              rintro e w1 ⟨rfl, rfl⟩
              go_wp2_with fail
              go_round
              case rel => exact ⟨q + 1, ((V : Int) * 31 + x).toNat, by omega, by go_num, congrArg _ (by omega), by rw [HSU.out]; omega⟩
              case measure => simp [intOf]; omega
            · obtain rfl : q = n := by omega
              have hb := HVB.out q (by omega)
              rw [← hV, HP.out] at hb
              have HV := Lib.hid hV
              have hss : ¬ (p.size : Int) + (q : Int) < (s.size : Int) - 1 := by omega
              clear hV hsz
              obtain ⟨-, hb2⟩ := hb
              have hof := HOF.out
              rw [← HV.out, Int.toNat_natCast] at hof
              have ho : ((V : Int) - (k : Int) + (P : Int)) % (P : Int) = (OF : Int) := by
                rw [hof, Int.natCast_emod]
                congr 1
                omega
              clear hof
              have hne : ¬ P = 0 := by omega
              have HO3 := Lib.hid ho
              go_wp2_with fail
              clear ho HO3 HV hne HVB HSG HHS HOF hss
              have hz3 := HB3.out.size
              go_loopw [14, 15, 16, 17, 69, 71] (fun a b _ _ i _ wr => ∃ j : Nat, j ≤ q ∧ i = .int .i64 (j : Int) ∧ a = .int .i64 ((N % pw j : Nat) : Int) ∧ b = .int .i64 ((pw j : Nat) : Int) ∧ Below w3.heap.size w3 wr) (fun _ _ _ _ i _ _ => q - (intOf i).toNat)
              case atStart => exact ⟨0, Nat.zero_le _, rfl, by rw [show pw 0 = 1 from rfl, Nat.mod_one]; rfl, rfl, Below.refl _ _⟩
              case round =>
                obtain ⟨j, hj, rfl, rfl, rfl, hB⟩ := hrel
                by_cases hlt : j < q
                · have HPS := Lib.hid (pw_succ j)
                  have hps := HPM.out (j + 1) (by omega)
                  rw [HPS.out] at hps
                  have hpj := pw_pos j
                  have HNX := Lib.hid (digit_next N j)
                  have HDI := Lib.hid (fun d hd => digit_iff N j d hd)
                  have HFJ := Lib.hid (fun x => HFI.out (j + 1) x (by omega))
                  have hal := Nat.mod_lt N hpj
                  have CS := Lib.hid (fun x w hx hm => scrambled_any x 0 (pw j * 31) w hx (by omega) hm (by omega))
                  rw [← HPS.out] at CS
                  have HBr := Lib.hid hB
                  have hd31 : N / pw j % 31 < 31 := Nat.mod_lt _ (by omega)
                  have HOFm := Lib.hid (show ((OF : Int) % ((pw (j + 1) : Nat) : Int)) = ((OF % pw (j + 1) : Nat) : Int) by rw [Int.natCast_emod])
                  have hof1 : OF % pw (j + 1) < pw j * 31 := by
                    have h := Nat.mod_lt OF (pw_pos (j + 1))
                    rw [HPS.out] at h ⊢
                    exact h
                  clear hB
                  obtain ⟨PL, hPL⟩ : ∃ PL, pw j = PL := ⟨_, rfl⟩
                  obtain ⟨PM, hPM⟩ : ∃ PM, pw (j + 1) = PM := ⟨_, rfl⟩
                  obtain ⟨A, hA⟩ : ∃ A, N % PL = A := ⟨_, rfl⟩
                  obtain ⟨D, hD⟩ : ∃ D, N / PL % 31 = D := ⟨_, rfl⟩
                  obtain ⟨R2, hR2⟩ : ∃ R2, OF % PM = R2 := ⟨_, rfl⟩
                  obtain ⟨A2, hA2⟩ : ∃ A2, N % PM = A2 := ⟨_, rfl⟩
                  rw [hPL] at HPS hps hpj HNX HDI hal hd31 hof1
                  rw [hPM] at HPS HNX HDI HFJ CS HOFm hof1
                  rw [hA] at HNX HDI hal
                  rw [hD] at HNX HDI hd31
                  rw [hA2] at HNX HDI HFJ
                  rw [hR2] at HFJ HOFm hof1
                  have HPLx := Lib.hid hPL
                  have HPMx := Lib.hid hPM
                  have HAx := Lib.hid hA
                  have HA2x := Lib.hid hA2
                  rw [hPL, hA]
                  clear hPL hPM hA hA2 hD hR2
                  obtain ⟨wo, hwo⟩ : ∃ wo : World, wo = wr := ⟨_, rfl⟩
                  subst hwo
                  go_wp2_with fail
                  go_loopw [14, 16, 17, 71] (fun a _ _ i wr => ∃ d : Nat, d ≤ D ∧ i = .int .i64 (d : Int) ∧ a = .int .i64 (A : Int) ∧ Below w3.heap.size w3 wr) (fun _ _ _ i _ => 31 - (intOf i).toNat)
                  case atStart => exact ⟨0, Nat.zero_le _, rfl, rfl, HBr.out⟩
                  case round =>
                    obtain ⟨d, hdD, rfl, rfl, hB⟩ := hrel
                    have HBx := Lib.hid hB
                    have hd1 : d < 31 := by omega
                    have hy : d * PL ≤ 30 * PL := Nat.mul_le_mul_right _ (by omega)
                    have HDd := Lib.hid (HDI.out d hd1)
                    have HFx := Lib.hid (HFJ.out (A + d * PL))
                    have hpms := HPS.out
                    obtain ⟨y, hyy⟩ : ∃ y, d * PL = y := ⟨_, rfl⟩
                    have hyi : (d : Int) * (PL : Int) = (y : Int) := by rw [← hyy]; simp
                    have HY := Lib.hid hyy
                    rw [hyy] at hy HDd HFx
                    clear hyy hB
                    have CSx : Hid (∀ w, Calls Tryd.prog 167 #[.int .i64 ((A : Int) + (y : Int)), .int .i64 0, .int .i64 ((PL : Int) * 31)] w fun e w' => e = .returned (.int .i64 (((A + y) * 7919 % PM : Nat) : Int)) ∧ w = w') := Lib.hid (fun w => by
                      have := CS.out (A + y) w (by omega) (by omega)
                      rw [Nat.add_zero, Int.natCast_add, hpms, Int.natCast_mul] at this
                      rw [hpms]
                      exact this)
                    have hmo : (OF : Int) % ((PL : Int) * 31) = (R2 : Int) := by rw [← HOFm.out, hpms, Int.natCast_mul]; rfl
                    clear hpms
                    obtain ⟨R1, hR1⟩ : ∃ R1, (A + y) * 7919 % PM = R1 := ⟨_, rfl⟩
                    rw [hR1] at CSx HFx
                    clear hR1
                    by_cases hdd : d = D
                    · have hR : R1 = R2 := HFx.out.2 (HDd.out.2 hdd)
                      subst hR
                      subst hdd
                      go_wp2_with fail
                      go_quiet ((go_at_call 167; refine Calls.quiet_of_same ((CSx.out _).mono fun _ _ h => ⟨h.1, h.2.symm⟩)))
                      have HA3 : Hid (A + y = N % pw (j + 1)) := Lib.hid (by
                        have := HNX.out
                        rw [HY.out] at this
                        rw [this, HPMx.out, HA2x.out])
                      clear hmo hyi
                      go_wp2_with fail
                      go_roundw
                      case rel => exact ⟨j + 1, by omega, by go_num, by rw [← HA3.out]; go_num, by rw [HPMx.out, HPS.out]; go_num, below_drewN HBx.out _⟩
                      case measure => simp [intOf]; omega
                    · have hR : (((R1 : Nat) : Int) == ((R2 : Nat) : Int)) = false := by
                        have : R1 ≠ R2 := fun e => hdd (HDd.out.1 (HFx.out.1 e))
                        simp; omega
                      go_wp2_with fail
                      go_quiet ((go_at_call 167; refine Calls.quiet_of_same ((CSx.out _).mono fun _ _ h => ⟨h.1, h.2.symm⟩)))
                      go_wp2_with fail
                      go_roundw
                      case rel => exact ⟨d + 1, by omega, by go_num, rfl, below_drewN HBx.out _⟩
                      case measure => simp [intOf]; omega
                · obtain rfl : j = q := by omega
                  have HBr := Lib.hid (HB3.out.trans (hB.mono hz3))
                  have HNm := Lib.hid (show N % pw j = N by rw [HP.out]; exact Nat.mod_eq_of_lt HNL.out)
                  clear hB
                  go_wp2_with fail
                  go_ret2
                  exact ⟨congrArg (fun z => Ending.returned (Value.tuple #[.int .i64 z, .int .i64 0])) (by rw [← Int.natCast_emod, HNm.out, HN.out]), HBr.out⟩
      · have hd : ((s.size : Int) != (p.size : Int) + (n : Int) + 1) = true := by simp; omega
        obtain rfl : B = true := by rw [HB.out]; simp [hsz]
        obtain rfl : O = (0, 8) := HO2.out.trans (if_pos rfl)
        go_wp2_with fail
        go_ret2
        exact ⟨rfl, HB3.out⟩
    · obtain rfl : O = (0, E2) := HO1.out.trans (if_pos hE20)
      obtain rfl : E3 = E2 := HOR1.out.trans (if_neg hE20)
      go_wp2_with fail
      go_ret2
      exact ⟨rfl, HB3.out⟩
  · obtain rfl : O = (0, E) := HO.out.trans (if_pos hE0)
    obtain rfl : E3 = E := HOR.out.trans (if_neg hE0)
    go_wp2_with fail
    go_ret2
    exact ⟨rfl, HB3.out⟩
end Go.Proofs.YtdnikegakcdcnaaDoor
