/- The contract of math/bits.Div64. -/
import Derived.Test.YtdefjnefkdemiaaGreatDoorMem
import Derived.Test.YtdefjnefkdemiaaGreatDoorShelf
import Derived.Test.YtdefjnefkdemiaaGreatDoorDivs
import Derived.Deep.DeepCutAuto
import Derived.Deep.CutBlock
set_option linter.unusedVariables false
namespace Go.Proofs.YtdefjnefkdemiaaGreatDoor
open Go.RowKit

theorem low_two (lo y : Nat) (h : lo < 18446744073709551616) : Value.tuple #[.int .u64 (IntKind.u64.wrap ((lo : Int) / (y : Int))), .int .u64 ((lo : Int) % (y : Int))] = .tuple #[.int .u64 ((lo / y : Nat) : Int), .int .u64 ((lo % y : Nat) : Int)] := by
  have h1 : lo / y ≤ lo := Nat.div_le_self _ _
  rw [← Int.natCast_ediv, ← Int.natCast_emod, Mul64.wrapN _ (by omega)]
theorem div64_low (lo y : Nat) (w : World) (hlo : lo < 18446744073709551616) (hy : y < 18446744073709551616) (h0 : 0 < y) :
    Calls Tryz.prog 100 #[.int .u64 0, .int .u64 lo, .int .u64 y] w fun e w' => e = .returned (.tuple #[.int .u64 ((lo / y : Nat) : Int), .int .u64 ((lo % y : Nat) : Int)]) ∧ ∃ k, w' = w.drewN k := by
  have hy0 : ((y : Int) == 0) = false := by simp; omega
  have hy1 : ¬ ((y : Int) ≤ 0) := by omega
  go_enter Tryz.func100, Tryz.ntmps100
  go_wp2_with fail
  go_quiet (fail)
  go_wp2
  go_ret2
  exact ⟨congrArg Ending.returned (low_two lo y hlo), _, rfl⟩

theorem bitLen_aux : ∀ (f x : Nat), 0 < x → x < 2 ^ f → 2 ^ (Lib.bitLenAux f x) ≤ 2 * x ∧ x < 2 ^ (Lib.bitLenAux f x) ∧ Lib.bitLenAux f x ≤ f ∧ 1 ≤ Lib.bitLenAux f x
  | 0, x, h0, h => by simp at h; omega
  | f + 1, x, h0, h => by
    simp only [Lib.bitLenAux]
    rw [if_neg (by omega)]
    by_cases h1 : x / 2 = 0
    · obtain rfl : x = 1 := by omega
      have : Lib.bitLenAux f (1 / 2) = 0 := by cases f <;> simp [Lib.bitLenAux]
      rw [this]
      simp
    · obtain ⟨a, b, c, d⟩ := bitLen_aux f (x / 2) (by omega) (by rw [Nat.pow_succ] at h; omega)
      rw [Nat.pow_add]
      omega
theorem bitLen_le (x : Nat) (h : 0 < x) (hx : x < 18446744073709551616) : ∃ s : Nat, s ≤ 63 ∧ 64 - (Lib.bitLen x : Int) = s ∧ 9223372036854775808 ≤ x * 2 ^ s ∧ x * 2 ^ s < 18446744073709551616 := by
  obtain ⟨a, b, c, d⟩ := bitLen_aux 64 x h hx
  have e : Lib.bitLen x = Lib.bitLenAux 64 x := rfl
  rw [← e] at a b c d
  generalize Lib.bitLen x = n at *
  refine ⟨64 - n, by omega, by omega, ?_, ?_⟩
  · have hp : (2 : Nat) ^ n * 2 ^ (64 - n) = 18446744073709551616 := by rw [← Nat.pow_add, show n + (64 - n) = 64 by omega]
    have := Nat.mul_le_mul_right (2 ^ (64 - n)) a
    rw [hp, Nat.mul_assoc] at this
    omega
  · have hp : (2 : Nat) ^ n * 2 ^ (64 - n) = 18446744073709551616 := by rw [← Nat.pow_add, show n + (64 - n) = 64 by omega]
    rw [← hp]
    exact Nat.mul_lt_mul_of_pos_right b (Nat.two_pow_pos _)

theorem wrap_nat (y s : Nat) (h : y * 2 ^ s < 18446744073709551616) : IntKind.u64.wrap ((y : Int) * 2 ^ s) = ((y * 2 ^ s : Nat) : Int) := by
  have e : ((y * 2 ^ s : Nat) : Int) = (y : Int) * 2 ^ s := by simp
  rw [IntKind.wrap_u64, ← e]
  omega
theorem halves (Y : Nat) : ∃ a b : Nat, Y = a * 4294967296 + b ∧ b < 4294967296 ∧ a = Y / 4294967296 := ⟨Y / 4294967296, Y % 4294967296, by omega, by omega, rfl⟩
theorem first_digit (u y1 : Nat) (hu : u < 18446744073709551616) : Value.int .u64 (IntKind.u64.wrap ((u : Int) / (y1 : Int))) = .int .u64 ((u / y1 : Nat) : Int) := by
  have h : u / y1 ≤ u := Nat.div_le_self _ _
  rw [← Int.natCast_ediv, Mul64.wrapN _ (by omega)]
theorem first_left (u y1 : Nat) (hu : u < 18446744073709551616) (h0 : 0 < y1) :
    Value.int .u64 (IntKind.u64.wrap ((u : Int) - IntKind.u64.wrap (IntKind.u64.wrap ((u : Int) / (y1 : Int)) * (y1 : Int)))) = .int .u64 ((u % y1 : Nat) : Int) := by
  have h : u / y1 ≤ u := Nat.div_le_self _ _
  have h2 := Nat.div_add_mod' u y1
  rw [← Int.natCast_ediv, Mul64.wrapN _ (by omega), Mul64.mulN]
  generalize u / y1 * y1 = p at *
  rw [Mul64.wrapN p (by omega), IntKind.wrap_u64]
  congr 1
  omega
theorem out_two (p p0 v0 s a b : Nat) (hp : p < 4294967296) (hp0 : p0 < 4294967296) (h : p * 4294967296 + p0 = a ∧ v0 / 2 ^ s = b) :
    Value.tuple #[.int .u64 ((p : Int) * 4294967296 + (p0 : Int)), .int .u64 ((v0 : Int) / 2 ^ s)] = .tuple #[.int .u64 (a : Int), .int .u64 (b : Int)] := by
  have e1 : (p : Int) * 4294967296 + (p0 : Int) = (a : Int) := by omega
  have e2 : ((v0 / 2 ^ s : Nat) : Int) = (v0 : Int) / 2 ^ s := by simp
  rw [e1, ← e2, h.2]
/-- the two words, moved by s bits -/
theorem shifted (hi lo y s : Nat) (hs : s ≤ 63) (hlo : lo < 18446744073709551616) (h1 : hi < y) (h2 : y * 2 ^ s < 18446744073709551616) :
    ∃ u L : Nat, bits .or .u64 (IntKind.u64.wrap ((hi : Int) * 2 ^ s)) ((lo : Int) / 2 ^ (64 - s)) = (u : Int) ∧ IntKind.u64.wrap ((lo : Int) * 2 ^ s) = (L : Int) ∧ L < 18446744073709551616 ∧
      u * 18446744073709551616 + L = (hi * 18446744073709551616 + lo) * 2 ^ s ∧ u < y * 2 ^ s := by
  have hp : (2 : Nat) ^ s * 2 ^ (64 - s) = 18446744073709551616 := by rw [← Nat.pow_add, show s + (64 - s) = 64 by omega]
  have hp0 : 0 < 2 ^ s := Nat.two_pow_pos s
  have hp1 : 0 < 2 ^ (64 - s) := Nat.two_pow_pos _
  have hd : lo / 2 ^ (64 - s) < 2 ^ s := by rw [Nat.div_lt_iff_lt_mul hp1, hp]; exact hlo
  have hm : (hi + 1) * 2 ^ s ≤ y * 2 ^ s := Nat.mul_le_mul_right _ h1
  rw [Nat.add_mul, Nat.one_mul] at hm
  refine ⟨hi * 2 ^ s + lo / 2 ^ (64 - s), lo * 2 ^ s % 18446744073709551616, ?_, ?_, Nat.mod_lt _ (by omega), ?_, by omega⟩
  · rw [wrap_nat hi s (by omega)]
    have e : (lo : Int) / 2 ^ (64 - s) = ((lo / 2 ^ (64 - s) : Nat) : Int) := by simp
    rw [e, bits_or_u64_nat _ _ (by omega) (by omega), Nat.mul_comm hi, Nat.two_pow_add_eq_or_of_lt hd]
  · have e : ((lo * 2 ^ s : Nat) : Int) = (lo : Int) * 2 ^ s := by simp
    rw [IntKind.wrap_u64, ← e]
    omega
  · have e : lo * 2 ^ s / 18446744073709551616 = lo / 2 ^ (64 - s) := by rw [← hp, Nat.mul_comm lo, Nat.mul_div_mul_left _ _ hp0]
    have := Nat.div_add_mod' (lo * 2 ^ s) 18446744073709551616
    rw [e] at this
    rw [Nat.add_mul, Nat.add_mul, Nat.mul_right_comm hi, Nat.add_assoc, this]

theorem lead_any (x : Nat) (w : World) (h : 0 < x) (hx : x < 18446744073709551616) :
    Calls Tryz.prog 123 #[.int .u64 x] w fun e w' => (∃ s : Nat, s ≤ 63 ∧ 9223372036854775808 ≤ x * 2 ^ s ∧ x * 2 ^ s < 18446744073709551616 ∧ e = .returned (.int .i64 s)) ∧ w = w' := by
  refine (Tryz.bits_LeadingZeros64 x w (by omega) (by omega)).mono ?_
  rintro e w' ⟨rfl, rfl⟩
  obtain ⟨s, h1, h2, h3, h4⟩ := bitLen_le x h hx
  refine ⟨⟨s, h1, h3, h4, ?_⟩, rfl⟩
  rw [Int.toNat_natCast, h2]

set_option maxRecDepth 100000 in
set_option maxHeartbeats 4000000 in
theorem div64_any (hi lo y : Nat) (w : World) (hlo : lo < 18446744073709551616) (hy : y < 18446744073709551616) (h0 : 0 < hi) (h1 : hi < y) :
    Calls Tryz.prog 100 #[.int .u64 hi, .int .u64 lo, .int .u64 y] w fun e w' => e = .returned (.tuple #[.int .u64 (Divs.nq hi lo y : Int), .int .u64 (Divs.nr hi lo y : Int)]) ∧ w = w' := by
  have hy0 : ((y : Int) == 0) = false := by simp; omega
  have hh0 : ((hi : Int) == 0) = false := by simp; omega
  have hy1 : ¬ ((y : Int) ≤ hi) := by omega
  go_enter Tryz.func100, Tryz.ntmps100
  go_wp2_with fail
  with_reducible refine (lead_any y _ (by omega) hy).mono ?_
  rintro e w' ⟨⟨s, hs, s1, s2, rfl⟩, rfl⟩
  have e1 : IntKind.u64.wrap ((y : Int) * 2 ^ s) = ((y * 2 ^ s : Nat) : Int) := wrap_nat y s s2
  obtain ⟨u, L, eu, eL, hL, hN, hu⟩ := shifted hi lo y s hs hlo h1 s2
  have HN := Lib.hid hN
  clear hN
  generalize hYe : y * 2 ^ s = Y at *
  have HY := Lib.hid hYe
  clear hYe
  obtain ⟨y1, y0, q1, q2, q3⟩ := halves Y
  obtain ⟨u1, u0, l1, l2, l3⟩ := halves L
  obtain ⟨Y1, hY1⟩ : ∃ z : Int, z = y1 := ⟨_, rfl⟩
  obtain ⟨Y0, hY0⟩ : ∃ z : Int, z = y0 := ⟨_, rfl⟩
  obtain ⟨U1, hU1⟩ : ∃ z : Int, z = u1 := ⟨_, rfl⟩
  obtain ⟨U0, hU0⟩ : ∃ z : Int, z = u0 := ⟨_, rfl⟩
  have e2 : bits .and .u64 (Y : Int) 4294967295 = Y0 := (Mul64.maskN Y s2).trans (by omega)
  have e3 : (Y : Int) / 4294967296 = Y1 := by omega
  have e3' : ¬ Y1 = 0 := by omega
  have e5 : bits .and .u64 (L : Int) 4294967295 = U0 := (Mul64.maskN L hL).trans (by omega)
  have e6 : (L : Int) / 4294967296 = U1 := by omega
  have b1 : 2147483648 ≤ y1 ∧ y1 < 4294967296 := by omega
  have b2 : u1 < 4294967296 := by omega
  have c1 : 2147483648 ≤ Y1 ∧ Y1 < 4294967296 := by omega
  have c2 : 0 ≤ Y0 ∧ Y0 < 4294967296 := by omega
  have c3 : 0 ≤ U1 ∧ U1 < 4294967296 := by omega
  have c4 : 0 ≤ U0 ∧ U0 < 4294967296 := by omega
  have HQ := Lib.hid q1
  have HL := Lib.hid l1
  have HC := Lib.hid (And.intro hY1 (And.intro hY0 (And.intro hU1 hU0)))
  have HA1 := Lib.hid (show Value.int .u64 (IntKind.u64.wrap ((u : Int) / Y1)) = .int .u64 ((u / y1 : Nat) : Int) by rw [hY1]; exact first_digit u y1 (by omega))
  have HB1 := Lib.hid (show Value.int .u64 (IntKind.u64.wrap ((u : Int) - IntKind.u64.wrap (IntKind.u64.wrap ((u : Int) / Y1) * Y1))) = .int .u64 ((u % y1 : Nat) : Int) by rw [hY1]; exact first_left u y1 (by omega) (by omega))
  clear q1 q3 l1 l3 hY1 hY0 hU1 hU0
  go_upto_block 0 with fail
  go_cut [15, 16] (fun x _ wx => x = .int .u64 (Divs.dq u u1 Y : Int) ∧ w = wx)
  case first =>
    go_wp2_with fail
    go_loop [15, 16] (fun x z => ∃ a b : Nat, Divs.Trial u u1 y1 y0 a b ∧ x = .int .u64 a ∧ z = .int .u64 b) (fun x _ => (intOf x).toNat)
    case atStart => exact ⟨_, _, Divs.start u u1 y1 y0 (by omega) (by omega) (by omega) (by omega) (by have := HQ.out; omega), HA1.out, HB1.out⟩
    case round =>
      obtain ⟨a, b, hT, rfl, rfl⟩ := hrel
      have hlt := hT.lt
      have hle := hT.le
      by_cases ha : 4294967296 ≤ a
      · have S1 := Lib.hid (fun h => Divs.step u u1 y1 y0 a b hT (by omega) (.inl ha) (by have := HQ.out; omega) (by omega) h)
        have S2 := Lib.hid (fun h => Divs.brk u u1 y1 y0 a b hT (by omega) (by omega) (.inl ha) (by have := HQ.out; omega) (by omega) h)
        generalize hA : (a : Int) = A
        generalize hB : (b : Int) = B
        have hA1 : 0 ≤ A ∧ A ≤ 4294967297 := by omega
        have hB1 : 0 ≤ B ∧ B < 4294967296 := by omega
        have HA := Lib.hid hA
        have HB := Lib.hid hB
        have hA2 : 4294967296 ≤ A := by omega
        clear hT hA hB ha hle hlt
        go_wp2
        · go_meet
          have hA := HA.out
          have hB := HB.out
          have hC := HC.out
          have := S2.out (by omega)
          exact ⟨by rw [HQ.out, ← this.2]; exact congrArg (Value.int .u64) (by omega), rfl⟩
        · have hA := HA.out
          have hB := HB.out
          have hC := HC.out
          have := S1.out (by omega)
          go_round
          case rel => exact ⟨a - 1, b + y1, this.2, congrArg (Value.int .u64) (by omega), congrArg (Value.int .u64) (by omega)⟩
          case measure => simp [intOf]; omega
      · have hmm : a * y0 ≤ 4294967295 * 4294967295 := Nat.mul_le_mul (by omega) (by omega)
        have ea : IntKind.u64.wrap ((a : Int) * Y0) = ((a * y0 : Nat) : Int) := by
          rw [HC.out.2.1, Mul64.mulN]; exact Mul64.wrapN _ (by omega)
        generalize hv : ((a * y0 : Nat) : Int) = m at ea
        by_cases ht : 4294967296 * b + u1 < a * y0
        · have S1 := Lib.hid (fun h => Divs.step u u1 y1 y0 a b hT (by omega) (.inr ht) (by have := HQ.out; omega) (by omega) h)
          have S2 := Lib.hid (fun h => Divs.brk u u1 y1 y0 a b hT (by omega) (by omega) (.inr ht) (by have := HQ.out; omega) (by omega) h)
          have hl1 : 1 ≤ a := by
            rcases Nat.eq_zero_or_pos a with h | h
            · subst h; simp at ht
            · exact h
          generalize hA : (a : Int) = A
          generalize hB : (b : Int) = B
          have hA1 : 0 ≤ A ∧ A ≤ 4294967297 := by omega
          have hB1 : 0 ≤ B ∧ B < 4294967296 := by omega
          have HA := Lib.hid hA
          have HB := Lib.hid hB
          have hA2 : 1 ≤ A ∧ A < 4294967296 := by omega
          have hm : 4294967296 * B + U1 < m := by have := HC.out; omega
          rw [hA] at ea
          clear hT hA hB ha hle hlt hl1 ht hmm hv
          go_wp2
          · go_meet
            have hA := HA.out
            have hB := HB.out
            have hC := HC.out
            have := S2.out (by omega)
            exact ⟨by rw [HQ.out, ← this.2]; exact congrArg (Value.int .u64) (by omega), rfl⟩
          · have hA := HA.out
            have hB := HB.out
            have hC := HC.out
            have := S1.out (by omega)
            go_round
            case rel => exact ⟨a - 1, b + y1, this.2, congrArg (Value.int .u64) (by omega), congrArg (Value.int .u64) (by omega)⟩
            case measure => simp [intOf]; omega
        · have S3 := Lib.hid (Divs.stop u u1 y1 y0 a b hT (by omega) (by omega))
          generalize hA : (a : Int) = A
          generalize hB : (b : Int) = B
          have hA1 : 0 ≤ A ∧ A ≤ 4294967297 := by omega
          have hB1 : 0 ≤ B ∧ B < 4294967296 := by omega
          have HA := Lib.hid hA
          have HB := Lib.hid hB
          have hA2 : A < 4294967296 := by omega
          have hm : ¬ 4294967296 * B + U1 < m := by have := HC.out; omega
          rw [hA] at ea
          clear hT hA hB ha hle hlt ht hmm hv
          go_wp2
          go_meet
          exact ⟨by rw [HQ.out, ← S3.out, HA.out], rfl⟩
  case rest =>
    obtain ⟨rfl, rfl⟩ := hcut
    have hr := Divs.rest u u1 Y s2 (Nat.lt_of_le_of_lt (Nat.zero_le _) hu)
    have hv := Divs.left_lt u u1 Y (Nat.lt_of_le_of_lt (Nat.zero_le _) hu)
    have hp := Divs.digit_lt u u1 Y hu b2
    have HW := Divs.whole hi lo y s hlo (Nat.lt_of_le_of_lt (Nat.zero_le _) h1) u u1 u0 (by rw [← HL.out]; exact HN.out) l2
    rw [HY.out] at HW
    generalize Divs.dq u u1 Y = p at *
    generalize Divs.dr u u1 Y = v at *
    have eR : IntKind.u64.wrap (IntKind.u64.wrap (IntKind.u64.wrap ((u : Int) * 4294967296) + U1) - IntKind.u64.wrap ((p : Int) * (Y : Int))) = (v : Int) := by
      rw [← hr, HC.out.2.2.1]
      simp only [IntKind.wrap_u64]
      generalize (p : Int) * (Y : Int) = pY
      omega
    have HA2 := Lib.hid (show Value.int .u64 (IntKind.u64.wrap ((v : Int) / Y1)) = .int .u64 ((v / y1 : Nat) : Int) by rw [HC.out.1]; exact first_digit v y1 (by omega))
    have HB2 := Lib.hid (show Value.int .u64 (IntKind.u64.wrap ((v : Int) - IntKind.u64.wrap (IntKind.u64.wrap ((v : Int) / Y1) * Y1))) = .int .u64 ((v % y1 : Nat) : Int) by rw [HC.out.1]; exact first_left v y1 (by omega) (by omega))
    have HW' := Lib.hid HW
    clear hr HW
    go_upto_block 2 with fail
    go_cut [18, 16] (fun x _ wx => x = .int .u64 (Divs.dq v u0 Y : Int) ∧ w = wx)
    case first =>
      go_wp2_with fail
      go_loop [18, 16] (fun x z => ∃ a b : Nat, Divs.Trial v u0 y1 y0 a b ∧ x = .int .u64 a ∧ z = .int .u64 b) (fun x _ => (intOf x).toNat)
      case atStart => exact ⟨_, _, Divs.start v u0 y1 y0 (by omega) (by omega) (by omega) (by omega) (by have := HQ.out; omega), HA2.out, HB2.out⟩
      case round =>
        obtain ⟨a, b, hT, rfl, rfl⟩ := hrel
        have hlt := hT.lt
        have hle := hT.le
        by_cases ha : 4294967296 ≤ a
        · have S1 := Lib.hid (fun h => Divs.step v u0 y1 y0 a b hT (by omega) (.inl ha) (by have := HQ.out; omega) (by omega) h)
          have S2 := Lib.hid (fun h => Divs.brk v u0 y1 y0 a b hT (by omega) (by omega) (.inl ha) (by have := HQ.out; omega) (by omega) h)
          generalize hA : (a : Int) = A
          generalize hB : (b : Int) = B
          have hA1 : 0 ≤ A ∧ A ≤ 4294967297 := by omega
          have hB1 : 0 ≤ B ∧ B < 4294967296 := by omega
          have HA := Lib.hid hA
          have HB := Lib.hid hB
          have hA2 : 4294967296 ≤ A := by omega
          clear hT hA hB ha hle hlt
          go_wp2
          · go_meet
            have hA := HA.out
            have hB := HB.out
            have hC := HC.out
            have := S2.out (by omega)
            exact ⟨by rw [HQ.out, ← this.2]; exact congrArg (Value.int .u64) (by omega), rfl⟩
          · have hA := HA.out
            have hB := HB.out
            have hC := HC.out
            have := S1.out (by omega)
            go_round
            case rel => exact ⟨a - 1, b + y1, this.2, congrArg (Value.int .u64) (by omega), congrArg (Value.int .u64) (by omega)⟩
            case measure => simp [intOf]; omega
        · have hmm : a * y0 ≤ 4294967295 * 4294967295 := Nat.mul_le_mul (by omega) (by omega)
          have ea : IntKind.u64.wrap ((a : Int) * Y0) = ((a * y0 : Nat) : Int) := by
            rw [HC.out.2.1, Mul64.mulN]; exact Mul64.wrapN _ (by omega)
          generalize hv : ((a * y0 : Nat) : Int) = m at ea
          by_cases ht : 4294967296 * b + u0 < a * y0
          · have S1 := Lib.hid (fun h => Divs.step v u0 y1 y0 a b hT (by omega) (.inr ht) (by have := HQ.out; omega) (by omega) h)
            have S2 := Lib.hid (fun h => Divs.brk v u0 y1 y0 a b hT (by omega) (by omega) (.inr ht) (by have := HQ.out; omega) (by omega) h)
            have hl1 : 1 ≤ a := by
              rcases Nat.eq_zero_or_pos a with h | h
              · subst h; simp at ht
              · exact h
            generalize hA : (a : Int) = A
            generalize hB : (b : Int) = B
            have hA1 : 0 ≤ A ∧ A ≤ 4294967297 := by omega
            have hB1 : 0 ≤ B ∧ B < 4294967296 := by omega
            have HA := Lib.hid hA
            have HB := Lib.hid hB
            have hA2 : 1 ≤ A ∧ A < 4294967296 := by omega
            have hm : 4294967296 * B + U0 < m := by have := HC.out; omega
            rw [hA] at ea
            clear hT hA hB ha hle hlt hl1 ht hmm hv
            go_wp2
            · go_meet
              have hA := HA.out
              have hB := HB.out
              have hC := HC.out
              have := S2.out (by omega)
              exact ⟨by rw [HQ.out, ← this.2]; exact congrArg (Value.int .u64) (by omega), rfl⟩
            · have hA := HA.out
              have hB := HB.out
              have hC := HC.out
              have := S1.out (by omega)
              go_round
              case rel => exact ⟨a - 1, b + y1, this.2, congrArg (Value.int .u64) (by omega), congrArg (Value.int .u64) (by omega)⟩
              case measure => simp [intOf]; omega
          · have S3 := Lib.hid (Divs.stop v u0 y1 y0 a b hT (by omega) (by omega))
            generalize hA : (a : Int) = A
            generalize hB : (b : Int) = B
            have hA1 : 0 ≤ A ∧ A ≤ 4294967297 := by omega
            have hB1 : 0 ≤ B ∧ B < 4294967296 := by omega
            have HA := Lib.hid hA
            have HB := Lib.hid hB
            have hA2 : A < 4294967296 := by omega
            have hm : ¬ 4294967296 * B + U0 < m := by have := HC.out; omega
            rw [hA] at ea
            clear hT hA hB ha hle hlt ht hmm hv
            go_wp2
            go_meet
            exact ⟨by rw [HQ.out, ← S3.out, HA.out], rfl⟩
    case rest =>
      obtain ⟨rfl, rfl⟩ := hcut
      have hr := Divs.rest v u0 Y s2 (Nat.lt_of_le_of_lt (Nat.zero_le _) hu)
      have hp0 := Divs.digit_lt v u0 Y hv l2
      generalize Divs.dq v u0 Y = p0 at *
      generalize Divs.dr v u0 Y = v0 at *
      have eR : IntKind.u64.wrap (IntKind.u64.wrap (IntKind.u64.wrap ((v : Int) * 4294967296) + U0) - IntKind.u64.wrap ((p0 : Int) * (Y : Int))) = (v0 : Int) := by
        rw [← hr, HC.out.2.2.2]
        simp only [IntKind.wrap_u64]
        generalize (p0 : Int) * (Y : Int) = pY
        omega
      clear hr
      go_wp2_with fail
      go_ret2
      refine ⟨congrArg Ending.returned (out_two p p0 v0 s _ _ hp hp0 HW'.out), rfl⟩

/-- Div64, wherever it does not panic -/
theorem div64 (hi lo y : Nat) (w : World) (hlo : lo < 18446744073709551616) (hy : y < 18446744073709551616) (h1 : hi < y) :
    Calls Tryz.prog 100 #[.int .u64 hi, .int .u64 lo, .int .u64 y] w fun e w' => e = .returned (.tuple #[.int .u64 (Divs.nq hi lo y : Int), .int .u64 (Divs.nr hi lo y : Int)]) ∧ ∃ k, w' = w.drewN k := by
  rcases Nat.eq_zero_or_pos hi with rfl | h0
  · refine (div64_low lo y w hlo hy h1).mono ?_
    rintro e w' ⟨rfl, hw⟩
    exact ⟨by simp [Divs.nq, Divs.nr], hw⟩
  · refine (div64_any hi lo y w hlo hy h0 h1).mono ?_
    rintro e w' ⟨rfl, rfl⟩
    exact ⟨rfl, 0, rfl⟩
theorem mul_div (a b y : Nat) : Divs.nq (a * b / 18446744073709551616) (a * b % 18446744073709551616) y = a * b / y ∧ Divs.nr (a * b / 18446744073709551616) (a * b % 18446744073709551616) y = a * b % y := by
  unfold Divs.nq Divs.nr
  rw [Nat.div_add_mod']
  exact ⟨rfl, rfl⟩
end Go.Proofs.YtdefjnefkdemiaaGreatDoor
