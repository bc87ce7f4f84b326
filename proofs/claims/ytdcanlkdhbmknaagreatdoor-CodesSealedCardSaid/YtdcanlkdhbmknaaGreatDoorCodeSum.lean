/- Signs, sums and seals of codes: offer.areSigns, sum, seal, CheckCode; handref1.codeSum, SealOf, CodeFault. -/
import Derived.Test.YtdcanlkdhbmknaaGreatDoorCodeP
import Derived.Test.YtdcanlkdhbmknaaGreatDoorOffers
import Derived.Test.YtdcanlkdhbmknaaGreatDoorKeyOf
set_option linter.unusedVariables false
namespace Go.Proofs.YtdcanlkdhbmknaaGreatDoor
open Go.RowKit

theorem ix_any (c : UInt8) (w : World) :
    Calls Tryz.prog 46 #[.string ⟨#[48, 49, 50, 51, 52, 53, 54, 55, 56, 57, 65, 66, 67, 68, 69, 70, 71, 72, 74, 75, 77, 78, 80, 81, 82, 84, 85, 86, 87, 88, 89]⟩, .int .u8 (c.toNat : Int)] w fun e w' => e = .returned (.int .i64 (ixS c)) ∧ w = w' :=
  sign_at c (ixS c) w rfl

theorem sgnB_succ (s : ByteArray) (k : Nat) (h : k < s.size) : sgnB (s.data.toList.take (k + 1)) = (sgnB (s.data.toList.take k) && decide (0 ≤ ixS s[k])) := by
  rw [List.take_succ_eq_append_getElem (by simpa using h), sgnB_app]
  congr 1
  unfold sgnB
  rw [List.all_cons, List.all_nil, Bool.and_true, ixS_mem]
  rfl
theorem sgnB_of_take (s : ByteArray) (k : Nat) (h : s.size ≤ k) : sgnB (s.data.toList.take k) = sgnB s.data.toList := by
  rw [List.take_of_length_le (by simpa using h)]
theorem sgnB_no (s : ByteArray) (k : Nat) (h : k < s.size) (hc : ixS s[k] < 0) : sgnB s.data.toList = false := by
  have e := sgnB_succ s k h
  rw [decide_eq_false (by omega : ¬ 0 ≤ ixS s[k]), Bool.and_false] at e
  rw [← List.take_append_drop (k + 1) s.data.toList, sgnB_app, e]
  rfl

theorem areSigns_any (s : ByteArray) (w : World) (hs : s.size ≤ maxLen) :
    Calls Tryz.prog 26 #[.string s] w fun e w' => e = .returned (.bool (sgnB s.data.toList)) ∧ w = w' := by
  unfold maxLen at hs
  go_enter Tryz.func26, Tryz.ntmps26
  go_wp2_with fail
  go_loop [6] (fun i => ∃ k : Nat, k ≤ s.size ∧ i = .int .i64 k ∧ sgnB (s.data.toList.take k) = true) (fun i => s.size - (intOf i).toNat)
  case atStart => exact ⟨0, Nat.zero_le _, rfl, rfl⟩
  case round =>
    obtain ⟨k, hk, rfl, hall⟩ := hrel
    have HA := Lib.hid hall
    clear hall
    by_cases hlt : k < s.size
    · have HT := Lib.hid (sgnB_succ s k hlt)
      have HN := Lib.hid (sgnB_no s k hlt)
      have C := Lib.hid (fun w => ix_any s[k] w)
      obtain ⟨x, hx⟩ : ∃ x, ixS s[k] = x := ⟨_, rfl⟩
      rw [hx] at HT HN C
      clear hx
      by_cases h0 : x < 0
      · go_wp2_with fail
        with_reducible refine (C.out _).mono ?_
        rintro e w1 ⟨rfl, rfl⟩
        go_wp2
        go_ret
        exact ⟨ret_bool (HN.out h0).symm, rfl⟩
      · go_wp2_with fail
        with_reducible refine (C.out _).mono ?_
        rintro e w1 ⟨rfl, rfl⟩
        go_wp2
        go_round
        case rel => exact ⟨k + 1, by omega, by go_num, by rw [HT.out, HA.out, decide_eq_true (by omega : 0 ≤ x)]; rfl⟩
        case measure => simp [intOf]; omega
    · have HF := Lib.hid (sgnB_of_take s k (by omega))
      go_wp2_with fail
      go_ret
      exact ⟨ret_bool (HF.out.symm.trans HA.out).symm, rfl⟩

theorem sumN_succ (s : ByteArray) (k : Nat) (h : k < s.size) : sumN (s.data.toList.take (k + 1)) 0 = sumN (s.data.toList.take k) 0 + ((k : Int) + 1) * ixS s[k] := by
  rw [List.take_succ_eq_append_getElem (by simpa using h), sumN_snoc]
  have hl : (s.data.toList.take k).length = k := by
    rw [List.length_take, Array.length_toList]
    have : s.data.size = s.size := rfl
    omega
  rw [hl]
  simp only [Int.natCast_zero, Int.zero_add]
  rfl
theorem sumN_take_bd (s : ByteArray) (k : Nat) (h : k ≤ s.size) (hs : s.size ≤ 1000) : -1000000 ≤ sumN (s.data.toList.take k) 0 ∧ sumN (s.data.toList.take k) 0 ≤ 30000000 := by
  have hl : (s.data.toList.take k).length = k := by
    rw [List.length_take, Array.length_toList]
    have : s.data.size = s.size := rfl
    omega
  have := sumN_bd 1000 (s.data.toList.take k) 0 (by rw [hl]; omega)
  rw [hl] at this
  omega
theorem sumN_of_take (s : ByteArray) (k : Nat) (h : s.size ≤ k) : (sumN (s.data.toList.take k) 0).tmod 31 = codeV s := by
  rw [List.take_of_length_le (by simpa using h)]; rfl

set_option maxHeartbeats 1000000 in
theorem sum_any (s t : ByteArray) (h : s = t) (w : World) (hs : t.size ≤ 1000) :
    Calls Tryz.prog 30 #[.string s] w fun e w' => e = .returned (.int .i64 (codeV t)) ∧ w = w' := by
  subst h
  go_enter Tryz.func30, Tryz.ntmps30
  go_wp2_with fail
  go_loop [3, 7] (fun n i => ∃ (k : Nat) (z : Int), k ≤ s.size ∧ i = .int .i64 k ∧ n = .int .i64 z ∧ z = sumN (s.data.toList.take k) 0) (fun _ i => s.size - (intOf i).toNat)
  case atStart => exact ⟨0, _, Nat.zero_le _, rfl, rfl, rfl⟩
  case round =>
    obtain ⟨k, z, hk, rfl, rfl, hz⟩ := hrel
    have hb := sumN_take_bd s k hk hs
    rw [← hz] at hb
    by_cases hlt : k < s.size
    · have hb2 := sumN_take_bd s (k + 1) hlt hs
      have HT := Lib.hid (sumN_succ s k hlt)
      rw [HT.out, ← hz] at hb2
      rw [← hz] at HT
      have hm := mul_bd ((k : Int) + 1) (ixS s[k]) (by omega) (ixS_bd _)
      have C := Lib.hid (fun w => ix_any s[k] w)
      obtain ⟨x, hx⟩ : ∃ x, ixS s[k] = x := ⟨_, rfl⟩
      rw [hx] at HT C hm hb2
      clear hx hz
      have e1 : IntKind.i64.wrap (((k : Int) + 1) * x) = ((k : Int) + 1) * x := by rw [IntKind.wrap_i64]; omega
      have e2 : IntKind.i64.wrap (z + ((k : Int) + 1) * x) = z + ((k : Int) + 1) * x := by rw [IntKind.wrap_i64]; omega
      have E1 := Lib.hid e1
      have E2 := Lib.hid e2
      clear e1 e2 hm
      go_wp2_with fail
      with_reducible refine (C.out _).mono ?_
      rintro e w1 ⟨rfl, rfl⟩
      have e1 := E1.out
      have e2 := E2.out
      clear hb hb2
      go_wp2
      clear e1 e2
      go_round
      case rel => exact ⟨k + 1, _, by omega, by go_num, rfl, by rw [HT.out]⟩
      case measure => simp [intOf]; omega
    · have HF := Lib.hid (sumN_of_take s k (by omega))
      rw [← hz] at HF
      clear hz
      go_wp2_with fail
      go_ret
      exact ⟨ret_int HF.out, rfl⟩

set_option maxHeartbeats 1000000 in
theorem codeSum_any (s t : ByteArray) (h : s = t) (w : World) (hs : t.size ≤ 1000) :
    Calls Tryz.prog 29 #[.string s] w fun e w' => e = .returned (.int .i64 (codeV t)) ∧ w = w' := by
  subst h
  go_enter Tryz.func29, Tryz.ntmps29
  go_wp2_with fail
  go_loop [3, 4] (fun n i => ∃ (k : Nat) (z : Int), k ≤ s.size ∧ i = .int .i64 k ∧ n = .int .i64 z ∧ z = sumN (s.data.toList.take k) 0) (fun _ i => s.size - (intOf i).toNat)
  case atStart => exact ⟨0, _, Nat.zero_le _, rfl, rfl, rfl⟩
  case round =>
    obtain ⟨k, z, hk, rfl, rfl, hz⟩ := hrel
    have hb := sumN_take_bd s k hk hs
    rw [← hz] at hb
    by_cases hlt : k < s.size
    · have hb2 := sumN_take_bd s (k + 1) hlt hs
      have HT := Lib.hid (sumN_succ s k hlt)
      rw [HT.out, ← hz] at hb2
      rw [← hz] at HT
      have hm := mul_bd ((k : Int) + 1) (ixS s[k]) (by omega) (ixS_bd _)
      have C := Lib.hid (fun w => ix_any s[k] w)
      obtain ⟨x, hx⟩ : ∃ x, ixS s[k] = x := ⟨_, rfl⟩
      rw [hx] at HT C hm hb2
      clear hx hz
      have e1 : IntKind.i64.wrap (((k : Int) + 1) * x) = ((k : Int) + 1) * x := by rw [IntKind.wrap_i64]; omega
      have e2 : IntKind.i64.wrap (z + ((k : Int) + 1) * x) = z + ((k : Int) + 1) * x := by rw [IntKind.wrap_i64]; omega
      have E1 := Lib.hid e1
      have E2 := Lib.hid e2
      clear e1 e2 hm
      go_wp2_with fail
      with_reducible refine (C.out _).mono ?_
      rintro e w1 ⟨rfl, rfl⟩
      have e1 := E1.out
      have e2 := E2.out
      clear hb hb2
      go_wp2
      clear e1 e2
      go_round
      case rel => exact ⟨k + 1, _, by omega, by go_num, rfl, by rw [HT.out]⟩
      case measure => simp [intOf]; omega
    · have HF := Lib.hid (sumN_of_take s k (by omega))
      rw [← hz] at HF
      clear hz
      go_wp2_with fail
      go_ret
      exact ⟨ret_int HF.out, rfl⟩

/-- what CheckCode and CodeFault say -/
def codeE (s : ByteArray) : Int := if s.size < 4 ∨ 24 < s.size then 2 else if sgnB s.data.toList = false then 3 else if codeV s ≠ 0 then 15 else 0

theorem made_sgn (s : ByteArray) (w : World) (hs : s.size ≤ maxLen) :
    Calls Tryz.prog 28 #[.string s, .string ⟨#[48, 49, 50, 51, 52, 53, 54, 55, 56, 57, 65, 66, 67, 68, 69, 70, 71, 72, 74, 75, 77, 78, 80, 81, 82, 84, 85, 86, 87, 88, 89]⟩] w fun e w' => e = .returned (.bool (sgnB s.data.toList)) ∧ Below w.heap.size w w' :=
  made_any s sgL w hs (by decide) (by decide)

set_option maxHeartbeats 1000000 in
theorem CheckCode_any (s : ByteArray) (w : World) (hs : s.size ≤ 1000) :
    Calls Tryz.prog 9 #[.string s] w fun e w' => e = .returned (.int .i64 (codeE s)) ∧ w = w' := by
  obtain ⟨E, hE⟩ : ∃ E, codeE s = E := ⟨_, rfl⟩
  rw [hE]
  have HE := Lib.hid hE.symm
  unfold codeE at HE
  clear hE
  have C1 := Lib.hid (fun w => areSigns_any s w (by unfold maxLen; omega))
  have C2 := Lib.hid (fun w => sum_any s s rfl w hs)
  generalize sgnB s.data.toList = b at *
  generalize codeV s = v at *
  by_cases hsz : s.size < 4 ∨ 24 < s.size
  · obtain rfl : E = 2 := HE.out.trans (if_pos hsz)
    go_enter Tryz.func9, Tryz.ntmps9
    go_wp2_with fail
    with_reducible refine (owithin_no _ _ _ _ (by omega)).mono ?_
    rintro e w1 ⟨rfl, rfl⟩
    go_wp2
    go_ret
    exact ⟨rfl, rfl⟩
  · have HE1 := Lib.hid (HE.out.trans (if_neg hsz))
    clear HE
    go_enter Tryz.func9, Tryz.ntmps9
    go_wp2_with fail
    with_reducible refine (owithin_yes _ _ _ _ (by omega) (by omega)).mono ?_
    rintro e w1 ⟨rfl, rfl⟩
    go_wp2_with fail
    with_reducible refine (C1.out _).mono ?_
    rintro e w1 ⟨rfl, rfl⟩
    cases b with
    | false =>
      obtain rfl : E = 3 := HE1.out.trans (if_pos rfl)
      go_wp2_with fail
      go_ret
      exact ⟨rfl, rfl⟩
    | true =>
      have HE2 := Lib.hid (HE1.out.trans (if_neg (by decide)))
      clear HE1
      go_wp2_with fail
      with_reducible refine (C2.out _).mono ?_
      rintro e w1 ⟨rfl, rfl⟩
      by_cases hv : v = 0
      · obtain rfl : E = 0 := HE2.out.trans (if_neg (by simpa using hv))
        subst hv
        go_wp2_with fail
        go_ret
        exact ⟨rfl, rfl⟩
      · obtain rfl : E = 15 := HE2.out.trans (if_pos hv)
        go_wp2_with fail
        go_ret
        exact ⟨rfl, rfl⟩

set_option maxHeartbeats 1000000 in
theorem CodeFault_any (s : ByteArray) (w : World) (hs : s.size ≤ 1000) :
    Calls Tryz.prog 10 #[.string s] w fun e w' => e = .returned (.int .i64 (codeE s)) ∧ Below w.heap.size w w' := by
  obtain ⟨E, hE⟩ : ∃ E, codeE s = E := ⟨_, rfl⟩
  rw [hE]
  have HE := Lib.hid hE.symm
  unfold codeE at HE
  clear hE
  have C1 := Lib.hid (fun w => made_sgn s w (by unfold maxLen; omega))
  have C2 := Lib.hid (fun w => codeSum_any s s rfl w hs)
  generalize sgnB s.data.toList = b at *
  generalize codeV s = v at *
  by_cases hsz : s.size < 4 ∨ 24 < s.size
  · obtain rfl : E = 2 := HE.out.trans (if_pos hsz)
    rcases hsz with hsz | hsz
    · go_enter Tryz.func10, Tryz.ntmps10
      go_wp2
      go_ret
      exact ⟨rfl, Below.refl _ _⟩
    · have h4 : ¬ s.size < 4 := by omega
      go_enter Tryz.func10, Tryz.ntmps10
      go_wp2
      go_ret
      exact ⟨rfl, Below.refl _ _⟩
  · have HE1 := Lib.hid (HE.out.trans (if_neg hsz))
    have h4 : ¬ s.size < 4 := by omega
    have h5 : ¬ 24 < s.size := by omega
    clear HE hsz
    go_enter Tryz.func10, Tryz.ntmps10
    go_wp2_with fail
    with_reducible refine (C1.out _).mono ?_
    rintro e w1 ⟨rfl, hb⟩
    cases b with
    | false =>
      obtain rfl : E = 3 := HE1.out.trans (if_pos rfl)
      go_wp2_with fail
      go_ret
      exact ⟨rfl, hb⟩
    | true =>
      have HE2 := Lib.hid (HE1.out.trans (if_neg (by decide)))
      clear HE1
      go_wp2_with fail
      with_reducible refine (C2.out _).mono ?_
      rintro e w1 ⟨rfl, rfl⟩
      by_cases hv : v = 0
      · obtain rfl : E = 0 := HE2.out.trans (if_neg (by simpa using hv))
        subst hv
        go_wp2_with fail
        go_ret
        exact ⟨rfl, hb⟩
      · obtain rfl : E = 15 := HE2.out.trans (if_pos hv)
        go_wp2_with fail
        go_ret
        exact ⟨rfl, hb⟩

set_option maxHeartbeats 1000000 in
theorem seal_any (b : ByteArray) (w : World) (hs : b.size ≤ 100) :
    Calls Tryz.prog 27 #[.string b] w fun e w' => e = .returned (.string (sealS b)) ∧ w = w' := by
  obtain ⟨V, hV⟩ : ∃ V, sealS b = V := ⟨_, rfl⟩
  rw [hV]
  have HV := Lib.hid hV.symm
  clear hV
  have z1 : ¬ (9223372036854775807 < b.size + 1) := by omega
  go_enter Tryz.func27, Tryz.ntmps27
  go_wp2_with fail
  go_loop [5] (fun i => ∃ k : Nat, k ≤ 31 ∧ i = .int .i64 k ∧ V = sealF b (31 - k) k) (fun i => 31 - (intOf i).toNat)
  case atStart => exact ⟨0, Nat.zero_le _, rfl, HV.out⟩
  case round =>
    obtain ⟨k, hk, rfl, hrel⟩ := hrel
    have HR := Lib.hid hrel
    clear hrel
    by_cases hlt : k < 31
    · have HS := Lib.hid (HR.out.trans (sealF_step b k hlt))
      have C := Lib.hid (fun w (s : ByteArray) (h : s = b ++ sgn k) => sum_any s (b ++ sgn k) h w (by rw [ByteArray.size_append, sgn_size k hlt]; omega))
      have hss := sgn_size k hlt
      obtain ⟨g, hg⟩ : ∃ g, sgn k = g := ⟨_, rfl⟩
      rw [hg] at HS C hss
      have HG := Lib.hid hg
      unfold sgn sgS at HG
      generalize codeV (b ++ g) = v at *
      clear hg
      have hsl : (⟨#[48, 49, 50, 51, 52, 53, 54, 55, 56, 57, 65, 66, 67, 68, 69, 70, 71, 72, 74, 75, 77, 78, 80, 81, 82, 84, 85, 86, 87, 88, 89]⟩ : ByteArray).extract k (k + 1) = g := HG.out
      by_cases hv : v = 0
      · go_wp2_with fail
        with_reducible refine (C.out _ _ rfl).mono ?_
        rintro e w1 ⟨rfl, rfl⟩
        go_wp2_with fail
        go_ret
        exact ⟨by rw [HS.out, if_pos hv]; rfl, rfl⟩
      · go_wp2_with fail
        with_reducible refine (C.out _ _ rfl).mono ?_
        rintro e w1 ⟨rfl, rfl⟩
        go_wp2_with fail
        go_round
        case rel => exact ⟨k + 1, by omega, by go_num, by rw [HS.out, if_neg hv]⟩
        case measure => simp [intOf]; omega
    · obtain rfl : k = 31 := by omega
      obtain rfl : V = b := HR.out
      go_wp2_with fail
      go_ret
      exact ⟨rfl, rfl⟩

/-- what SealOf gives -/
def sealO (b : ByteArray) : ByteArray × Int := if b.size < 3 ∨ 23 < b.size then (⟨#[]⟩, 2) else if sgnB b.data.toList = false then (⟨#[]⟩, 3) else (sealS b, 0)
theorem sealO_size (b : ByteArray) : (sealO b).1.size ≤ b.size + 1 := by
  unfold sealO
  split
  · exact Nat.zero_le _
  · split
    · exact Nat.zero_le _
    · exact sealS_size b

theorem sealF_none (b : ByteArray) : ∀ f i, i + f = 31 → sealF b f i = b → (∀ j, j < i → codeV (b ++ sgn j) ≠ 0) → ∀ j, j < 31 → codeV (b ++ sgn j) ≠ 0
  | 0, i, h, _, ha => fun j hj => ha j (by omega)
  | f + 1, i, h, he, ha => by
    unfold sealF at he
    split at he
    · exfalso
      have h1 : (b ++ sgn i).size = b.size := by rw [he]
      rw [ByteArray.size_append, sgn_size i (by omega)] at h1
      omega
    · rename_i hne
      refine sealF_none b f (i + 1) (by omega) he fun j hj => ?_
      by_cases e : j = i
      · subst e; exact hne
      · exact ha j (by omega)
theorem sealS_ne (b : ByteArray) (hb : sgnB b.data.toList = true) (hs : b.size < 30) : sealS b ≠ b := by
  intro h
  obtain ⟨i, hi, hx⟩ := seal_ex b hb hs
  exact sealF_none b 31 0 (by omega) h (fun j hj => by omega) i hi hx

set_option maxHeartbeats 2000000 in
theorem SealOf_any (b : ByteArray) (w : World) (hs : b.size ≤ 100) :
    Calls Tryz.prog 8 #[.string b] w fun e w' => e = .returned (.tuple #[.string (sealO b).1, .int .i64 (sealO b).2]) ∧ Below w.heap.size w w' := by
  obtain ⟨E, hE⟩ : ∃ E, sealO b = E := ⟨_, rfl⟩
  rw [hE]
  have HE := Lib.hid hE.symm
  unfold sealO at HE
  clear hE
  have C1 := Lib.hid (fun w => made_sgn b w (by unfold maxLen; omega))
  obtain ⟨V, hV⟩ : ∃ V, sealS b = V := ⟨_, rfl⟩
  have HV := Lib.hid hV.symm
  have HNE := Lib.hid (fun h => sealS_ne b h)
  rw [hV] at HE HNE
  clear hV
  generalize sgnB b.data.toList = sb at *
  have z1 : ¬ (9223372036854775807 < b.size + 1) := by omega
  by_cases hsz : b.size < 3 ∨ 23 < b.size
  · obtain rfl : E = (⟨#[]⟩, 2) := HE.out.trans (if_pos hsz)
    rcases hsz with hsz | hsz
    · go_enter Tryz.func8, Tryz.ntmps8
      go_wp2
      go_ret2
      exact ⟨rfl, Below.refl _ _⟩
    · have h4 : ¬ b.size < 3 := by omega
      go_enter Tryz.func8, Tryz.ntmps8
      go_wp2
      go_ret2
      exact ⟨rfl, Below.refl _ _⟩
  · have HE1 := Lib.hid (HE.out.trans (if_neg hsz))
    have h4 : ¬ b.size < 3 := by omega
    have h5 : ¬ 23 < b.size := by omega
    clear HE hsz
    go_enter Tryz.func8, Tryz.ntmps8
    go_wp2_with fail
    with_reducible refine (C1.out _).mono ?_
    rintro e w1 ⟨rfl, hb⟩
    cases sb with
    | false =>
      obtain rfl : E = (⟨#[]⟩, 3) := HE1.out.trans (if_pos rfl)
      go_wp2_with fail
      go_ret2
      exact ⟨rfl, hb⟩
    | true =>
      obtain rfl : E = (V, 0) := HE1.out.trans (if_neg (by decide))
      have HNE2 := Lib.hid (HNE.out rfl (by omega))
      clear HE1 HNE
      go_wp2_with fail
      go_loop [17] (fun i => ∃ k : Nat, k ≤ 31 ∧ i = .int .i64 k ∧ V = sealF b (31 - k) k) (fun i => 31 - (intOf i).toNat)
      case atStart => exact ⟨0, Nat.zero_le _, rfl, HV.out⟩
      case round =>
        obtain ⟨k, hk, rfl, hrel⟩ := hrel
        have HR := Lib.hid hrel
        clear hrel
        by_cases hlt : k < 31
        · have HS := Lib.hid (HR.out.trans (sealF_step b k hlt))
          have C := Lib.hid (fun w (s : ByteArray) (h : s = b ++ sgn k) => codeSum_any s (b ++ sgn k) h w (by rw [ByteArray.size_append, sgn_size k hlt]; omega))
          have hss := sgn_size k hlt
          obtain ⟨g, hg⟩ : ∃ g, sgn k = g := ⟨_, rfl⟩
          rw [hg] at HS C hss
          have HG := Lib.hid hg
          unfold sgn sgS at HG
          generalize codeV (b ++ g) = v at *
          clear hg
          have hsl : (⟨#[48, 49, 50, 51, 52, 53, 54, 55, 56, 57, 65, 66, 67, 68, 69, 70, 71, 72, 74, 75, 77, 78, 80, 81, 82, 84, 85, 86, 87, 88, 89]⟩ : ByteArray).extract k (k + 1) = g := HG.out
          by_cases hv : v = 0
          · go_wp2_with fail
            with_reducible refine (C.out _ _ rfl).mono ?_
            rintro e w1 ⟨rfl, rfl⟩
            go_wp2_with fail
            go_ret2
            exact ⟨by rw [HS.out, if_pos hv]; rfl, hb⟩
          · go_wp2_with fail
            with_reducible refine (C.out _ _ rfl).mono ?_
            rintro e w1 ⟨rfl, rfl⟩
            go_wp2_with fail
            go_round
            case rel => exact ⟨k + 1, by omega, by go_num, by rw [HS.out, if_neg hv]⟩
            case measure => simp [intOf]; omega
        · obtain rfl : k = 31 := by omega
          exact absurd HR.out HNE2.out
end Go.Proofs.YtdcanlkdhbmknaaGreatDoor
