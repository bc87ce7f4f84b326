/- offer.WriteCode and handref1.WriteCodeOf. -/
import Derived.Test.YtdcanlkdhbmknaaGreatDoorWrPlain
import Derived.Test.YtdcanlkdhbmknaaGreatDoorLists
import Derived.Deep.DeepCutAuto
set_option linter.unusedVariables false
namespace Go.Proofs.YtdcanlkdhbmknaaGreatDoor
open Go.RowKit

theorem codeE_ok {s : ByteArray} (h : codeE s = 0) : 4 ≤ s.size ∧ s.size ≤ 24 := by
  unfold codeE at h
  split at h
  · omega
  · omega
/-- what WriteCode gives, beside the fault -/
def wcO (s : ByteArray) : ByteArray := if codeE s = 0 then wcV s else ⟨#[]⟩
theorem ext_self (s : ByteArray) : s.extract 0 s.size = s := byte_ext (by rw [ext_toList, List.drop_zero, Nat.sub_zero]; exact List.take_of_length_le (by rw [Array.length_toList]; exact Nat.le_refl _))
theorem ext_ext_head (s : ByteArray) (a : Nat) (h : 4 * a + 4 < s.size) : (s.extract (4 * a) s.size).extract 0 4 = s.extract (4 * a) (4 * a + 4) := byte_ext (by
  rw [ext_toList, ext_toList, ext_toList, List.drop_zero, List.take_take]
  congr 1
  omega)
theorem ext_ext_tail (s : ByteArray) (a : Nat) (h : 4 * a + 4 < s.size) : (s.extract (4 * a) s.size).extract 4 (s.size - 4 * a) = s.extract (4 * (a + 1)) s.size := byte_ext (by
  rw [ext_toList, ext_toList, ext_toList, List.drop_take, List.drop_drop, List.take_take]
  congr 1
  omega)
theorem ext_size_eq (s : ByteArray) (a : Nat) (h : a ≤ s.size) : (s.extract a s.size).size = s.size - a := by rw [ByteArray.size_extract]; omega

theorem wo_len (l : List UInt8) : ∀ n, (wo l n).length ≤ 2 * n := by
  intro n
  induction n with
  | zero => simp [wo]
  | succ n ih =>
    simp only [wo, List.length_append, List.length_take]
    split
    · simp only [List.length_append, List.length_singleton]; omega
    · omega

theorem wjoin_at (s : ByteArray) (k g c : Nat) (w : World) (hs : s.size ≤ 24) (h0 : 4 * k < s.size) (h1 : s.size ≤ 4 * k + 4) (h : StrsAt w (some ⟨g, 0, none⟩) (pcs s k ++ [s.extract (4 * k) s.size])) (hc : k + 1 ≤ c) :
    Calls Tryz.prog 31 #[.slice (some ⟨g, 0, none⟩) (k + 1) c, .string ⟨#[45]⟩] w fun e w' => e = .returned (.string (wcV s)) ∧ Below w.heap.size w w' := by
  have hl : (pcs s k ++ [s.extract (4 * k) s.size]).length = k + 1 := by rw [List.length_append, pcs_len]; rfl
  have hj := join_all s k h0 h1
  obtain ⟨p, off, hp, hlt, -⟩ := h 0 (by rw [hl]; omega)
  simp only [Option.some.injEq, Addr.mk.injEq] at hp
  obtain ⟨rfl, rfl, -⟩ := hp
  have hcs : ∀ (j : Nat) x, (pcs s k ++ [s.extract (4 * k) s.size])[j]? = some x → w.cell? ⟨g, 0 + j, none⟩ = some (.string x) := by
    intro j x hx
    obtain ⟨hj, rfl⟩ := List.getElem?_eq_some_iff.1 hx
    obtain ⟨p, off, hp, -, hcl⟩ := h j hj
    simp only [Option.some.injEq, Addr.mk.injEq] at hp
    obtain ⟨rfl, rfl, -⟩ := hp
    exact hcl
  have hlen : (Lib.join ((pcs s k ++ [s.extract (4 * k) s.size]).map (·.data.toList)) [45]).length ≤ 140737488355328 := by
    have e : (Lib.join ((pcs s k ++ [s.extract (4 * k) s.size]).map (·.data.toList)) [45]).length = (wcV s).size := by
      have := congrArg ByteArray.size hj
      rw [← this]
      rfl
    rw [e]
    have h2 : (wcV s).size = (wo s.data.toList s.size).length := by
      show ((wo s.data.toList s.size).toArray).size = _
      simp
    have := wo_len s.data.toList s.size
    omega
  have H := Tryz.strings_Join g 0 c (pcs s k ++ [s.extract (4 * k) s.size]) ⟨#[45]⟩ w hcs hlt (by rw [hl]; omega) (by rw [hl]; exact hc) hlen
  rw [hl] at H
  refine H.mono ?_
  rintro e w' ⟨rfl, hb⟩
  refine ⟨?_, hb⟩
  rw [← hj]

set_option maxRecDepth 100000 in
set_option maxHeartbeats 4000000 in
theorem WriteCode_any (s : ByteArray) (w : World) (hs : s.size ≤ 1000) :
    Calls Tryz.prog 11 #[.string s] w fun e w' => e = .returned (.tuple #[.string (wcO s), .int .i64 (codeE s)]) ∧ Below w.heap.size w w' := by
  obtain ⟨i0, hi, hz0, hz1, hz2'⟩ := info_parts infoStr
  have C1 := Lib.hid (fun w => CheckCode_any s w hs)
  have HO := Lib.hid (show wcO s = if codeE s = 0 then wcV s else ⟨#[]⟩ from rfl)
  have HS := Lib.hid (@codeE_ok s)
  generalize codeE s = E at *
  generalize wcO s = O at *
  go_enter Tryz.func11, Tryz.ntmps11
  go_wp2_with fail
  with_reducible refine (C1.out _).mono ?_
  rintro e w1 ⟨rfl, rfl⟩
  by_cases hE : E = 0
  · subst hE
    have hO := HO.out.trans (if_pos rfl)
    obtain ⟨hs4, hs24⟩ := HS.out rfl
    clear HO HS C1
    have HX := Lib.hid (ext_self s)
    have HJ := Lib.hid (wjoin_at s)
    rw [← hO] at HJ
    clear hO
    go_wp2_with fail
    go_loopw [0, 5] (fun c v wr => ∃ k : Nat, 4 * k < s.size ∧ c = .string (s.extract (4 * k) s.size) ∧ wr.ownsRow w.heap.size 9 1 v (pcs s k).length ((pcs s k).map Value.string) ∧ Below w.heap.size w wr) (fun c _ _ => (match c with | .string r => r.size | _ => 0))
    case atStart => exact ⟨0, by omega, by rw [Nat.mul_zero, HX.out], World.ownsRow_nil _ _ _ _, Below.refl _ _⟩
    case round =>
      obtain ⟨k, hk, rfl, hown, hB⟩ := hrel
      have hB1 := hB.size
      have HR := Lib.hid (ext_size_eq s (4 * k) (by omega))
      have hrs := HR.out
      have HPL := Lib.hid (pcs_len s k)
      have hpl := HPL.out
      by_cases hlt : 4 * k + 4 < s.size
      · have HH := Lib.hid (ext_ext_head s k hlt)
        have HT := Lib.hid (ext_ext_tail s k hlt)
        have HTS := Lib.hid (ext_size_eq s (4 * (k + 1)) (by omega))
        have HPS := Lib.hid (pcs_succ s k)
        generalize s.extract (4 * k) (4 * k + 4) = pc at *
        generalize s.extract (4 * k) s.size = r at *
        generalize pcs s k = l at *
        have HOW := Lib.hid hown
        have HBr := Lib.hid hB
        clear hown hB HR HX HJ
        have h4 : 4 < r.size := by omega
        have hh := HH.out
        have ht := HT.out
        go_wp2_with (at_builtin; refine wpList_append_own _ rfl _ _ 46 rfl w.heap.size 9 i0 _ 1 16 Tryz.underlying46 hi hz0 hz1 hz2' rfl (by decide) _ _ _ rfl (HOW.out.alloc _) ⟨wr.heap.size, 0, none⟩ 1 1 [.string pc] rfl rfl ?c1 ?c2 ?c3 ?c4 ?c5 ?_)
        case c1 => exact cells_new wr #[.string pc] 9
        case c2 => simp [Value.oneCell']
        case c3 => unfold maxLen; omega
        case c4 => omega
        case c5 => simp; omega
        intro v2 w6 own6 hgrow6 hne6
        have HOW6 : Hid (w6.ownsRow w.heap.size 9 1 v2 (k + 1) ((l ++ [pc]).map Value.string)) := Lib.hid (by
          rw [List.map_append]
          exact own6)
        have HB6 := Lib.hid ((HBr.out.alloc hB1 (.cells #[.string pc] 9)).grown hgrow6 (by simp; omega) (fun j hj => (HOW.out.lt j hj).1))
        clear own6 hgrow6 hne6
        go_wp2_with fail
        go_roundw
        case rel => exact ⟨k + 1, by omega, by rw [← HT.out], by rw [pcs_len, HPS.out]; exact HOW6.out, HB6.out⟩
        case measure => have := HTS.out; simp; omega
      · have hps := HPL.out
        have hown1 := hown
        rw [hps] at hown1
        have HBr := Lib.hid hB
        obtain ⟨l, hl⟩ : ∃ l, pcs s k = l := ⟨_, rfl⟩
        have HJ2 := Lib.hid (fun g c w h hc => HJ.out k g c w hs24 hk (by omega) h hc)
        rw [hl] at HJ2 hown1 hps
        have HLL := Lib.hid hps
        clear hown hB HX HJ hl HPL hpl hps
        generalize s.extract (4 * k) s.size = r at *
        have h4 : ¬ (4 < r.size) := by omega
        have HOW := Lib.hid hown1
        clear hown1
        go_wp2_with (at_builtin; refine wpList_append_own _ rfl _ _ 46 rfl w.heap.size 9 i0 _ 1 16 Tryz.underlying46 hi hz0 hz1 hz2' rfl (by decide) _ _ _ rfl (HOW.out.alloc _) ⟨wr.heap.size, 0, none⟩ 1 1 [.string r] rfl rfl ?c1 ?c2 ?c3 ?c4 ?c5 ?_)
        case c1 => exact cells_new wr #[.string r] 9
        case c2 => simp [Value.oneCell']
        case c3 => unfold maxLen; omega
        case c4 => omega
        case c5 => simp; omega
        intro v2 w6 own6 hgrow6 hne6
        have hSA : ∃ a c, v2 = .slice a (l ++ [r]).length c ∧ StrsAt w6 a (l ++ [r]) := StrsAt.of_own (b0 := w.heap.size) (t := 9) (by
          rw [List.length_append, HLL.out, List.map_append]
          exact own6)
        have HB6 := Lib.hid ((HBr.out.alloc hB1 (.cells #[.string r] 9)).grown hgrow6 (by simp; omega) (fun j hj => (HOW.out.lt j hj).1))
        obtain ⟨-, ⟨-, h0⟩ | ⟨g, cap, cur, rfl, -, -, hcap, -⟩⟩ := own6
        · omega
        obtain ⟨a, c, ha, hSA⟩ := hSA
        simp only [Value.slice.injEq] at ha
        obtain ⟨rfl, -, rfl⟩ := ha
        have HSA := Lib.hid hSA
        have hz6 := HB6.out.size
        clear hgrow6 hne6 hSA
        go_wp2_with fail
        with_reducible refine (HJ2.out _ _ _ HSA.out hcap).mono ?_
        rintro e w7 ⟨rfl, b7⟩
        go_wp2_with fail
        go_ret2
        exact ⟨rfl, HB6.out.trans (b7.mono hz6)⟩
  · have hE' : (E != 0) = true := by simp [hE]
    obtain rfl : O = ⟨#[]⟩ := HO.out.trans (if_neg hE)
    clear HO HS C1
    go_wp2_with fail
    go_ret2
    exact ⟨rfl, Below.refl _ _⟩

set_option maxRecDepth 100000 in
set_option maxHeartbeats 4000000 in
theorem WriteCodeOf_any (s : ByteArray) (w : World) (hs : s.size ≤ 1000) :
    Calls Tryz.prog 12 #[.string s] w fun e w' => e = .returned (.string (wcV s)) ∧ w = w' := by
  obtain ⟨V, hV⟩ : ∃ V, wcV s = V := ⟨_, rfl⟩
  have HV := Lib.hid (show V.data.toList = wo s.data.toList s.size by rw [← hV]; rfl)
  rw [hV]
  clear hV
  go_enter Tryz.func12, Tryz.ntmps12
  go_wp2_with fail
  go_loop [3, 4] (fun o i => ∃ (k : Nat) (b : ByteArray), k ≤ s.size ∧ i = .int .i64 k ∧ o = .string b ∧ b.data.toList = wo s.data.toList k) (fun _ i => s.size - (intOf i).toNat)
  case atStart => exact ⟨0, _, Nat.zero_le _, rfl, rfl, rfl⟩
  case round =>
    obtain ⟨k, b, hk, rfl, rfl, hb⟩ := hrel
    have hbs : b.size ≤ 2 * k := by rw [← byte_len, hb]; exact wo_len _ _
    have HBB := Lib.hid hb
    clear hb
    by_cases hlt : k < s.size
    · have HX := Lib.hid (show (s.extract k (k + 1)).data.toList = (s.data.toList.drop k).take 1 by rw [ext_toList, Nat.add_sub_cancel_left])
      have hxs : (s.extract k (k + 1)).size ≤ 1 := by rw [ByteArray.size_extract]; omega
      have HN := Lib.hid (fun h => wo_step s.data.toList k h)
      have HL := Lib.hid (fun h => wo_line s.data.toList k h)
      have z1 : ¬ (9223372036854775807 < b.size + (s.extract k (k + 1)).size) := by omega
      have z2 : ¬ (9223372036854775807 < b.size + 1) := by omega
      have z3 : ¬ (9223372036854775807 < b.size + 1 + (s.extract k (k + 1)).size) := by omega
      by_cases h0 : 0 < k
      · by_cases h4 : k % 4 = 0
        · have h4' : (k : Int).tmod 4 = 0 := by rw [Int.tmod_eq_emod_of_nonneg (by omega)]; omega
          go_wp2_with fail
          go_round
          case rel => exact ⟨k + 1, _, by omega, by go_num, rfl, by rw [HL.out ⟨h0, h4⟩, app_list, app_list, HBB.out, HX.out]⟩
          case measure => simp [intOf]; omega
        · have h4' : ¬ (k : Int).tmod 4 = 0 := by rw [Int.tmod_eq_emod_of_nonneg (by omega)]; omega
          go_wp2_with fail
          go_round
          case rel => exact ⟨k + 1, _, by omega, by go_num, rfl, by rw [HN.out (fun h => h4 h.2), app_list, HBB.out, HX.out]⟩
          case measure => simp [intOf]; omega
      · obtain rfl : k = 0 := by omega
        go_wp2_with fail
        go_round
        case rel => exact ⟨1, _, by omega, by go_num, rfl, by rw [HN.out (fun h => h0 h.1), app_list, HBB.out]; exact congrArg _ HX.out⟩
        case measure => simp [intOf]; omega
    · obtain rfl : k = s.size := by omega
      obtain rfl : b = V := byte_ext (HBB.out.trans HV.out.symm)
      go_wp2_with fail
      go_ret
      exact ⟨rfl, rfl⟩
end Go.Proofs.YtdcanlkdhbmknaaGreatDoor
