/- The contract of the reference ExactFault. -/
import Derived.Test.YtdnikegakcdcnaaInts
set_option linter.unusedVariables false
namespace Go.Proofs.Ytdnikegakcdcnaa
open Go.RowKit

/-- the error of the exact test's numbers -/
def exF (zs : List Int) : Int := if zs.any (fun z => decide (z < 0)) = true then 1 else if zs.any (fun z => decide (60 < z)) = true ∨ 60 < zs.sum then 2 else 0
theorem any_snoc (l : List Int) (p : Int → Bool) (k : Nat) (h : k < l.length) : (l.take (k + 1)).any p = ((l.take k).any p || p l[k]) := by
  rw [take_snoc_int l k h, List.any_append]; simp
theorem any_of_take (l : List Int) (p : Int → Bool) (k : Nat) (h : (l.take k).any p = true) : l.any p = true := by
  rw [List.any_eq_true] at h ⊢
  obtain ⟨x, hx, hp⟩ := h
  exact ⟨x, List.mem_of_mem_take hx, hp⟩
theorem any_at (l : List Int) (p : Int → Bool) (k : Nat) (h : k < l.length) (hp : p l[k] = true) : l.any p = true := by
  rw [List.any_eq_true]; exact ⟨_, List.getElem_mem h, hp⟩

set_option maxRecDepth 100000 in
set_option maxHeartbeats 1000000 in
theorem ExactFault_any (a : Option Addr) (zs : List Int) (n c : Nat) (w : World) (hn : zs.length = n) (hn1 : n ≤ 1000) (hr : IntsAt w a zs) :
    Calls Try.prog 23 #[.slice a n c] w fun e w' => e = .returned (.int .i64 (exF zs)) ∧ w = w' := by
  have HN := Lib.hid hn
  have HR := Lib.hid hr
  clear hn hr
  go_enter Try.func23, Try.ntmps23
  go_wp2
  go_loop [2, 4, 10] (fun r v i => r = .int .i64 0 ∧ ∃ k : Nat, k ≤ n ∧ i = .int .i64 k ∧ Hid ((zs.take k).any (fun z => decide (z < 0)) = false)) (fun _ _ i => n - (intOf i).toNat)
  case atStart => exact ⟨rfl, 0, Nat.zero_le _, rfl, rfl⟩
  case round =>
    obtain ⟨rfl, k, hk, rfl, HA⟩ := hrel
    by_cases hlt : k < n
    · have hkz : k < zs.length := by have := HN.out; omega
      obtain ⟨p, off, rfl, hp, hcell⟩ := HR.out.at_ hkz
      by_cases h0 : zs[k] < 0
      · have HE := Lib.hid (show exF zs = 1 by unfold exF; rw [if_pos (any_at zs _ k hkz (by simpa using h0))])
        generalize hz : zs[k] = z at *
        clear hz
        go_wp2
        go_ret
        exact ⟨ret_int HE.out.symm, rfl⟩
      · have HS := Lib.hid (any_snoc zs (fun z => decide (z < 0)) k hkz)
        have HX := Lib.hid (show decide (zs[k] < 0) = false by simpa using h0)
        generalize hz : zs[k] = z at *
        clear hz
        go_wp2
        go_round
        case rel => exact ⟨rfl, k + 1, by omega, by go_num, by show (zs.take (k + 1)).any _ = false; rw [HS.out, HA.out, HX.out]; rfl⟩
        case measure => simp [intOf]; omega
    · have HA2 := Lib.hid (show zs.any (fun z => decide (z < 0)) = false by have := HA.out; rwa [List.take_of_length_le (by have := HN.out; omega)] at this)
      have HNN := Lib.hid (show ∀ z ∈ zs, 0 ≤ z by
        intro z hz
        have := HA2.out
        rw [List.any_eq_false] at this
        have := this z hz
        simpa using this)
      clear HA
      go_wp2
      go_loop [2, 5, 7, 19] (fun r s v i => r = .int .i64 0 ∧ ∃ k : Nat, k ≤ n ∧ i = .int .i64 k ∧ s = .int .i64 (zs.take k).sum ∧ Hid ((zs.take k).any (fun z => decide (60 < z)) = false)) (fun _ _ _ i => n - (intOf i).toNat)
      case atStart => exact ⟨rfl, 0, Nat.zero_le _, rfl, rfl, rfl⟩
      case round =>
        obtain ⟨rfl, k, hk, rfl, rfl, HA⟩ := hrel
        have HL : Hid (∀ z ∈ zs.take k, 0 ≤ z ∧ z ≤ 60) := Lib.hid (by
          intro z hz
          refine ⟨HNN.out z (List.mem_of_mem_take hz), ?_⟩
          have := HA.out
          rw [List.any_eq_false] at this
          have := this z hz
          simpa using this)
        obtain ⟨s1, s2⟩ := sum_bd (zs.take k) 60 HL.out
        have s3 : 60 * ((zs.take k).length : Int) ≤ 60000 := by
          have : (zs.take k).length ≤ k := List.length_take_le _ _
          omega
        clear HL
        by_cases hlt : k < n
        · have hkz : k < zs.length := by have := HN.out; omega
          obtain ⟨p, off, rfl, hp, hcell⟩ := HR.out.at_ hkz
          have z0 := HNN.out zs[k] (List.getElem_mem hkz)
          by_cases h0 : 60 < zs[k]
          · have HE := Lib.hid (show exF zs = 2 by unfold exF; rw [if_neg (by rw [HA2.out]; simp), if_pos (.inl (any_at zs _ k hkz (by simpa using h0)))])
            generalize hz : zs[k] = z at *
            clear hz
            go_wp2
            go_ret
            exact ⟨ret_int HE.out.symm, rfl⟩
          · have HS := Lib.hid (any_snoc zs (fun z => decide (60 < z)) k hkz)
            have HX := Lib.hid (show decide (60 < zs[k]) = false by simpa using h0)
            have HT := Lib.hid (sum_snoc zs k hkz)
            generalize hz : zs[k] = z at *
            clear hz
            generalize (zs.take k).sum = s at *
            generalize ((zs.take k).length : Int) = l at *
            go_wp2
            go_round
            case rel => exact ⟨rfl, k + 1, by omega, by go_num, by rw [HT.out], by show (zs.take (k + 1)).any _ = false; rw [HS.out, HA.out, HX.out]; rfl⟩
            case measure => simp [intOf]; omega
        · have e : zs.take k = zs := List.take_of_length_le (by have := HN.out; omega)
          rw [e] at HA s1 s2 s3 ⊢
          clear e
          by_cases h6 : 60 < zs.sum
          · have HE := Lib.hid (show exF zs = 2 by unfold exF; rw [if_neg (by rw [HA2.out]; simp), if_pos (.inr h6)])
            generalize zs.sum = s at *
            go_wp2
            go_ret
            exact ⟨ret_int HE.out.symm, rfl⟩
          · have HE := Lib.hid (show exF zs = 0 by unfold exF; rw [if_neg (by rw [HA2.out]; simp), if_neg (by rw [HA.out]; simp; omega)])
            generalize zs.sum = s at *
            go_wp2
            go_ret
            exact ⟨ret_int HE.out.symm, rfl⟩
end Go.Proofs.Ytdnikegakcdcnaa
