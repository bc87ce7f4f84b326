/- Contracts of cmp.Or at ints, measure.products, measure.compare, measure.Compare. -/
import Derived.Test.YtfdpfkdfglombaaGreatDoorRight
import Derived.Test.YtfdpfkdfglombaaGreatDoorShelf
set_option linter.unusedVariables false
namespace Go.Proofs.YtfdpfkdfglombaaGreatDoor
open Go.RowKit

/-- the first number that is not 0 -/
def orF : List Int → Int
  | [] => 0
  | x :: l => if x = 0 then orF l else x
theorem orF_drop (zs : List Int) (k : Nat) (hk : k < zs.length) : orF (zs.drop k) = if zs[k] = 0 then orF (zs.drop (k + 1)) else zs[k] := by
  rw [List.drop_eq_getElem_cons hk]; rfl

theorem or_any (h : Nat) (zs : List Int) (n c : Nat) (w : World) (hn : zs.length = n) (hn1 : n ≤ 1000)
    (hb : w.heap[h]? = some (.cells (zs.map (Value.int .i64)).toArray 3 (0, 0))) :
    Calls Tryz.prog 113 #[.slice (some ⟨h, 0, none⟩) n c] w fun e w' => e = .returned (.int .i64 (orF zs)) ∧ w = w' := by
  have HB := Lib.hid hb
  have HN := Lib.hid hn
  clear hb hn
  go_enter Tryz.func113, Tryz.ntmps113
  go_wp2
  go_loop [2, 5, 8] (fun r v i => r = .int .i64 0 ∧ ∃ k : Nat, k ≤ n ∧ i = .int .i64 k ∧ Hid (orF (zs.drop k) = orF zs)) (fun _ _ i => n - (intOf i).toNat)
  case atStart => exact ⟨rfl, 0, Nat.zero_le _, rfl, rfl⟩
  case round =>
    obtain ⟨rfl, k, hk, rfl, HO⟩ := hrel
    by_cases hlt : k < n
    · have hkz : k < zs.length := by have := HN.out; omega
      have hcell : w.cell? ⟨h, k, none⟩ = some (.int .i64 zs[k]) := by simp [World.cell?, HB.out, hkz]
      have HD := Lib.hid (orF_drop zs k hkz)
      generalize hz : zs[k] = z at *
      clear hz
      by_cases h0 : z = 0
      · subst h0
        go_wp2
        go_round
        case rel => exact ⟨rfl, k + 1, by omega, by go_num, by show orF (zs.drop (k + 1)) = _; rw [← HO.out, HD.out, if_pos rfl]⟩
        case measure => simp [intOf]; omega
      · have e1 : (z != 0) = true := by simp [h0]
        go_wp2
        go_ret
        exact ⟨ret_int (by rw [← HO.out, HD.out, if_neg h0]), rfl⟩
    · go_wp2
      go_ret
      refine ⟨ret_int ?_, rfl⟩
      rw [← HO.out, List.drop_of_length_le (by have := HN.out; omega)]
      rfl

theorem cmp_split (X Y : Nat) : orF [Frac.cmpI ((X / 18446744073709551616 : Nat) : Int) ((Y / 18446744073709551616 : Nat) : Int), Frac.cmpI ((X % 18446744073709551616 : Nat) : Int) ((Y % 18446744073709551616 : Nat) : Int)] = Frac.cmpI X Y := by
  simp only [orF]
  rcases Frac.cmpI_cases ((X / 18446744073709551616 : Nat) : Int) ((Y / 18446744073709551616 : Nat) : Int) with ⟨h1, k1⟩ | ⟨h1, k1⟩ | ⟨h1, k1⟩ <;>
  rcases Frac.cmpI_cases ((X % 18446744073709551616 : Nat) : Int) ((Y % 18446744073709551616 : Nat) : Int) with ⟨h2, k2⟩ | ⟨h2, k2⟩ | ⟨h2, k2⟩ <;>
  rw [k1, k2] <;> simp <;> first | (rw [Frac.cmpI_lt (by omega)]) | (rw [Frac.cmpI_gt (by omega)]) | (rw [Frac.cmpI_eq (by omega)])

theorem right_parts {n d : Int} (h : Frac.rightB n d = true) : -4611686018427387904 ≤ n ∧ n ≤ 4611686018427387904 ∧ 1 ≤ d ∧ d ≤ 4611686018427387904 := by
  unfold Frac.rightB at h
  have := of_decide_eq_true h
  omega
/-- what Compare answers -/
def cmpV (a b c d : Int) : Int × Int := if Frac.rightB a b = true ∧ Frac.rightB c d = true then (Frac.cmpF a b c d, 0) else (0, 3)
end Go.Proofs.YtfdpfkdfglombaaGreatDoor
