/- The hash of a text: handref1.hashOf. -/
import Derived.Test.YtdnikegakcdcnaaDoorStream
set_option linter.unusedVariables false
namespace Go.Proofs.YtdnikegakcdcnaaDoor
open Go.RowKit

/-- a byte more -/
def hStep (z : Int) (c : UInt8) : Int := IntKind.u64.wrap (bits BinOp.xor IntKind.u64 z (IntKind.u64.wrap (c.toNat : Int)) * 1099511628211)
def hsh (l : List UInt8) : Int := l.foldl hStep 14695981039346656037
theorem hStep_bd (z : Int) (c : UInt8) : 0 ≤ hStep z c ∧ hStep z c < 18446744073709551616 := by
  unfold hStep
  rw [IntKind.wrap_u64]
  omega
theorem hsh_bd (l : List UInt8) : 0 ≤ hsh l ∧ hsh l < 18446744073709551616 := by
  rcases List.eq_nil_or_concat l with rfl | ⟨l, c, rfl⟩
  · exact ⟨by decide, by decide⟩
  · unfold hsh
    rw [List.concat_eq_append, List.foldl_append]
    exact hStep_bd _ _
theorem hsh_take (s : ByteArray) (k : Nat) (h : k < s.size) : hsh (s.data.toList.take (k + 1)) = hStep (hsh (s.data.toList.take k)) s[k] := by
  unfold hsh
  rw [List.take_succ_eq_append_getElem (by simpa using h), List.foldl_append]
  rfl

theorem hashOf_any (s : ByteArray) (w : World) (hs : s.size ≤ 1000) :
    Calls Tryd.prog 110 #[.string s] w fun e w' => e = .returned (.int .u64 (hsh s.data.toList)) ∧ w = w' := by
  have HT := Lib.hid (hsh_take s)
  have HA := Lib.hid (show s.data.toList.take s.size = s.data.toList from List.take_of_length_le (Nat.le_refl _))
  go_enter Tryd.func110, Tryd.ntmps110
  go_wp2_with fail
  go_loopw [3, 4] (fun h i wr => ∃ (k : Nat) (z : Int), k ≤ s.size ∧ i = .int .i64 k ∧ h = .int .u64 z ∧ z = hsh (s.data.toList.take k) ∧ w = wr) (fun _ i _ => s.size - (intOf i).toNat)
  case atStart => exact ⟨0, _, Nat.zero_le _, rfl, rfl, rfl, rfl⟩
  case round =>
    obtain ⟨k, z, hk, rfl, rfl, hz, rfl⟩ := hrel
    have hb := hsh_bd (s.data.toList.take k)
    rw [← hz] at hb
    have HZ := Lib.hid hz
    clear hz
    by_cases hlt : k < s.size
    · go_wp2_with fail
      refine ⟨⟨k + 1, _, by omega, by go_num, rfl, ?_, trivial⟩, by simp [intOf]; omega⟩
      rw [HT.out k hlt, ← HZ.out]
      rfl
    · obtain rfl : k = s.size := by omega
      go_wp2_with fail
      go_ret
      exact ⟨ret_int (by rw [HZ.out, HA.out]), rfl⟩
end Go.Proofs.YtdnikegakcdcnaaDoor
