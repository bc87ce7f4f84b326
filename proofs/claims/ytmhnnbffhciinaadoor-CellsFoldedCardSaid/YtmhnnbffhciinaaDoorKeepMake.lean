/- The maker of dimensions that are kept: Stream.Keep. -/
import Derived.Test.YtmhnnbffhciinaaDoorRecs
import Derived.Test.YtmhnnbffhciinaaDoorFlip
import Derived.Test.YtmhnnbffhciinaaDoorPickAt
import Derived.Test.YtmhnnbffhciinaaDoorKp
set_option linter.unusedVariables false
namespace Go.Proofs.YtmhnnbffhciinaaDoor
open Go.RowKit

theorem infoInt : (Tryd.prog.info? 3).map (fun i => (i.zero, i.size, i.bytes)) = some (some (.int .i64 0), 1, 8) := by kernel_rfl
/-- a number's cell -/
def iCell (z : Int) : List Value := [.int .i64 z]
theorem ints_rat {w : World} {a : Option Addr} {l : List Int} (h : RAt w a 1 iCell l) : IntsAt w a l := by
  intro j hj
  obtain ⟨p, off, h1, h2, h3⟩ := h j hj
  have := h3 0 (.int .i64 l[j]) rfl
  rw [Nat.mul_one, Nat.add_zero] at this
  exact ⟨p, off, h1, h2, this⟩

set_option maxRecDepth 100000 in
set_option maxHeartbeats 4000000 in
theorem keep_make (S : SC) (K : Nat) (w : World) (s0 : Strm w S K) (hK : K ≤ 10000) :
    Calls Tryd.prog 5 #[S.p] w (GenR S (K + 10) w 1 iCell fun l => l.length ≤ 4 ∧ ∀ z ∈ l, -1 ≤ z ∧ z ≤ 6) := by
  obtain ⟨i0, hi, hz0, hz1, hz2⟩ := info_parts infoInt
  have hS0 := strm_lt s0
  have HL0 : Hid (LstR w w.heap.size w S K 3 1 iCell (.slice none 0 0) []) := Lib.hid ⟨World.ownsRow_nil _ _ _ _, s0, grown_same w _, Nat.le_refl _⟩
  go_enter Tryd.func5, Tryd.ntmps5
  go_wp2_with fail
  clear s0
  go_loopw [3, 4, 5] (fun v _ i wr => ∃ (k : Nat) (l : List Int), k ≤ 3 ∧ i = .int .i64 k ∧ l.length ≤ k ∧ Hid (∀ z ∈ l, -1 ≤ z ∧ z ≤ 6) ∧ Hid (LstR w w.heap.size wr S (K + k) 3 1 iCell v l)) (fun _ _ i _ => 3 - (intOf i).toNat)
  case atStart => exact ⟨0, [], Nat.zero_le _, rfl, Nat.le_refl _, Lib.hid (by simp), HL0⟩
  case round =>
    obtain ⟨k, l, hk, rfl, hl, HOK, HL⟩ := hrel
    have s2 := HL.out.2.1
    by_cases hlt : k < 3
    · go_wp2_with fail
      with_reducible refine (flip_any S _ _ _ s2 (by omega) (by omega)).mono ?_
      rintro e w3 ⟨b, rfl, k3, s3⟩
      have HL3 := Lib.hid (HL.out.draw k3 s3 hS0)
      clear HL k3 s2
      cases b with
      | false =>
        go_wp2_with fail
        go_roundw
        case rel => exact ⟨k + 1, l, by omega, by go_num, by omega, HOK, HL3⟩
        case measure => simp [intOf]; omega
      | true =>
        have own5 := HL3.out.1
        have hw5 := HL3.out.2.2.2
        go_wp2_with (at_builtin; refine wpList_append_own _ rfl _ _ 22 rfl w.heap.size 3 i0 _ 1 8 Tryd.underlying22 hi hz0 hz1 hz2 rfl (by decide) _ _ _ rfl (own5.alloc _) ⟨w3.heap.size, 0, none⟩ 1 1 [.int .i64 (k : Int)] rfl rfl ?c1 ?c2 ?c3 ?c4 ?c5 ?_)
        case c1 => exact cells_new w3 #[.int .i64 (k : Int)] 3
        case c2 => simp [Value.oneCell']
        case c3 => unfold maxLen; omega
        case c4 => omega
        case c5 => simp; omega
        intro v2 w6 own6 hgrow6 hne6
        have HL6 := Lib.hid (HL3.out.snoc (x := (k : Int)) hS0 (Nat.le_refl _) own6 hgrow6)
        clear hne6 own6 hgrow6 HL3 own5
        go_wp2_with fail
        go_roundw
        case rel => exact ⟨k + 1, l ++ [(k : Int)], by omega, by go_num, by simp; omega, Lib.hid (fun z hz => by
          rcases List.mem_append.1 hz with hz | hz
          · exact HOK.out z hz
          · obtain rfl := List.mem_singleton.1 hz
            omega), HL6⟩
        case measure => simp [intOf]; omega
    · obtain rfl : k = 3 := by omega
      clear hlt hk
      go_wp2_with fail
      with_reducible refine (flip_any S _ _ _ s2 (by omega) (by omega)).mono ?_
      rintro e w3 ⟨b, rfl, k3, s3⟩
      have HL3 := Lib.hid (HL.out.draw k3 s3 hS0)
      clear HL k3 s2
      cases b with
      | false =>
        have HG := Lib.hid (HL3.out.gen (K' := K + 10) (P := fun l => l.length ≤ 4 ∧ ∀ z ∈ l, -1 ≤ z ∧ z ≤ 6) hS0 (by omega) (fun x _ => rfl) ⟨by omega, HOK.out⟩)
        go_wp2_with fail
        go_ret
        exact HG.out
      | true =>
        have s4 := HL3.out.2.1
        go_wp2_with fail
        with_reducible refine (pick_at S _ [-1, 0, 3, 6] 4 _ _ _ _ s4 (by omega) rfl (by omega) (by omega) (by simp) (by simp)).mono ?_
        rintro e w4 ⟨z, hm, rfl, k4, s5⟩
        have hz : -1 ≤ z ∧ z ≤ 6 := by
          simp only [List.mem_cons, List.mem_nil_iff, or_false] at hm
          omega
        have HZ := Lib.hid hz
        have HL4 := Lib.hid (HL3.out.draw k4 s5 hS0)
        clear HL3 k4 s4 hm hz
        have own5 := HL4.out.1
        have hw5 := HL4.out.2.2.2
        go_wp2_with (at_builtin; refine wpList_append_own _ rfl _ _ 22 rfl w.heap.size 3 i0 _ 1 8 Tryd.underlying22 hi hz0 hz1 hz2 rfl (by decide) _ _ _ rfl (own5.alloc _) ⟨w4.heap.size, 0, none⟩ 1 1 [.int .i64 z] rfl rfl ?d1 ?d2 ?d3 ?d4 ?d5 ?_)
        case d1 => exact cells_new w4 #[.int .i64 z] 3
        case d2 => simp [Value.oneCell']
        case d3 => unfold maxLen; omega
        case d4 => omega
        case d5 => simp; omega
        intro v2 w6 own6 hgrow6 hne6
        have HL6 := Lib.hid (HL4.out.snoc (x := z) hS0 (Nat.le_refl _) own6 hgrow6)
        have HG := Lib.hid (HL6.out.gen (K' := K + 10) (P := fun l => l.length ≤ 4 ∧ ∀ z ∈ l, -1 ≤ z ∧ z ≤ 6) hS0 (by omega) (fun x _ => rfl) ⟨by simp; omega, fun y hy => by
          rcases List.mem_append.1 hy with hy | hy
          · exact HOK.out y hy
          · obtain rfl := List.mem_singleton.1 hy
            exact HZ.out⟩)
        clear hne6 own6 hgrow6 HL4 own5 HL6
        go_wp2_with fail
        go_ret
        exact HG.out
end Go.Proofs.YtmhnnbffhciinaaDoor
