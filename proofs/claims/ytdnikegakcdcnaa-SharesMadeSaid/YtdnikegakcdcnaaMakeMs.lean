/- Makers for the statements on measures: Range, Ages, Weights. -/
import Derived.Test.YtdnikegakcdcnaaSharesMake
set_option linter.unusedVariables false
namespace Go.Proofs.Ytdnikegakcdcnaa
open Go.RowKit Deal

theorem range_any (S : SC) (K : Nat) (lo hi : Int) (w : World) (hs : Strm w S K) (hK : K ≤ 1000000) (h1 : lo ≤ hi) (h2 : -1000000 ≤ lo) (h3 : hi ≤ 1000000) :
    Calls Try.prog 37 #[S.p, .int .i64 lo, .int .i64 hi] w (GenI S (K + 1) w fun r => lo ≤ r ∧ r ≤ hi) := by
  go_enter Try.func37, Try.ntmps37
  go_wp2_with fail
  with_reducible refine (next_any S _ _ _ hs (by omega) (by omega)).mono ?_
  rintro e w1 ⟨r, ⟨hm0, hm1, -⟩, rfl, k1, s1⟩
  have hm2 := hm1 (by omega)
  clear hm1
  go_wp2
  go_ret
  exact ⟨_, ⟨by omega, by omega⟩, rfl, k1, s1⟩

/-- what the maker of a list leaves; the list lies apart from the stream -/
def GenA (S : SC) (K : Nat) (w : World) (P : List Int → Prop) (e : Ending) (w' : World) : Prop :=
  ∃ a c zs, P zs ∧ e = .returned (.slice a zs.length c) ∧ IntsAt w' a zs ∧ (∀ p off, a = some ⟨p, off, none⟩ → p ≠ S.g) ∧ w.grownBy w' (some S.g) ∧ Strm w' S K
theorem Lst.gen {w : World} {b0 : Nat} {wr : World} {S : SC} {K K' : Nat} {v : Value} {zs : List Int} {P : List Int → Prop} (h : Lst w b0 wr S K v zs) (hS : S.g < b0) (hK : K ≤ K') (hP : P zs) : GenA S K' w P (.returned v) wr := by
  obtain ⟨own, s, g, hb⟩ := h
  obtain ⟨a, c, rfl, hI⟩ := row_form own
  refine ⟨a, c, zs, hP, rfl, hI, fun p off ha => ?_, g, strm_mono s hK⟩
  subst ha
  have := (own.lt p (by simp [Value.ownBlock])).1
  omega

set_option maxRecDepth 100000 in
set_option maxHeartbeats 2000000 in
theorem weightsMake_any (S : SC) (K : Nat) (w : World) (s0 : Strm w S K) (hK : K ≤ 100000) :
    Calls Try.prog 41 #[S.p] w (GenA S (K + 40) w fun zs => zs.length ≤ 20) := by
  obtain ⟨i0, hi, hz0, hz1, hz2⟩ := info_parts infoG_int
  go_enter Try.func41, Try.ntmps41
  go_wp2_with fail
  with_reducible refine (next_any S _ _ _ s0 (by omega) (by omega)).mono ?_
  rintro e w1 ⟨m', ⟨hm0, hm1, -⟩, rfl, k1, s1⟩
  have hm2 := hm1 (by omega)
  obtain ⟨m, rfl⟩ := Int.eq_ofNat_of_zero_le hm0
  have hS1 := strm_lt s1
  have hw1 := k1.size
  have L1 : Lst w w1.heap.size w1 S (K + 1) (.slice none 0 0) [] := ⟨World.ownsRow_nil _ _ _ _, s1, k1, Nat.le_refl _⟩
  clear k1 s1 hm0 hm1 s0
  go_wp2_with fail
  go_loopw [3, 6] (fun v i wr => ∃ (k : Nat) (zs : List Int), k ≤ m ∧ i = .int .i64 k ∧ zs.length = k ∧ Lst w w1.heap.size wr S (K + 1 + k) v zs) (fun _ i _ => m - (intOf i).toNat)
  case atStart => exact ⟨0, [], Nat.zero_le _, rfl, rfl, L1⟩
  case round =>
    obtain ⟨k, zs, hk, rfl, hz, hL⟩ := hrel
    have HL := Lib.hid hL
    have s2 := hL.2.1
    clear hL L1
    by_cases hlt : k < m
    · go_wp2_with fail
      with_reducible refine (pick_at S _ [0, 1, 1, 2, 3, 262144, 1000000] 7 _ _ _ _ s2 (by omega) rfl (by omega) (by omega) (by simp) (by simp)).mono ?_
      rintro e w4 ⟨x, hx, rfl, k4, s4⟩
      have L4 := HL.out.draw k4 s4 hS1
      have own4 := L4.1
      have hw4 := L4.2.2.2
      have HL4 := Lib.hid L4
      clear HL k4 s4 s2 hx L4
      go_wp2_with (at_builtin; refine wpList_append_own _ rfl _ _ 22 rfl w1.heap.size 3 i0 (.int .i64 0) 1 8 Try.underlying22 hi hz0 hz1 hz2 rfl (by decide) _ _ _ rfl (own4.alloc _) ⟨w4.heap.size, 0, none⟩ 1 1 [.int .i64 x] rfl rfl ?c1 ?c2 ?c3 ?c4 ?c5 ?_)
      case c1 => exact cell_one_new _ _ _
      case c2 => simp [Value.oneCell']
      case c3 => unfold maxLen; omega
      case c4 => omega
      case c5 => simp; omega
      intro v2 w5 own5 hgrow5 hne5
      have HL5 := Lib.hid (HL4.out.snoc hS1 hw1 (by rw [hz]; exact own5) hgrow5)
      clear hne5 own5 hgrow5 HL4 own4
      go_wp2
      go_roundw
      case rel => exact ⟨k + 1, zs ++ [x], by omega, by go_num, by simp [hz], HL5.out⟩
      case measure => simp [intOf]; omega
    · obtain rfl : k = m := by omega
      go_wp2_with fail
      with_reducible refine (flip_any S _ _ _ s2 (by omega) (by omega)).mono ?_
      rintro e w3 ⟨b, rfl, k3, s3⟩
      have L3 := HL.out.draw k3 s3 hS1
      have HL3 := Lib.hid L3
      clear HL k3 s2 L3
      cases b with
      | false =>
        go_wp2
        go_ret
        exact HL3.out.gen hS1 (by omega) (by show zs.length ≤ 20; omega)
      | true =>
        go_wp2_with fail
        with_reducible refine (pick_at S _ [-1, 1000001] 2 _ _ _ _ s3 (by omega) rfl (by omega) (by omega) (by simp) (by simp)).mono ?_
        rintro e w4 ⟨x, hx, rfl, k4, s4⟩
        have L4 := HL3.out.draw k4 s4 hS1
        have own4 := L4.1
        have hw4 := L4.2.2.2
        have HL4 := Lib.hid L4
        clear HL3 k4 s4 s3 hx L4
        go_wp2_with (at_builtin; refine wpList_append_own _ rfl _ _ 22 rfl w1.heap.size 3 i0 (.int .i64 0) 1 8 Try.underlying22 hi hz0 hz1 hz2 rfl (by decide) _ _ _ rfl (own4.alloc _) ⟨w4.heap.size, 0, none⟩ 1 1 [.int .i64 x] rfl rfl ?c1 ?c2 ?c3 ?c4 ?c5 ?_)
        case c1 => exact cell_one_new _ _ _
        case c2 => simp [Value.oneCell']
        case c3 => unfold maxLen; omega
        case c4 => omega
        case c5 => simp; omega
        intro v2 w5 own5 hgrow5 hne5
        have HL5 := Lib.hid (HL4.out.snoc hS1 hw1 (by rw [hz]; exact own5) hgrow5)
        clear hne5 own5 hgrow5 HL4 own4
        go_wp2
        go_ret
        exact HL5.out.gen hS1 (by omega) (by show (zs ++ [x]).length ≤ 20; simp; omega)
end Go.Proofs.Ytdnikegakcdcnaa
