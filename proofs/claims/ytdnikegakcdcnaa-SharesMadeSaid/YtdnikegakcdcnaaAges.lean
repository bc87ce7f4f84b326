/- The maker of ages: Stream.Ages. -/
import Derived.Test.YtdnikegakcdcnaaMakeMs
import Derived.Test.YtdnikegakcdcnaaRowG
import Derived.Deep.DeepCutAuto
set_option linter.unusedVariables false
namespace Go.Proofs.Ytdnikegakcdcnaa
open Go.RowKit Deal

theorem set_ints {w : World} {g n j : Nat} {zs : List Int} {x : Int} (h : RowG w g n (fun i => (zs.map (Value.int .i64)).getD i undef)) (hl : zs.length = n) (hj : j < n) :
    IntsAt (w.setCell ⟨g, j, none⟩ (.int .i64 x)) (some ⟨g, 0, none⟩) (zs.set j x) := by
  refine (h.set j hj (.int .i64 x)).ints (by simpa using hl) (fun i hi => ?_)
  have hi' : i < zs.length := by simpa using hi
  by_cases e : i = j
  · subst e; simp
  · rw [if_neg e]
    have e' : ¬ j = i := fun h => e h.symm
    simp [hi', e']

set_option maxRecDepth 100000 in
set_option maxHeartbeats 2000000 in
theorem ages_any (S : SC) (K : Nat) (within : Int) (w : World) (s0 : Strm w S K) (hK : K ≤ 100000) (hw1' : 1 ≤ within) (hw2' : within ≤ 4321440) :
    Calls Try.prog 38 #[S.p, .int .i64 within] w (GenA S (K + 60) w fun zs => zs.length ≤ 20) := by
  obtain ⟨i0, hi, hz0, hz1, hz2⟩ := info_parts infoG_int
  go_enter Try.func38, Try.ntmps38
  go_wp2_with fail
  with_reducible refine (next_any S _ _ _ s0 (by omega) (by omega)).mono ?_
  rintro e w1 ⟨m', ⟨hm0, hm1, -⟩, rfl, k1, s1⟩
  have hm2 := hm1 (by omega)
  obtain ⟨m, rfl⟩ := Int.eq_ofNat_of_zero_le hm0
  have hS1 := strm_lt s1
  have hw1 := k1.size
  have L1 : Lst w w1.heap.size w1 S (K + 1) (.slice none 0 0) [] := ⟨World.ownsRow_nil _ _ _ _, s1, k1, Nat.le_refl _⟩
  clear k1 s1 hm0 hm1 s0
  go_wp2_with fail
  go_loopw [5, 6, 10] (fun v ag i wr => ∃ (k : Nat) (zs : List Int) (age : Int), k ≤ m ∧ i = .int .i64 k ∧ zs.length = k ∧ ag = .int .i64 age ∧ 1 ≤ age ∧ age ≤ within ∧ Lst w w1.heap.size wr S (K + 1 + k) v zs) (fun _ _ i _ => m - (intOf i).toNat)
  case atStart => exact ⟨0, [], within, Nat.zero_le _, rfl, rfl, rfl, hw1', by omega, L1⟩
  case round =>
    obtain ⟨k, zs, age, hk, rfl, hz, rfl, ha1, ha2, hL⟩ := hrel
    have HL := Lib.hid hL
    have own4 := hL.1
    have hw4 := hL.2.2.2
    have s2 := hL.2.1
    clear hL L1
    by_cases hlt : k < m
    · go_wp2_with (at_builtin; refine wpList_append_own _ rfl _ _ 22 rfl w1.heap.size 3 i0 (.int .i64 0) 1 8 Try.underlying22 hi hz0 hz1 hz2 rfl (by decide) _ _ _ rfl (own4.alloc _) ⟨wr.heap.size, 0, none⟩ 1 1 [.int .i64 age] rfl rfl ?c1 ?c2 ?c3 ?c4 ?c5 ?_)
      case c1 => exact cell_one_new _ _ _
      case c2 => simp [Value.oneCell']
      case c3 => unfold maxLen; omega
      case c4 => omega
      case c5 => simp; omega
      intro v2 w5 own5 hgrow5 hne5
      have L5 := HL.out.snoc hS1 hw1 (by rw [hz]; exact own5) hgrow5
      have HL5 := Lib.hid L5
      have s5 := L5.2.1
      clear hne5 own5 hgrow5 HL own4 L5 s2
      have q1 : 0 ≤ within.tdiv 4 ∧ within.tdiv 4 ≤ within := by
        rw [Int.tdiv_eq_ediv_of_nonneg (by omega)]
        omega
      have q2 : 0 ≤ within / 4 ∧ within / 4 ≤ within := by omega
      go_wp2_with fail
      with_reducible refine (next_any S _ _ _ s5 (by omega) (by omega)).mono ?_
      rintro e w6 ⟨r, ⟨hr0, hr1, -⟩, rfl, k6, s6⟩
      have hr2 := hr1 (by omega)
      have HL6 := Lib.hid (HL5.out.draw k6 s6 hS1)
      clear hr1 k6 s6 s5 HL5
      go_wp2
      all_goals
        go_roundw
        case rel => exact ⟨k + 1, zs ++ [age], _, by omega, by go_num, by simp [hz], rfl, by omega, by omega, HL6.out⟩
        case measure => simp [intOf]; omega
    · obtain rfl : k = m := by omega
      go_wp2_with fail
      with_reducible refine (flip_any S _ _ _ s2 (by omega) (by omega)).mono ?_
      rintro e w3 ⟨b, rfl, k3, s3⟩
      have L3 := HL.out.draw k3 s3 hS1
      have own3 := L3.1
      have hw3 := L3.2.2.2
      have HL3 := Lib.hid L3
      clear HL k3 s2 L3 own4
      have HX := Lib.hid (HL3.out.gen (K' := K + 60) (P := fun zs => zs.length ≤ 20) hS1 (by omega) (by show zs.length ≤ 20; omega))
      rw [hz] at own3
      cases b with
      | false =>
        go_wp2
        go_ret
        exact HX.out
      | true =>
        by_cases hk0 : k = 0
        · subst hk0
          rcases own3.2 with ⟨rfl, h0⟩ | ⟨g, cap, cur, rfl, hbg, hg, hnc, hcm, hcs, htake⟩
          all_goals
            go_wp2
            go_ret
            exact HX.out
        · rcases own3.2 with ⟨rfl, h0⟩ | ⟨g, cap, cur, rfl, hbg, hg, hnc, hcm, hcs, htake⟩
          · exact absurd h0 hk0
          · have R3 := Lib.hid (RowG.of_own own3)
            have s3' := HL3.out.2.1
            have k3' := Lib.hid HL3.out.2.2.1
            clear HX HL3 own3 hg hcs htake s3
            go_wp2_with fail
            with_reducible refine (next_any S _ _ _ s3' (by omega) (by omega)).mono ?_
            rintro e w4 ⟨r, ⟨hr0, hr1, -⟩, rfl, k4, s4⟩
            have hr2 := hr1 (by omega)
            obtain ⟨j, rfl⟩ := Int.eq_ofNat_of_zero_le hr0
            have hj : j < k := by omega
            have hne : some g ≠ some S.g := by intro h; injection h; omega
            have R4 := Lib.hid (R3.out.grown k4 hne)
            have k4' := Lib.hid (grown_trans k3'.out k4)
            clear hr0 hr1 hr2 R3 k3' k4 s3'
            go_wp2_with fail
            with_reducible refine (pick_at S _ [0, within + 1, 1] 3 _ _ _ _ s4 (by omega) rfl (by omega) (by omega) (by simp) (by simp)).mono ?_
            rintro e w5 ⟨x, hx, rfl, k5, s5⟩
            have R5 := R4.out.grown k5 hne
            have k5' := Lib.hid (grown_trans k4'.out k5)
            have hc5 := R5.cell j hj
            have hf5 := R5.free j hj
            have HR := Lib.hid R5
            clear R4 k4' k5 s4 hx R5
            go_wp2
            go_ret
            refine ⟨some ⟨g, 0, none⟩, cap, zs.set j x, ?_, ?_, set_ints HR.out hz hj, ?_, grown_set k5'.out (Or.inr ?_) _, strm_mono (strm_set s5 ?_ _) (by omega)⟩
            · show (zs.set j x).length ≤ 20
              simp; omega
            · simp [hz]
            · intro p off ha
              injection ha with ha; injection ha with ha; omega
            · show w.heap.size ≤ g
              omega
            · show S.g < g
              omega
end Go.Proofs.Ytdnikegakcdcnaa
