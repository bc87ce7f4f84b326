/- The maker of weights: Stream.Shares. -/
import Derived.Test.YtdnikegakcdcnaaGrow
import Derived.Test.YtdnikegakcdcnaaFlip
import Derived.Test.YtdnikegakcdcnaaZeros
import Derived.Test.YtdnikegakcdcnaaShareOf
import Derived.Test.YtdnikegakcdcnaaShelf
import Derived.Deep.DeepCutAuto
set_option linter.unusedVariables false
namespace Go.Proofs.Ytdnikegakcdcnaa
open Go.RowKit Deal

/-- a list of one's own beside the stream -/
def Lst (w : World) (b0 : Nat) (wr : World) (S : SC) (K : Nat) (v : Value) (zs : List Int) : Prop :=
  wr.ownsRow b0 3 1 v zs.length (zs.map (Value.int .i64)) ∧ Strm wr S K ∧ w.grownBy wr (some S.g) ∧ b0 ≤ wr.heap.size
def fine (zs : List Int) : Prop := ∀ z ∈ zs, -1 ≤ z ∧ z ≤ 1000000000001
theorem Lst.draw {w : World} {b0 : Nat} {wr w' : World} {S : SC} {K K' : Nat} {v : Value} {zs : List Int} (h : Lst w b0 wr S K v zs) (hg : wr.grownBy w' (some S.g)) (hs : Strm w' S K') (hb : S.g < b0) : Lst w b0 w' S K' v zs :=
  ⟨row_kept h.1 hg hb, hs, grown_trans h.2.2.1 hg, Nat.le_trans h.2.2.2 hg.size⟩
/-- behind an append of one number -/
theorem Lst.snoc {w : World} {b0 : Nat} {wr w5 : World} {S : SC} {K : Nat} {v v2 : Value} {zs : List Int} {x : Int} {o : Obj} (h : Lst w b0 wr S K v zs) (hS : S.g < b0) (hw : w.heap.size ≤ b0)
    (own5 : w5.ownsRow b0 3 1 v2 (zs.length + 1) (zs.map (Value.int .i64) ++ [.int .i64 x])) (hgrow5 : (wr.alloc o).grownBy w5 v.ownBlock) : Lst w b0 w5 S K v2 (zs ++ [x]) := by
  obtain ⟨own4, s4, g4, hw4⟩ := h
  have hr5 := fun q hq => (own4.lt q hq).1
  refine ⟨by simpa using own5, strm_own (strm_alloc s4 _) hgrow5 (fun q hq => by have := hr5 q hq; omega), grown_own (grown_alloc g4 _) hgrow5 (fun q hq => by have := hr5 q hq; omega), ?_⟩
  have := hgrow5.size
  simp at this
  omega
theorem Lst.zeros {w : World} {b0 : Nat} {wr w5 : World} {S : SC} {K m : Nat} {v v2 : Value} {zs : List Int} (h : Lst w b0 wr S K v zs) (hS : S.g < b0) (hw : w.heap.size ≤ b0)
    (own5 : w5.ownsRow b0 3 1 v2 (zs.length + m) (zs.map (Value.int .i64) ++ List.replicate m (.int .i64 0))) (hgrow5 : wr.grownBy w5 v.ownBlock) : Lst w b0 w5 S K v2 (zs ++ List.replicate m 0) := by
  obtain ⟨own4, s4, g4, hw4⟩ := h
  have hr5 := fun q hq => (own4.lt q hq).1
  exact ⟨by simpa using own5, strm_own s4 hgrow5 (fun q hq => by have := hr5 q hq; omega), grown_own g4 hgrow5 (fun q hq => by have := hr5 q hq; omega), Nat.le_trans hw4 hgrow5.size⟩

/-- what the maker of a list leaves -/
def GenL (S : SC) (K : Nat) (w : World) (P : List Int → Prop) (e : Ending) (w' : World) : Prop :=
  ∃ v zs, P zs ∧ e = .returned v ∧ SliceIs w' v zs ∧ w.grownBy w' (some S.g) ∧ Strm w' S K

theorem clone_any {w : World} {b0 : Nat} {wr : World} {S : SC} {K : Nat} {v : Value} {zs : List Int} (h : Lst w b0 wr S K v zs) (hl : zs.length ≤ 1000) :
    Calls Try.prog 56 #[v] wr fun e w' => ∃ v', e = .returned v' ∧ SliceIs w' v' zs ∧ Below wr.heap.size wr w' := by
  obtain ⟨own, -, -, -⟩ := h
  rcases own.2 with ⟨rfl, h0⟩ | ⟨g, cap, cur, rfl, hbg, hg, hnc, hcm, hcs, htake⟩
  · have : zs = [] := List.eq_nil_of_length_eq_zero h0
    subst this
    refine (Try.slices_Clone_int_nil 0 0 wr).mono ?_
    rintro e w' ⟨rfl, rfl⟩
    exact ⟨_, rfl, SliceIs.nil _, Below.refl _ _⟩
  · have hI := IntsAt.of_own own
    refine (Try.slices_Clone_int g 0 zs.length cap zs wr (Nat.le_refl _) (by omega) (fun j hj => ?_)).mono ?_
    · obtain ⟨p, off, h1, h2, h3⟩ := hI j hj
      injection h1 with h1
      injection h1 with e1 e2
      subst e1 e2
      rw [h3]
      simp [hj]
    · rintro e w' ⟨v', rfl, own', -, hb⟩
      rw [List.take_length] at own'
      obtain ⟨a, c, rfl, hI'⟩ := row_form own'
      exact ⟨_, rfl, ⟨a, c, rfl, hI'⟩, hb⟩

set_option maxRecDepth 100000 in
set_option maxHeartbeats 2000000 in
theorem shares_any (S : SC) (K : Nat) (w : World) (s0 : Strm w S K) (hK : K ≤ 1000000) :
    Calls Try.prog 30 #[S.p] w (GenL S (K + 40) w fun zs => fine zs ∧ zs.length ≤ 60 ∧ (zs.length < 20 ∨ 50 < zs.length ∨ zeroL zs = true)) := by
  obtain ⟨i0, hi, hz0, hz1, hz2⟩ := info_parts infoG_int
  go_enter Try.func30, Try.ntmps30
  go_wp2_with fail
  with_reducible refine (next_any S _ _ _ s0 (by omega) (by omega)).mono ?_
  rintro e w1 ⟨m', ⟨hm0, hm1, -⟩, rfl, k1, s1⟩
  have hm2 := hm1 (by omega)
  obtain ⟨m, rfl⟩ := Int.eq_ofNat_of_zero_le hm0
  have hS1 := strm_lt s1
  have hw1 := k1.size
  have L1 : Lst w w1.heap.size w1 S (K + 1) (.slice none 0 0) [] := ⟨World.ownsRow_nil _ _ _ _, s1, k1, Nat.le_refl _⟩
  clear k1 s1 hm0 hm1 s0
  go_wp2_with fail
  go_loopw [3, 6] (fun v i wr => ∃ (k : Nat) (zs : List Int), k ≤ m ∧ i = .int .i64 k ∧ zs.length = k ∧ fine zs ∧ Lst w w1.heap.size wr S (K + 1 + k) v zs) (fun _ i _ => m - (intOf i).toNat)
  case atStart => exact ⟨0, [], Nat.zero_le _, rfl, rfl, fun z hz => by simp at hz, L1⟩
  case round =>
    obtain ⟨k, zs, hk, rfl, hz, hf, hL⟩ := hrel
    have HL := Lib.hid hL
    have HF := Lib.hid hf
    have s2 := hL.2.1
    clear hL hf L1
    by_cases hlt : k < m
    · go_wp2_with fail
      with_reducible refine (pick_at S _ [0, 1, 1, 2, 3, 900, 1801, 1000000000000] 8 _ _ _ _ s2 (by omega) rfl (by omega) (by omega) (by simp) (by simp)).mono ?_
      rintro e w4 ⟨x, hx, rfl, k4, s4⟩
      have hx' : -1 ≤ x ∧ x ≤ 1000000000001 := by
        simp only [List.mem_cons, List.mem_nil_iff, or_false] at hx
        omega
      have L4 := HL.out.draw k4 s4 hS1
      have own4 := L4.1
      have hw4 := L4.2.2.2
      have HL4 := Lib.hid L4
      clear HL k4 s4 s2 hx L4
      go_wp2_with (at_builtin; refine wpList_append_own _ rfl _ _ 22 rfl w1.heap.size 3 i0 (.int .i64 0) 1 8 Try.underlying22 hi hz0 hz1 hz2 rfl (by decide) _ _ _ rfl (own4.alloc _) ⟨w4.heap.size, 0, none⟩ 1 1 [.int .i64 x] rfl rfl ?c1 ?c2 ?c3 ?c4 ?c5 ?_)
      case c1 => exact cell_one_new _ _ _
      case c2 => simp [Value.oneCell']
      case c3 => unfold maxLen; omega
      case c4 => omega
      case c5 => simp; omega
      intro v2 w5 own5 hgrow5 hne5
      have HL5 := Lib.hid (HL4.out.snoc hS1 hw1 (by rw [hz]; exact own5) hgrow5)
      clear hne5 own5 hgrow5 HL4 own4
      go_wp2
      go_roundw
      case rel => exact ⟨k + 1, zs ++ [x], by omega, by go_num, by simp [hz], fun z hz => by
          rcases List.mem_append.1 hz with h | h
          · exact HF.out z h
          · simp at h; subst h; exact hx', HL5.out⟩
      case measure => simp [intOf]; omega
    · obtain rfl : k = m := by omega
      go_wp2_with fail
      with_reducible refine (flip_any S _ _ _ s2 (by omega) (by omega)).mono ?_
      rintro e w3 ⟨b, rfl, k3, s3⟩
      have L3 := HL.out.draw k3 s3 hS1
      have HL3 := Lib.hid L3
      clear HL k3 s2 L3
      go_upto_if 16 with (fail)
      go_cut [3] (fun v wx => ∃ zs : List Int, zs.length ≤ 9 ∧ fine zs ∧ Lst w w1.heap.size wx S (K + 20) v zs)
      case first =>
        cases b with
        | false =>
          go_wp2
          go_meet
          exact ⟨zs, by omega, HF.out, HL3.out.1, strm_mono HL3.out.2.1 (by omega), HL3.out.2.2⟩
        | true =>
          go_wp2_with fail
          with_reducible refine (pick_at S _ [-1, 1000000000001] 2 _ _ _ _ s3 (by omega) rfl (by omega) (by omega) (by simp) (by simp)).mono ?_
          rintro e w4 ⟨x, hx, rfl, k4, s4⟩
          have hx' : -1 ≤ x ∧ x ≤ 1000000000001 := by
            simp only [List.mem_cons, List.mem_nil_iff, or_false] at hx
            omega
          have L4 := HL3.out.draw k4 s4 hS1
          have own4 := L4.1
          have hw4 := L4.2.2.2
          have HL4 := Lib.hid L4
          clear HL3 k4 s4 s3 hx L4
          go_wp2_with (at_builtin; refine wpList_append_own _ rfl _ _ 22 rfl w1.heap.size 3 i0 (.int .i64 0) 1 8 Try.underlying22 hi hz0 hz1 hz2 rfl (by decide) _ _ _ rfl (own4.alloc _) ⟨w4.heap.size, 0, none⟩ 1 1 [.int .i64 x] rfl rfl ?c1 ?c2 ?c3 ?c4 ?c5 ?_)
          case c1 => exact cell_one_new _ _ _
          case c2 => simp [Value.oneCell']
          case c3 => unfold maxLen; omega
          case c4 => omega
          case c5 => simp; omega
          intro v2 w5 own5 hgrow5 hne5
          have HL5 := Lib.hid (HL4.out.snoc hS1 hw1 (by rw [hz]; exact own5) hgrow5)
          clear hne5 own5 hgrow5 HL4 own4
          go_wp2
          go_meet
          exact ⟨zs ++ [x], by simp; omega, fun z hz => by
            rcases List.mem_append.1 hz with h | h
            · exact HF.out z h
            · simp at h; subst h; exact hx', HL5.out.1, strm_mono HL5.out.2.1 (by omega), HL5.out.2.2⟩
      case rest =>
        clear HL3 s3 HF hz
        obtain ⟨zs, hz, hf, hL⟩ := hcut
        have HL := Lib.hid hL
        have HF := Lib.hid hf
        have s2 := hL.2.1
        clear hL hf
        go_wp2_with fail
        with_reducible refine (flip_any S _ _ _ s2 (by omega) (by omega)).mono ?_
        rintro e w3 ⟨b, rfl, k3, s3⟩
        have L3 := HL.out.draw k3 s3 hS1
        have own3 := L3.1
        have hw3 := L3.2.2.2
        have HL3 := Lib.hid L3
        clear HL k3 s2 L3 s3
        go_upto_if 24 with (fail)
        go_cut [3] (fun v wx => ∃ zs : List Int, zs.length ≤ 60 ∧ fine zs ∧ (zs.length < 20 ∨ 50 < zs.length ∨ zeroL zs = true) ∧ Lst w w1.heap.size wx S (K + 30) v zs)
        case first =>
          cases b with
          | false =>
            go_wp2
            go_meet
            exact ⟨zs, by omega, HF.out, .inl (by omega), HL3.out.1, strm_mono HL3.out.2.1 (by omega), HL3.out.2.2⟩
          | true =>
            go_wp2_with (at_builtin; refine wpList_append_zeros _ rfl _ _ 22 3 rfl w1.heap.size 3 i0 (.int .i64 0) Try.underlying22 Try.underlying3 hi hz0 hz1 hz2 rfl rfl _ _ _ rfl own3 50 rfl ?c1 ?c2 ?c3 ?c5 ?_)
            case c1 => omega
            case c2 => omega
            case c3 => omega
            case c5 => omega
            intro v2 w5 own5 hgrow5 hne5
            have HL5 := Lib.hid (HL3.out.zeros hS1 hw1 own5 hgrow5)
            clear hne5 own5 hgrow5 HL3 own3
            go_wp2
            go_meet
            refine ⟨zs ++ List.replicate 50 0, by simp; omega, fun z hz => ?_, ?_, HL5.out.1, strm_mono HL5.out.2.1 (by omega), HL5.out.2.2⟩
            · rcases List.mem_append.1 hz with h | h
              · exact HF.out z h
              · rw [List.eq_of_mem_replicate h]; decide
            · cases zs with
              | nil => exact .inr (.inr (by decide))
              | cons z l => exact .inr (.inl (by simp))
        case rest =>
          clear HL3 own3 HF hz
          obtain ⟨zs, hz, hf, hp, hL⟩ := hcut
          have HL := Lib.hid hL
          have HP := Lib.hid (And.intro hf hp)
          clear hL hf hp
          go_wp2_with fail
          with_reducible refine (clone_any HL.out (by omega)).mono ?_
          rintro e w6 ⟨v', rfl, hs6, hb6⟩
          have HS6 := Lib.hid hs6
          have G6 := Lib.hid (grown_trans HL.out.2.2.1 (grown_of_below hb6 (some S.g)))
          have T6 := Lib.hid (strm_mono (strm_below HL.out.2.1 hb6) (show K + 30 ≤ K + 40 by omega))
          clear hs6 hb6 HL
          go_wp2
          go_ret
          exact ⟨_, zs, ⟨HP.out.1, hz, HP.out.2⟩, rfl, HS6.out, G6.out, T6.out⟩
end Go.Proofs.Ytdnikegakcdcnaa
