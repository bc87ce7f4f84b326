/- The contract of the maker Four. -/
import Derived.Test.YtdnikegakcdcnaaPart
import Derived.Test.YtdnikegakcdcnaaRowF
set_option linter.unusedVariables false
namespace Go.Proofs.Ytdnikegakcdcnaa
open Go.RowKit

/-- four numbers in a block of their own, drawn from the stream -/
def GenFour (S : SC) (K : Nat) (w : World) (e : Ending) (w' : World) : Prop :=
  ∃ (g c : Nat) (f : Nat → Int), e = .returned (.slice (some ⟨g, 0, none⟩) 4 c) ∧ w.heap.size ≤ g ∧ (∀ j, j < 4 → I64 (f j)) ∧ RowF w' g 4 f ∧ w.grownBy w' (some S.g) ∧ Strm w' S K

set_option maxRecDepth 100000 in
set_option maxHeartbeats 2000000 in
theorem four_any (S : SC) (K : Nat) (w : World) (hs : Strm w S K) (hK : K + 10 ≤ 1099511627776) :
    Calls Try.prog 21 #[S.p] w (GenFour S (K + 8) w) := by
  have hgs := strm_lt hs
  go_enter Try.func21, Try.ntmps21
  go_wp2_with fail
  with_reducible refine (pick_any S K _ [4, 10, 15, 16] 4 _ _ (strm_alloc hs _) (by omega) rfl (by omega) (by omega) ?hb ?hg).mono ?_
  case hb => exact heap_alloc_new _ _
  case hg => omega
  rintro e w1 ⟨m, hm, rfl, g1, s1⟩
  have hm' : 4 ≤ m ∧ m ≤ 16 := by
    simp only [List.mem_cons, List.mem_nil_iff, or_false] at hm
    omega
  clear hm
  have G1 := grown_trans (World.grownBy_alloc w _ _) g1
  clear g1
  go_wp2_with fail
  with_reducible refine (next_any S _ _ _ s1 (by omega) (by omega)).mono ?_
  rintro e w2 ⟨a, ⟨a1, -, a2⟩, rfl, g2, s2⟩
  have G2 := grown_trans G1 g2
  clear g2 G1 s1
  go_wp2_with fail
  with_reducible refine (next_any S _ _ _ s2 (by omega) (by omega)).mono ?_
  rintro e w3 ⟨b, ⟨b1, -, b2⟩, rfl, g3, s3⟩
  have G3 := grown_trans G2 g3
  clear g3 G2 s2
  go_wp2_with fail
  with_reducible refine (next_any S _ _ _ s3 (by omega) (by omega)).mono ?_
  rintro e w4 ⟨c, ⟨c1, -, c2⟩, rfl, g4, s4⟩
  have G4 := grown_trans G3 g4
  clear g4 G3 s3
  go_wp2_with fail
  with_reducible refine (next_any S _ _ _ s4 (by omega) (by omega)).mono ?_
  rintro e w5 ⟨d, ⟨d1, -, d2⟩, rfl, g5, s5⟩
  have G5 := grown_trans G4 g5
  clear g5 G4 s4
  have z5 := G5.size
  go_wp2_with fail
  have R5 : RowF (w5.alloc (.cells #[.int .i64 a, .int .i64 b, .int .i64 c, .int .i64 d] 3)) w5.heap.size 4 (fun j => [a, b, c, d].getD j 0) := by
    refine ⟨by simp, fun j hj => ?_, fun j hj => ?_⟩
    · rcases (show j = 0 ∨ j = 1 ∨ j = 2 ∨ j = 3 by omega) with rfl | rfl | rfl | rfl <;> (go_simp) <;> rfl
    · rcases (show j = 0 ∨ j = 1 ∨ j = 2 ∨ j = 3 by omega) with rfl | rfl | rfl | rfl <;> (go_simp)
  have HI : Hid (∀ j, j < 4 → I64 ((fun j => [a, b, c, d].getD j 0) j)) := Lib.hid (by
    intro j hj
    unfold I64
    rcases (show j = 0 ∨ j = 1 ∨ j = 2 ∨ j = 3 by omega) with rfl | rfl | rfl | rfl <;> (simp; omega))
  have HR5 := Lib.hid R5
  clear R5
  with_reducible refine (flip_any S _ _ _ (strm_alloc s5 _) (by omega) (by omega)).mono ?_
  rintro e w6 ⟨fl, rfl, g6, s6⟩
  have hne : w5.heap.size ≠ S.g := by omega
  have R6 := HR5.out.grown g6 (by simpa using hne)
  have G6 := grown_trans (grown_alloc G5 _) g6
  have z6 := g6.size
  clear g6 G5 s5 HR5
  generalize hf : (fun j => [a, b, c, d].getD j 0) = f at *
  clear hf
  cases fl with
  | false =>
    have HR6 := Lib.hid R6
    clear R6
    go_wp2
    go_ret
    exact ⟨w5.heap.size, _, f, rfl, by omega, HI.out, HR6.out, G6, strm_mono s6 (by omega)⟩
  | true =>
    go_wp2_with fail
    with_reducible refine (next_any S _ _ _ s6 (by omega) (by omega)).mono ?_
    rintro e w7 ⟨i, ⟨i1, i3, -⟩, rfl, g7, s7⟩
    have i2 := i3 (by omega)
    have R7 := R6.grown g7 (by simpa using hne)
    have G7 := grown_trans G6 g7
    have z7 := g7.size
    clear g7 G6 s6 R6 i3
    go_wp2_with fail
    with_reducible refine (pick_any S _ _ [-1, 60, 61, 9223372036854775807] 4 _ _ (strm_alloc s7 _) (by omega) rfl (by omega) (by omega) ?hb ?hg).mono ?_
    case hb => exact heap_alloc_new _ _
    case hg => have := strm_lt s7; omega
    rintro e w8 ⟨x, hx, rfl, g8, s8⟩
    have R8 := (R7.alloc _).grown g8 (by simpa using hne)
    have G8 := grown_trans (grown_alloc G7 _) g8
    have hx' : I64 x := by
      simp only [List.mem_cons, List.mem_nil_iff, or_false] at hx
      unfold I64; omega
    clear g8 G7 s7 R7 hx
    obtain ⟨k, rfl⟩ := Int.eq_ofNat_of_zero_le i1
    have c0 := R8.cell k (by omega)
    have f0 := R8.free k (by omega)
    have HR8 := Lib.hid R8
    clear R8
    generalize f k = old at *
    go_wp2
    go_ret
    refine ⟨w5.heap.size, _, (fun j => if j = k then x else f j), rfl, by omega, fun j hj => ?_, HR8.out.set k (by omega) x, ?_, ?_⟩
    · by_cases e : j = k
      · simpa [e] using hx'
      · simpa [e] using HI.out j hj
    · exact grown_set G8 (.inr (by show w.heap.size ≤ w5.heap.size; omega)) _
    · exact strm_mono (strm_set s8 (by show S.g < w5.heap.size; omega) _) (by omega)
end Go.Proofs.Ytdnikegakcdcnaa
