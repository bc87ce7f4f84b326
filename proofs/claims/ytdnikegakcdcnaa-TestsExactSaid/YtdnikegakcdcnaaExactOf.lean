/- The contract of the reference ExactOf. -/
import Derived.Test.YtdnikegakcdcnaaExact3
set_option linter.unusedVariables false
namespace Go.Proofs.Ytdnikegakcdcnaa
open Go.RowKit

/-- four numbers in their boxes -/
def Box4 (w : World) (p : Nat) (a b c d : Nat) : Prop :=
  p + 5 ≤ w.heap.size ∧ w.cell? ⟨p, 0, none⟩ = some (.int .i64 a) ∧ w.cell? ⟨p + 1, 0, none⟩ = some (.int .i64 b) ∧ w.cell? ⟨p + 1 + 1, 0, none⟩ = some (.int .i64 c) ∧ w.cell? ⟨p + 1 + 1 + 1, 0, none⟩ = some (.int .i64 d)
    ∧ w.cell? ⟨p + 1 + 1 + 1 + 1, 0, none⟩ = some (.int .i64 0) ∧ w.cell? ⟨p + 1 + 1 + 1 + 1, 1, none⟩ = some (.int .i64 0) ∧ w.frozen? ⟨p + 1 + 1 + 1 + 1, 0, none⟩ = false ∧ w.frozen? ⟨p + 1 + 1 + 1 + 1, 1, none⟩ = false
theorem Box4.below {w w' : World} {p a b c d : Nat} (h : Box4 w p a b c d) (hb : Below w.heap.size w w') : Box4 w' p a b c d := by
  obtain ⟨h0, h1, h2, h3, h4, h5, h6, h7, h8⟩ := h
  have hz := hb.size
  exact ⟨by omega, (hb.cell (by show p < _; omega)).trans h1, (hb.cell (by show p + 1 < _; omega)).trans h2, (hb.cell (by show p + 1 + 1 < _; omega)).trans h3, (hb.cell (by show p + 1 + 1 + 1 < _; omega)).trans h4,
    (hb.cell (by show p + 1 + 1 + 1 + 1 < _; omega)).trans h5, (hb.cell (by show p + 1 + 1 + 1 + 1 < _; omega)).trans h6, (hb.frozen (by show p + 1 + 1 + 1 + 1 < _; omega)).trans h7, (hb.frozen (by show p + 1 + 1 + 1 + 1 < _; omega)).trans h8⟩

set_option maxRecDepth 100000 in
set_option maxHeartbeats 2000000 in
theorem ExactOf_good (a b c d : Nat) (w : World) (h : a + b + c + d ≤ 60) :
    Calls Try.prog 24 #[.int .i64 a, .int .i64 b, .int .i64 c, .int .i64 d] w fun e w' =>
      e = .returned (.agg #[.int .i64 (Frac.redN (exFew a b c d : Nat) (exAll a b c d : Nat)), .int .i64 (Frac.redD (exFew a b c d : Nat) (exAll a b c d : Nat))]) ∧ Below w.heap.size w w' := by
  go_enter Try.func24, Try.ntmps24
  go_wp2_with fail
  generalize hW : World.alloc (World.alloc (World.alloc (World.alloc (World.alloc w _) _) _) _) _ = W
  have hB : Box4 W w.heap.size a b c d := by
    subst hW
    exact ⟨by simp, by go_simp, by go_simp, by go_simp, by go_simp, by go_simp, by go_simp, by go_simp, by go_simp⟩
  have hbW : Below w.heap.size w W := by subst hW; go_grown
  clear hW
  go_loopw [10, 11, 19] (fun f l i wr => ∃ j : Nat, j ≤ a + c + 1 ∧ i = .int .i64 j ∧ f = .int .i64 (fewS (a + b) (c + d) (a + c) a j : Nat) ∧ l = .int .i64 (allS (a + b) (c + d) (a + c) j : Nat) ∧ Box4 wr w.heap.size a b c d ∧ Below w.heap.size w wr) (fun _ _ i _ => a + c + 1 - (intOf i).toNat)
  case atStart => exact ⟨0, by omega, rfl, rfl, rfl, hB, hbW⟩
  case round =>
    clear hB hbW
    obtain ⟨j, hj, rfl, rfl, rfl, hB, hbW⟩ := hrel
    have l1 := allS_le (a + b) (c + d) (a + c) j (by omega)
    have l2 := fewS_le (a + b) (c + d) (a + c) a j
    have hzw := hbW.size
    obtain ⟨hz, ca, cb, cc, cd, d0, d1, f0, f1⟩ := id hB
    have HB := Lib.hid hB
    have HBW := Lib.hid hbW
    clear hB hbW
    by_cases hlt : j < a + c + 1
    · have bw := wy_le (a + b) (c + d) (a + c) j (by omega)
      have bo := wy_le (a + b) (c + d) (a + c) a (by omega)
      have HA := Lib.hid (show allS (a + b) (c + d) (a + c) (j + 1) = allS (a + b) (c + d) (a + c) j + wy (a + b) (c + d) (a + c) j from rfl)
      have HF := Lib.hid (show fewS (a + b) (c + d) (a + c) a (j + 1) = fewS (a + b) (c + d) (a + c) a j + if wy (a + b) (c + d) (a + c) j ≤ wy (a + b) (c + d) (a + c) a then wy (a + b) (c + d) (a + c) j else 0 from rfl)
      generalize allS (a + b) (c + d) (a + c) j = al at *
      generalize fewS (a + b) (c + d) (a + c) a j = fe at *
      clear d0 d1 f0 f1
      go_wp2_with fail
      with_reducible refine (waysOf_any a b c d j _ _ _ _ _ h (by omega) ca cb cc cd).mono ?_
      rintro e w1 ⟨rfl, b1⟩
      have hB1 := HB.out.below b1
      have HBW1 := Lib.hid (HBW.out.trans (b1.mono hzw))
      clear b1 HB HBW ca cb cc cd hz
      obtain ⟨hz, ca, cb, cc, cd, d0, d1, f0, f1⟩ := id hB1
      have HB1 := Lib.hid hB1
      clear hB1 d0 d1 f0 f1
      have hzw1 : w.heap.size ≤ w1.heap.size := by omega
      go_wp2_with fail
      with_reducible refine (waysOf_any a b c d a _ _ _ _ _ h (by omega) ca cb cc cd).mono ?_
      rintro e w2 ⟨rfl, b2⟩
      have HB2 := Lib.hid (HB1.out.below b2)
      have HBW2 := Lib.hid (HBW1.out.trans (b2.mono hzw1))
      clear b2 HB1 HBW1 ca cb cc cd hz
      generalize wy (a + b) (c + d) (a + c) j = x at *
      generalize wy (a + b) (c + d) (a + c) a = o at *
      by_cases hle : x ≤ o
      · go_wp2
        go_roundw
        case rel => exact ⟨j + 1, by omega, by go_num, by rw [HF.out, if_pos hle]; go_num, by rw [HA.out]; go_num, HB2.out, HBW2.out⟩
        case measure => simp [intOf]; omega
      · go_wp2
        go_roundw
        case rel => exact ⟨j + 1, by omega, by go_num, by rw [HF.out, if_neg hle]; go_num, by rw [HA.out]; go_num, HB2.out, HBW2.out⟩
        case measure => simp [intOf]; omega
    · obtain rfl : j = a + c + 1 := by omega
      clear hlt hj
      have l3 := allS_pos (a + b) (c + d) (a + c) a (a + c + 1) (by omega) (by omega) (by omega) (by omega)
      have HEF := Lib.hid (show exFew a b c d = fewS (a + b) (c + d) (a + c) a (a + c + 1) from rfl)
      have HEA := Lib.hid (show exAll a b c d = allS (a + b) (c + d) (a + c) (a + c + 1) from rfl)
      generalize allS (a + b) (c + d) (a + c) (a + c + 1) = al at *
      generalize fewS (a + b) (c + d) (a + c) a (a + c + 1) = fe at *
      clear ca cb cc cd d0 d1 f0 f1
      go_wp2_with fail
      with_reducible refine (reduced_any _ _ _ (by omega) (by omega) (by omega) (by omega) (by omega)).mono ?_
      rintro e w1 ⟨rfl, hb1⟩
      obtain ⟨_, _, _, _, _, e0, e1, g0, g1⟩ := HB.out.below hb1
      have HB1 := Lib.hid (HBW.out.trans (hb1.mono hzw))
      clear hb1
      go_wp2_with fail
      refine bodyPost_ret (v := .agg #[.int .i64 (Frac.redN fe al), .int .i64 (Frac.redD fe al)]) (by simp [results, Try.results24, go_sem, e0, e1]) rfl ⟨by rw [HEF.out, HEA.out], ?_⟩
      exact (HB1.out.setCell (by show w.heap.size ≤ w.heap.size + 1 + 1 + 1 + 1; omega) _).setCell (by show w.heap.size ≤ w.heap.size + 1 + 1 + 1 + 1; omega) _
end Go.Proofs.Ytdnikegakcdcnaa
