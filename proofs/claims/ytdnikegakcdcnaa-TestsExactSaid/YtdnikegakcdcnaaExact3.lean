/- The contract of measure.Exact. -/
import Derived.Test.YtdnikegakcdcnaaExact2
import Derived.Test.YtdnikegakcdcnaaExactFault
set_option linter.unusedVariables false
namespace Go.Proofs.Ytdnikegakcdcnaa
open Go.RowKit

theorem min4 (a b c d : Int) : Lib.minOf [a, b, c, d] < 0 ↔ (a < 0 ∨ b < 0 ∨ c < 0 ∨ d < 0) := by
  simp only [Lib.minOf, List.foldl, List.headD]; omega
theorem max4 (a b c d : Int) : 60 < Lib.maxOf [a, b, c, d] ↔ (60 < a ∨ 60 < b ∨ 60 < c ∨ 60 < d) := by
  simp only [Lib.maxOf, List.foldl, List.headD]; omega
theorem exF4 (a b c d : Int) : exF [a, b, c, d] = if a < 0 ∨ b < 0 ∨ c < 0 ∨ d < 0 then 1 else if 60 < a ∨ 60 < b ∨ 60 < c ∨ 60 < d ∨ 60 < a + b + c + d then 2 else 0 := by
  unfold exF
  by_cases h1 : a < 0 ∨ b < 0 ∨ c < 0 ∨ d < 0
  · rw [if_pos h1, if_pos (by simp; omega)]
  · rw [if_neg h1, if_neg (by simp; omega)]
    by_cases h2 : 60 < a ∨ 60 < b ∨ 60 < c ∨ 60 < d ∨ 60 < a + b + c + d
    · rw [if_pos h2, if_pos (by simp; omega)]
    · rw [if_neg h2, if_neg (by simp; omega)]

/-- the two sums of the exact test -/
def exFew (a b c d : Nat) : Nat := fewS (a + b) (c + d) (a + c) a (a + c + 1)
def exAll (a b c d : Nat) : Nat := allS (a + b) (c + d) (a + c) (a + c + 1)
/-- what Exact answers -/
def exV (a b c d : Int) : Int × Int × Int := if exF [a, b, c, d] ≠ 0 then (0, 0, exF [a, b, c, d])
  else (Frac.redN (exFew a.toNat b.toNat c.toNat d.toNat : Nat) (exAll a.toNat b.toNat c.toNat d.toNat : Nat), Frac.redD (exFew a.toNat b.toNat c.toNat d.toNat : Nat) (exAll a.toNat b.toNat c.toNat d.toNat : Nat), 0)

theorem IntsAt.new {w : World} {zs : List Int} {p : Nat} (hp : p = w.heap.size) : IntsAt (w.alloc (.cells (zs.map (Value.int .i64)).toArray 3)) (some ⟨p, 0, none⟩) zs := by
  subst hp
  exact IntsAt.block (heap_alloc_new _ _)
/-- in the shelf's words -/
theorem IntsAt.cells {w : World} {p off : Nat} {zs : List Int} (h : IntsAt w (some ⟨p, off, none⟩) zs) : ∀ j, j < zs.length → w.cell? ⟨p, off + j, none⟩ = some (.int .i64 (zs.getD j 0)) := by
  intro j hj
  obtain ⟨p', off', h1, h2, h3⟩ := h j hj
  injection h1 with h1
  injection h1 with h1 h1'
  subst h1 h1'
  rw [h3, List.getD_eq_getElem?_getD, List.getElem?_eq_getElem hj]
  rfl

set_option maxRecDepth 100000 in
set_option maxHeartbeats 2000000 in
theorem Exact_good (a b c d : Nat) (w : World) (h : a + b + c + d ≤ 60) :
    Calls Try.prog 22 #[.int .i64 a, .int .i64 b, .int .i64 c, .int .i64 d] w fun e w' =>
      e = .returned (.tuple #[.agg #[.int .i64 (Frac.redN (exFew a b c d : Nat) (exAll a b c d : Nat)), .int .i64 (Frac.redD (exFew a b c d : Nat) (exAll a b c d : Nat))], .int .i64 0]) ∧ Below w.heap.size w w' := by
  have hmin := min4 a b c d
  have hmax := max4 a b c d
  have HMI := Lib.hid (show ¬ Lib.minOf [(a : Int), b, c, d] < 0 by omega)
  have HMA := Lib.hid (show ¬ 60 < Lib.maxOf [(a : Int), b, c, d] by omega)
  clear hmin hmax
  go_enter Try.func22, Try.ntmps22
  go_wp2_with fail
  generalize hW : World.alloc (World.alloc (World.alloc (World.alloc (World.alloc (World.alloc w _) _) _) _) _) _ = W
  have ca : W.cell? ⟨w.heap.size, 0, none⟩ = some (.int .i64 a) := by subst hW; go_simp
  have cb : W.cell? ⟨w.heap.size + 1, 0, none⟩ = some (.int .i64 b) := by subst hW; go_simp
  have cc : W.cell? ⟨w.heap.size + 1 + 1, 0, none⟩ = some (.int .i64 c) := by subst hW; go_simp
  have cd : W.cell? ⟨w.heap.size + 1 + 1 + 1, 0, none⟩ = some (.int .i64 d) := by subst hW; go_simp
  have d0 : W.cell? ⟨w.heap.size + 1 + 1 + 1 + 1, 0, none⟩ = some (.int .i64 0) := by subst hW; go_simp
  have d1 : W.cell? ⟨w.heap.size + 1 + 1 + 1 + 1, 1, none⟩ = some (.int .i64 0) := by subst hW; go_simp
  have f0 : W.frozen? ⟨w.heap.size + 1 + 1 + 1 + 1, 0, none⟩ = false := by subst hW; go_simp
  have f1 : W.frozen? ⟨w.heap.size + 1 + 1 + 1 + 1, 1, none⟩ = false := by subst hW; go_simp
  have HI : Hid (IntsAt W (some ⟨w.heap.size + 1 + 1 + 1 + 1 + 1, 0, none⟩) [(a : Int), b, c, d]) := Lib.hid (by
    subst hW
    exact IntsAt.new (zs := [(a : Int), b, c, d]) (by simp))
  have hbW : Below w.heap.size w W := by subst hW; go_grown
  have hzW : w.heap.size + 1 + 1 + 1 + 1 + 1 + 1 ≤ W.heap.size := by subst hW; simp
  have HBW := Lib.hid hbW
  clear hW hbW
  have HC := Lib.hid HI.out.cells
  with_reducible refine (Try.slices_Min_int _ 0 4 _ [(a : Int), b, c, d] _ (by omega) (by simp) (by omega) HC.out).mono ?_
  rintro e w1 ⟨rfl, hw1⟩
  rw [hw1, show List.take 4 [(a : Int), b, c, d] = [(a : Int), b, c, d] from rfl]
  clear hw1 w1
  have hmi : 0 ≤ Lib.minOf [(a : Int), b, c, d] := by have := HMI.out; omega
  generalize Lib.minOf [(a : Int), b, c, d] = mi at *
  have hmi' : decide (mi < 0) = false := decide_eq_false (by omega)
  go_wp2_with fail
  with_reducible refine (Try.slices_Max_int _ 0 4 _ [(a : Int), b, c, d] _ (by omega) (by simp) (by omega) HC.out).mono ?_
  rintro e w1 ⟨rfl, hw1⟩
  rw [hw1, show List.take 4 [(a : Int), b, c, d] = [(a : Int), b, c, d] from rfl]
  clear hw1 w1
  have hma : Lib.maxOf [(a : Int), b, c, d] ≤ 60 := by have := HMA.out; omega
  generalize Lib.maxOf [(a : Int), b, c, d] = ma at *
  have hma' : decide (60 < ma) = false := decide_eq_false (by omega)
  go_wp2_with fail
  with_reducible refine (sumOf_any _ [(a : Int), b, c, d] 4 _ _ rfl (by omega) HI.out ?hs).mono ?_
  case hs =>
    intro z hz
    simp only [List.mem_cons, List.mem_nil_iff, or_false] at hz
    omega
  rintro e w1 ⟨rfl, rfl⟩
  have HSum := Lib.hid (show [(a : Int), b, c, d].sum = a + b + c + d by simp; omega)
  rw [HSum.out]
  clear HSum HC HI
  have hsm : decide (60 < (a : Int) + b + c + d) = false := decide_eq_false (by omega)
  go_wp2_with fail
  with_reducible refine (ways_any a b c d a _ _ _ _ _ h (by omega) ca cb cc cd).mono ?_
  rintro e w1 ⟨rfl, q0, rfl⟩
  have HWY := Lib.hid (fun (j q : Nat) (hj : j ≤ a + c) => ways_any a b c d j _ _ _ _ (W.drewN q) h hj ca cb cc cd)
  have bo := wy_le (a + b) (c + d) (a + c) a (by omega)
  generalize ho : wy (a + b) (c + d) (a + c) a = o at *
  have HO := Lib.hid ho
  clear ho
  go_wp2_with fail
  go_loopw [13, 14, 43] (fun f l i wr => ∃ j q : Nat, j ≤ a + c + 1 ∧ i = .int .i64 j ∧ f = .int .i64 (fewS (a + b) (c + d) (a + c) a j : Nat) ∧ l = .int .i64 (allS (a + b) (c + d) (a + c) j : Nat) ∧ wr = W.drewN q) (fun _ _ i _ => a + c + 1 - (intOf i).toNat)
  case atStart => exact ⟨0, _, by omega, rfl, rfl, rfl, rfl⟩
  case round =>
    obtain ⟨j, q, hj, rfl, rfl, rfl, rfl⟩ := hrel
    have l1 := allS_le (a + b) (c + d) (a + c) j (by omega)
    have l2 := fewS_le (a + b) (c + d) (a + c) a j
    by_cases hlt : j < a + c + 1
    · have bw := wy_le (a + b) (c + d) (a + c) j (by omega)
      have HA := Lib.hid (show allS (a + b) (c + d) (a + c) (j + 1) = allS (a + b) (c + d) (a + c) j + wy (a + b) (c + d) (a + c) j from rfl)
      have HF := Lib.hid (show fewS (a + b) (c + d) (a + c) a (j + 1) = fewS (a + b) (c + d) (a + c) a j + if wy (a + b) (c + d) (a + c) j ≤ wy (a + b) (c + d) (a + c) a then wy (a + b) (c + d) (a + c) j else 0 from rfl)
      rw [HO.out] at HF
      generalize allS (a + b) (c + d) (a + c) j = al at *
      generalize fewS (a + b) (c + d) (a + c) a j = fe at *
      go_wp2_with fail
      with_reducible refine (HWY.out j q (by omega)).mono ?_
      rintro e w1 ⟨rfl, q1, rfl⟩
      generalize wy (a + b) (c + d) (a + c) j = x at *
      by_cases hle : x ≤ o
      · go_wp2
        go_roundw
        case rel => exact ⟨j + 1, _, by omega, by go_num, by rw [HF.out, if_pos hle]; go_num, by rw [HA.out]; go_num, rfl⟩
        case measure => simp [intOf]; omega
      · go_wp2
        go_roundw
        case rel => exact ⟨j + 1, _, by omega, by go_num, by rw [HF.out, if_neg hle]; go_num, by rw [HA.out]; go_num, rfl⟩
        case measure => simp [intOf]; omega
    · obtain rfl : j = a + c + 1 := by omega
      clear hlt hj
      have l3 := allS_pos (a + b) (c + d) (a + c) a (a + c + 1) (by omega) (by omega) (by omega) (by omega)
      have HEF := Lib.hid (show exFew a b c d = fewS (a + b) (c + d) (a + c) a (a + c + 1) from rfl)
      have HEA := Lib.hid (show exAll a b c d = allS (a + b) (c + d) (a + c) (a + c + 1) from rfl)
      generalize allS (a + b) (c + d) (a + c) (a + c + 1) = al at *
      generalize fewS (a + b) (c + d) (a + c) a (a + c + 1) = fe at *
      clear HWY HO
      go_wp2_with fail
      with_reducible refine (reduce_pos _ _ _ (by omega) (by omega) (by omega) (by omega)).mono ?_
      rintro e w1 ⟨rfl, hb1⟩
      unfold fr
      have e0 : w1.cell? ⟨w.heap.size + 1 + 1 + 1 + 1, 0, none⟩ = some (.int .i64 0) := (hb1.cell (by show w.heap.size + 1 + 1 + 1 + 1 < W.heap.size; omega)).trans d0
      have e1 : w1.cell? ⟨w.heap.size + 1 + 1 + 1 + 1, 1, none⟩ = some (.int .i64 0) := (hb1.cell (by show w.heap.size + 1 + 1 + 1 + 1 < W.heap.size; omega)).trans d1
      have g0 : w1.frozen? ⟨w.heap.size + 1 + 1 + 1 + 1, 0, none⟩ = false := (hb1.frozen (by show w.heap.size + 1 + 1 + 1 + 1 < W.heap.size; omega)).trans f0
      have g1 : w1.frozen? ⟨w.heap.size + 1 + 1 + 1 + 1, 1, none⟩ = false := (hb1.frozen (by show w.heap.size + 1 + 1 + 1 + 1 < W.heap.size; omega)).trans f1
      have HB1 := Lib.hid (HBW.out.trans ((below_drewN (Below.refl w.heap.size W) q).trans (hb1.mono (by show w.heap.size ≤ W.heap.size; omega))))
      clear hb1 d0 d1 f0 f1 ca cb cc cd
      go_wp2_with fail
      refine bodyPost_ret (v := .tuple #[.agg #[.int .i64 (Frac.redN fe al), .int .i64 (Frac.redD fe al)], .int .i64 0]) (by simp [results, Try.results22, go_sem, e0, e1]) rfl ⟨by rw [HEF.out, HEA.out], ?_⟩
      exact (HB1.out.setCell (by show w.heap.size ≤ w.heap.size + 1 + 1 + 1 + 1; omega) _).setCell (by show w.heap.size ≤ w.heap.size + 1 + 1 + 1 + 1; omega) _
end Go.Proofs.Ytdnikegakcdcnaa
