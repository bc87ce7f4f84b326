/- The contract of the reference ChooseOf: rows of sums. -/
import Derived.Test.YtdnikegakcdcnaaRowF
import Derived.Test.YtdnikegakcdcnaaChooseGo
import Derived.Test.YtdnikegakcdcnaaShelf
set_option linter.unusedVariables false
namespace Go.Proofs.Ytdnikegakcdcnaa
open Go.RowKit

theorem info_int : (Try.prog.info? 3).map (fun i => (i.zero, i.size, i.bytes)) = some (some (.int .i64 0), 1, 8) := by kernel_rfl

/-- row r of the sums -/
def pasc (r : Nat) : List Int := (List.range (r + 1)).map fun j => ((Choose.ch r j : Nat) : Int)
theorem pasc_length (r : Nat) : (pasc r).length = r + 1 := by simp [pasc]
theorem pasc_getD (r j : Nat) (h : j < r + 1) : (pasc r).getD j 0 = (Choose.ch r j : Nat) := by simp [pasc, h]
/-- row r + 1 when the first k sums are made -/
def mix (r k j : Nat) : Int := if j < k then ((Choose.ch (r + 1) j : Nat) : Int) else if j ≤ r then ((Choose.ch r j : Nat) : Int) else 1
theorem mix_set (r k j : Nat) (hk : 1 ≤ k) (hk2 : k ≤ r) : (if j = k then ((Choose.ch r (k - 1) : Nat) : Int) + (Choose.ch r k : Nat) else mix r k j) = mix r (k + 1) j := by
  unfold mix
  by_cases e : j = k
  · subst e
    rw [if_pos rfl, if_pos (by omega)]
    obtain ⟨i, rfl⟩ : ∃ i, j = i + 1 := ⟨j - 1, by omega⟩
    rw [Choose.ch_succ, Nat.add_sub_cancel]
    omega
  · rw [if_neg e]
    by_cases h : j < k
    · rw [if_pos h, if_pos (by omega)]
    · have h' : ¬ j < k + 1 := by omega
      simp only [h, h', if_false]
theorem mix_start (r j : Nat) (h : j < r + 2) : (pasc r ++ [1]).getD j 0 = mix r 1 j := by
  unfold mix
  by_cases h0 : j < 1
  · obtain rfl : j = 0 := by omega
    rw [if_pos h0, Choose.ch_zero]
    simp [pasc, List.range_succ_eq_map, Choose.ch_zero]
  · rw [if_neg h0]
    by_cases h1 : j ≤ r
    · rw [if_pos h1, ← pasc_getD r j (by omega), List.getD_eq_getElem?_getD, List.getD_eq_getElem?_getD, List.getElem?_append_left (by rw [pasc_length]; omega)]
    · rw [if_neg h1]
      obtain rfl : j = r + 1 := by omega
      rw [List.getD_eq_getElem?_getD, List.getElem?_append_right (by rw [pasc_length]; omega), pasc_length]
      simp
theorem mix_end (r j : Nat) (h : j < r + 2) : mix r (r + 1) j = (Choose.ch (r + 1) j : Nat) := by
  unfold mix
  by_cases h0 : j < r + 1
  · rw [if_pos h0]
  · obtain rfl : j = r + 1 := by omega
    rw [if_neg h0, if_neg (by omega), Choose.ch_self]
    rfl

set_option maxRecDepth 100000 in
set_option maxHeartbeats 4000000 in
theorem ChooseOf_any (n k : Nat) (w : World) (hn : n ≤ 60) (hk : k ≤ n) :
    Calls Try.prog 19 #[.int .i64 n, .int .i64 k] w fun e w' => e = .returned (.int .i64 (Choose.ch n k : Nat)) ∧ Below w.heap.size w w' := by
  obtain ⟨i0, hi, hz0, hz1, hz2⟩ := info_parts info_int
  go_enter Try.func19, Try.ntmps19
  go_wp2_with fail
  go_loopw [5, 10] (fun v i wr => ∃ (r g cap : Nat), r ≤ n ∧ i = .int .i64 r ∧ v = .slice (some ⟨g, 0, none⟩) (r + 1) cap ∧ w.heap.size ≤ g ∧ RowF wr g (r + 1) (fun j => (Choose.ch r j : Nat)) ∧ Below w.heap.size w wr) (fun _ i _ => n - (intOf i).toNat)
  case atStart =>
    refine ⟨0, w.heap.size, 1, by omega, rfl, rfl, Nat.le_refl _, ⟨by simp, fun j hj => ?_, fun j hj => ?_⟩, (Below.refl _ _).alloc (Nat.le_refl _) _⟩
    · obtain rfl : j = 0 := by omega
      go_simp
      rfl
    · obtain rfl : j = 0 := by omega
      go_simp
  case round =>
    obtain ⟨r, g, cap, hr, rfl, rfl, hg, R, hb⟩ := hrel
    have HB := Lib.hid hb
    have HR := Lib.hid R
    have hzb := hb.size
    clear hb R
    by_cases hlt : r < n
    · go_wp2_with fail
      with_reducible refine (Try.slices_Clone_int g 0 (r + 1) cap (pasc r) _ (by rw [pasc_length]; omega) (by omega) ?hc).mono ?_
      case hc =>
        intro j hj
        rw [pasc_length] at hj
        rw [Nat.zero_add, HR.out.cell j hj, pasc_getD r j hj]
      rintro e w1 ⟨v1, rfl, own1, hv1, hb1⟩
      rw [List.take_of_length_le (by rw [pasc_length]; omega)] at own1
      have R1 := HR.out.below hb1
      have B1 := HB.out.trans (hb1.mono hzb)
      clear hv1
      have hz1' := hb1.size
      go_wp2_with (at_builtin; refine wpList_append_own _ rfl _ _ 22 rfl wr.heap.size 3 i0 (.int .i64 0) 1 8 Try.underlying22 hi hz0 hz1 hz2 rfl (by decide) _ _ _ rfl (own1.alloc _) ⟨w1.heap.size, 0, none⟩ 1 1 [.int .i64 1] rfl rfl ?c1 ?c2 ?c3 ?c4 ?c5 ?_)
      case c1 => exact (fun j u h => by
        obtain rfl : j = 0 := by
          rcases j with _ | j
          · rfl
          · simp at h
        simp at h
        subst h
        simp [Addr.add])
      case c2 => simp [Value.oneCell']
      case c3 => unfold maxLen; omega
      case c4 => omega
      case c5 => simp; omega
      intro v2 w2 own2 hgrow2 hne2
      clear hne2
      obtain ⟨g2, cap2, hv2, hb2, hlt2⟩ := own2.form (by omega)
      rw [hv2] at own2 ⊢
      clear hv2
      have own3 : w2.ownsRow wr.heap.size 3 1 (.slice (some ⟨g2, 0, none⟩) (r + 2) cap2) (r + 2) ((pasc r ++ [1]).map (Value.int .i64)) := by simpa using own2
      have R2 : RowF w2 g2 (r + 2) (mix r 1) := (RowF.of_own own3).congr (fun j hj => mix_start r j hj)
      have hgl := HR.out.lt
      have R3 : RowF w2 g (r + 1) (fun j => (Choose.ch r j : Nat)) := (R1.alloc _).grown hgrow2 (fun h => by have := (own1.lt g h.symm).1; omega)
      have B2 : Below w.heap.size w w2 := (B1.alloc (by omega) _).grown hgrow2 (by simp; omega) (fun q hq => by have := (own1.lt q hq).1; omega)
      have hne : ¬ g = g2 := by omega
      clear own1 own2 own3 hgrow2 HR HB R1 B1 hb1
      obtain ⟨wo, rfl⟩ : ∃ wo : World, wo = wr := ⟨_, rfl⟩
      go_wp2_with fail
      go_loopw [7] (fun i wr => ∃ q : Nat, 1 ≤ q ∧ q ≤ r + 1 ∧ i = .int .i64 q ∧ RowF wr g2 (r + 2) (mix r q) ∧ RowF wr g (r + 1) (fun j => (Choose.ch r j : Nat)) ∧ Below w.heap.size w wr) (fun i _ => r + 1 - (intOf i).toNat)
      case atStart => exact ⟨1, by omega, by omega, rfl, R2, R3, B2⟩
      case round =>
        clear R2 R3 B2
        obtain ⟨q, hq1, hq2, rfl, R2, R3, B2⟩ := hrel
        by_cases hq : q < r + 1
        · have c1 : wr.cell? ⟨g, q - 1, none⟩ = some (.int .i64 (Choose.ch r (q - 1) : Nat)) := R3.cell (q - 1) (by omega)
          have c2 : wr.cell? ⟨g, q, none⟩ = some (.int .i64 (Choose.ch r q : Nat)) := R3.cell q hq
          have c3 := R2.cell q (by omega)
          have f3 := R2.free q (by omega)
          have b1 := ch_bd r (q - 1) (by omega)
          have b2 := ch_bd r q (by omega)
          have HR2 := Lib.hid R2
          have HR3 := Lib.hid R3
          have HB2 := Lib.hid B2
          clear R2 R3 B2
          have HM := Lib.hid (fun j => mix_set r q j hq1 (by omega))
          generalize mix r q q = old at *
          generalize Choose.ch r (q - 1) = x1 at *
          generalize Choose.ch r q = x2 at *
          go_wp2_with fail
          go_region
          go_wp2
          go_roundw
          case rel => exact ⟨q + 1, by omega, by omega, by go_num, ((HR2.out.set q (by omega) _).congr (fun j _ => HM.out j)).drew, (HR3.out.far hne _).drew, (HB2.out.setCell (by show w.heap.size ≤ g2; omega) _).drew⟩
          case measure => simp [intOf]; omega
        · obtain rfl : q = r + 1 := by omega
          have HR2 := Lib.hid R2
          have HB2 := Lib.hid B2
          clear R2 R3 B2
          go_wp2
          go_roundw
          case rel => exact ⟨r + 1, g2, cap2, by omega, by go_num, rfl, by omega, HR2.out.congr (fun j hj => mix_end r j hj), HB2.out⟩
          case measure => simp [intOf]; omega
    · obtain rfl : r = n := by omega
      have c1 : wr.cell? ⟨g, k, none⟩ = some (.int .i64 (Choose.ch r k : Nat)) := HR.out.cell k (by omega)
      go_wp2
      go_ret
      exact ⟨rfl, HB.out⟩
end Go.Proofs.Ytdnikegakcdcnaa
