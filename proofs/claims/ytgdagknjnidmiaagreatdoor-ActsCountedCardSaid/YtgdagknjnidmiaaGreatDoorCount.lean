/- measure.count: one letter counted in its row. -/
import Derived.Test.YtgdagknjnidmiaaGreatDoorM1
import Derived.Test.YtgdagknjnidmiaaGreatDoorRwO
import Derived.Deep.RegionWith
import Derived.Deep.Cut
import Derived.Deep.DeepCutAuto
set_option linter.unusedVariables false
namespace Go.Proofs.YtgdagknjnidmiaaGreatDoor
open Go.RowKit

theorem grownW_same (w : World) (r : Option Nat) : w.grownBy w r := ⟨rfl, rfl, rfl, Nat.le_refl _, fun _ _ _ => rfl⟩
/-- the counts behind k of the four -/
def cntF (f : Nat → Nat) (d : Int → Bool) (k : Nat) : Nat → Nat := fun j => if j ≤ k + 1 then f j + incN d j else f j
theorem incN_one (d : Int → Bool) : incN d 1 = 1 := rfl
theorem cntF_zero (s : ByteArray) (f : Nat → Nat) (d : Int → Bool) : Rw.cells ⟨s, cntF f d 0⟩ = [.string s, .int .i64 ((f 1 : Int) + 1), .int .i64 (f 2 : Int), .int .i64 (f 3 : Int), .int .i64 (f 4 : Int), .int .i64 (f 5 : Int)] := by
  simp [Rw.cells, cntF, incN_one]
theorem cntF_four (s : ByteArray) (f : Nat → Nat) (d : Int → Bool) : Rw.cells ⟨s, cntF f d 4⟩ = Rw.cells ⟨s, fun j => f j + incN d j⟩ := by
  simp [Rw.cells, cntF]
theorem cntF_no (s : ByteArray) (f : Nat → Nat) (d : Int → Bool) (k : Nat) (h : incN d (k + 2) = 0) : Rw.cells ⟨s, cntF f d (k + 1)⟩ = Rw.cells ⟨s, cntF f d k⟩ := by
  have e : cntF f d (k + 1) = cntF f d k := by
    funext j
    unfold cntF
    by_cases h1 : j ≤ k + 1
    · rw [if_pos h1, if_pos (by omega)]
    · by_cases h2 : j = k + 2
      · subst h2
        rw [if_pos (by omega), if_neg h1, h]; rfl
      · rw [if_neg h1, if_neg (by omega)]
  rw [e]
theorem cntF_yes (f : Nat → Nat) (d : Int → Bool) (k : Nat) (h : incN d (k + 2) = 1) (j : Nat) : cntF f d (k + 1) j = if j = k + 2 then f (k + 2) + 1 else cntF f d k j := by
  unfold cntF
  by_cases h2 : j = k + 2
  · subst h2
    rw [if_pos (by omega), if_pos rfl, h]
  · rw [if_neg h2]
    by_cases h1 : j ≤ k + 1
    · rw [if_pos h1, if_pos (by omega)]
    · rw [if_neg h1, if_neg (by omega)]

theorem cells_yes (s : ByteArray) (f : Nat → Nat) (d : Int → Bool) (k : Nat) (hk : k < 4) (h : incN d (k + 2) = 1) : Rw.cells ⟨s, cntF f d (k + 1)⟩ = (Rw.cells ⟨s, cntF f d k⟩).set (k + 2) (.int .i64 ((f (k + 2) : Int) + 1)) := by
  have h2 := cntF_yes f d k h
  rcases (show k = 0 ∨ k = 1 ∨ k = 2 ∨ k = 3 by omega) with rfl | rfl | rfl | rfl <;> simp [Rw.cells, h2]

set_option maxRecDepth 100000 in
set_option maxHeartbeats 16000000 in
theorem count_any (q : Nat) (s : ByteArray) (f : Nat → Nat) (d0 : Bool) (d : Int → Bool) (w : World) (h : OB w q (Rw.cells ⟨s, f⟩) 37) (hf : ∀ j, f j ≤ 1000000) :
    Calls Tryz.prog 31 #[.pointer (some ⟨q, 0, none⟩), .agg #[.bool d0, .bool (d 1), .bool (d 2), .bool (d 3), .bool (d 4)]] w fun e w' => e = .returned (.tuple #[]) ∧ w.grownBy w' (some q) ∧ OB w' q (Rw.cells ⟨s, fun j => f j + incN d j⟩) 37 := by
  have H := Lib.hid h
  have HF := Lib.hid hf
  have f1 := hf 1
  obtain ⟨b1, hb1⟩ : ∃ b, d 1 = b := ⟨_, rfl⟩
  obtain ⟨b2, hb2⟩ : ∃ b, d 2 = b := ⟨_, rfl⟩
  obtain ⟨b3, hb3⟩ : ∃ b, d 3 = b := ⟨_, rfl⟩
  obtain ⟨b4, hb4⟩ : ∃ b, d 4 = b := ⟨_, rfl⟩
  rw [hb1, hb2, hb3, hb4]
  have HD := Lib.hid (show d 1 = b1 ∧ d 2 = b2 ∧ d 3 = b3 ∧ d 4 = b4 from ⟨hb1, hb2, hb3, hb4⟩)
  clear hb1 hb2 hb3 hb4 h hf
  have hql := H.out.lt
  have HA := Lib.hid (H.out.alloc (.cells #[.bool d0, .bool b1, .bool b2, .bool b3, .bool b4] 71))
  have HX := Lib.hid (XB.new w [.bool d0, .bool b1, .bool b2, .bool b3, .bool b4] 71)
  simp only [List.toArray] at HX
  have G0 : w.grownBy (w.alloc (.cells #[.bool d0, .bool b1, .bool b2, .bool b3, .bool b4] 71)) (some q) := World.grownBy_alloc w _ _
  go_enter Tryz.func31, Tryz.ntmps31
  go_upto_region 1 with (fail)
  generalize w.alloc (.cells #[.bool d0, .bool b1, .bool b2, .bool b3, .bool b4] 71) = w1 at *
  generalize hp : w.heap.size = p at *
  have hw1 : IntKind.i64.wrap ((f 1 : Int) + 1) = (f 1 : Int) + 1 := by rw [IntKind.wrap_i64]; omega
  obtain ⟨F0, hF0⟩ : ∃ z, (b1 || (b2 || b3)) = z := ⟨_, rfl⟩
  obtain ⟨F1, hF1⟩ : ∃ z, (b2 || b3) = z := ⟨_, rfl⟩
  have HFL : Hid (incN d 2 = (if F0 = true then 1 else 0) ∧ incN d 3 = (if F1 = true then 1 else 0) ∧ incN d 4 = (if b3 = true then 1 else 0) ∧ incN d 5 = (if b4 = true then 1 else 0)) := Lib.hid (by
    obtain ⟨h1, h2, h3, h4⟩ := HD.out
    rw [← hF0, ← hF1]
    unfold incN incB
    simp only [h1, h2, h3, h4]
    trivial)
  have HWR : Hid (∀ n : Nat, n ≤ 1000000 → IntKind.i64.wrap ((n : Int) + 1) = (n : Int) + 1) := Lib.hid (fun n h => by rw [IntKind.wrap_i64]; omega)
  clear hp H HD
  obtain ⟨x1, x2, x3, x4⟩ : w1.cell? ⟨p, 1, none⟩ = some (.bool b1) ∧ w1.cell? ⟨p, 2, none⟩ = some (.bool b2) ∧ w1.cell? ⟨p, 3, none⟩ = some (.bool b3) ∧ w1.cell? ⟨p, 4, none⟩ = some (.bool b4) := ⟨HX.out.2 1 _ rfl, HX.out.2 2 _ rfl, HX.out.2 3 _ rfl, HX.out.2 4 _ rfl⟩
  have hxl := HX.out.1
  have y1 : w1.cell? ⟨q, 1, none⟩ = some (.int .i64 (f 1 : Int)) := HA.out.cell 1 _ rfl
  have g1 := HA.out.free 1
  have hal := HA.out.lt
  have G1 : w1.grownBy (w1.setCell ⟨q, 1, none⟩ (.int .i64 ((f 1 : Int) + 1))) (some q) := grown_set (p := ⟨q, 1, none⟩) (grownW_same w1 _) (.inl rfl) _
  have HB := Lib.hid (HA.out.put (cs' := Rw.cells ⟨s, cntF f d 0⟩) 1 (.int .i64 ((f 1 : Int) + 1)) (cntF_zero s f d))
  have HXb := Lib.hid (HX.out.grown G1 (fun e => by have := Option.some.inj e; omega))
  have G2 := Lib.hid (grown_trans G0 G1)
  clear G0 G1
  have HP9 : Hid (∃ FS : List Value, FS = [.bool F0, .pointer (some ⟨q, 2, none⟩), .bool F1, .pointer (some ⟨q, 3, none⟩), .bool b3, .pointer (some ⟨q, 4, none⟩), .bool b4, .pointer (some ⟨q, 5, none⟩)]) := Lib.hid ⟨_, rfl⟩
  obtain ⟨FS, hFS⟩ := HP9.out
  have HFS := Lib.hid hFS
  clear hFS HP9
  cases b1 <;> cases b2 <;> (
    simp at hF0 hF1
    subst hF0 hF1
    go_upto_region 3 with (fail)
    clear x1 x2 x3 x4 y1 g1 hxl hal HX HA
    generalize (w1.setCell ⟨q, 1, none⟩ (.int .i64 ((f 1 : Int) + 1))) = w2 at *
    obtain ⟨z1, z2, z3, z4⟩ := show _ ∧ _ ∧ _ ∧ _ from ⟨HXb.out.2 1 _ rfl, HXb.out.2 2 _ rfl, HXb.out.2 3 _ rfl, HXb.out.2 4 _ rfl⟩
    have hxl := HXb.out.1
    have hal2 := HB.out.lt
    go_wp2_with fail
    go_region
    go_wp2_with fail
    clear z1 z2 z3 z4 hxl
    go_loopw [6, 48] (fun _ i wr => ∃ k : Nat, k ≤ 4 ∧ i = .int .i64 k ∧ OB wr q (Rw.cells ⟨s, cntF f d k⟩) 37 ∧ w.grownBy wr (some q) ∧ XB wr w2.heap.size FS) (fun _ i _ => 4 - (intOf i).toNat)
    case atStart => exact ⟨0, Nat.zero_le _, rfl, HB.out.alloc _, grown_drew (grown_alloc G2.out _), by rw [HFS.out]; first | exact (XB.new w2 _ _).drewN 1 | exact XB.new w2 _ _⟩
    case round =>
      obtain ⟨k, hk, rfl, hO, hG, hT⟩ := hrel
      have HO := Lib.hid hO
      have HG := Lib.hid hG
      have HT := Lib.hid hT
      clear HB G2 HXb hO hG hT
      have hol := HO.out.lt
      have htl := HT.out.1
      obtain ⟨r, hr⟩ : ∃ z, w2.heap.size = z := ⟨_, rfl⟩
      rw [hr] at HT htl hal2 ⊢
      rcases (show k = 0 ∨ k = 1 ∨ k = 2 ∨ k = 3 ∨ k = 4 by omega) with rfl | rfl | rfl | rfl | rfl
      · cases b3 <;> (
          have hY : wr.cell? ⟨q, 2, none⟩ = some (.int .i64 (f 2 : Int)) := HO.out.cell 2 _ (by simp [Rw.cells, cntF])
          have hY2 := HO.out.free 2
          have T0 := HT.out.2 0 _ (by rw [HFS.out]; rfl)
          have T1 := HT.out.2 1 _ (by rw [HFS.out]; rfl)
          have hW := HWR.out (f 2) (HF.out 2)
          have HOa := Lib.hid (fun o => HO.out.alloc o)
          have HGa := Lib.hid (fun o => grown_alloc HG.out o)
          have HTa := Lib.hid (fun o => HT.out.alloc o)
          go_wp2_with fail
          go_roundw
          case rel => first
            | exact ⟨1, by omega, by go_num, by rw [cntF_no s f d 0 (by rw [HFL.out.1]; rfl)]; exact HOa.out _, HGa.out _, HTa.out _⟩
            | exact ⟨1, by omega, by go_num, (HO.out.put 2 _ (cells_yes s f d 0 (by omega) (by rw [HFL.out.1]; rfl))).alloc _, grown_alloc (grown_set (p := ⟨q, 2, none⟩) HG.out (.inl rfl) _) _, (HT.out.grown (grown_set (p := ⟨q, 2, none⟩) (grownW_same _ (some q)) (.inl rfl) _) (fun e => by have := Option.some.inj e; omega)).alloc _⟩
          case measure => simp [intOf])
      · cases b3 <;> (
          have hY : wr.cell? ⟨q, 3, none⟩ = some (.int .i64 (f 3 : Int)) := HO.out.cell 3 _ (by simp [Rw.cells, cntF])
          have hY2 := HO.out.free 3
          have T0 := HT.out.2 2 _ (by rw [HFS.out]; rfl)
          have T1 := HT.out.2 3 _ (by rw [HFS.out]; rfl)
          have hW := HWR.out (f 3) (HF.out 3)
          have HOa := Lib.hid (fun o => HO.out.alloc o)
          have HGa := Lib.hid (fun o => grown_alloc HG.out o)
          have HTa := Lib.hid (fun o => HT.out.alloc o)
          go_wp2_with fail
          go_roundw
          case rel => first
            | exact ⟨2, by omega, by go_num, by rw [cntF_no s f d 1 (by rw [HFL.out.2.1]; rfl)]; exact HOa.out _, HGa.out _, HTa.out _⟩
            | exact ⟨2, by omega, by go_num, (HO.out.put 3 _ (cells_yes s f d 1 (by omega) (by rw [HFL.out.2.1]; rfl))).alloc _, grown_alloc (grown_set (p := ⟨q, 3, none⟩) HG.out (.inl rfl) _) _, (HT.out.grown (grown_set (p := ⟨q, 3, none⟩) (grownW_same _ (some q)) (.inl rfl) _) (fun e => by have := Option.some.inj e; omega)).alloc _⟩
          case measure => simp [intOf])
      · cases b3 <;> (
          have hY : wr.cell? ⟨q, 4, none⟩ = some (.int .i64 (f 4 : Int)) := HO.out.cell 4 _ (by simp [Rw.cells, cntF])
          have hY2 := HO.out.free 4
          have T0 := HT.out.2 4 _ (by rw [HFS.out]; rfl)
          have T1 := HT.out.2 5 _ (by rw [HFS.out]; rfl)
          have hW := HWR.out (f 4) (HF.out 4)
          have HOa := Lib.hid (fun o => HO.out.alloc o)
          have HGa := Lib.hid (fun o => grown_alloc HG.out o)
          have HTa := Lib.hid (fun o => HT.out.alloc o)
          go_wp2_with fail
          go_roundw
          case rel => first
            | exact ⟨3, by omega, by go_num, by rw [cntF_no s f d 2 (by rw [HFL.out.2.2.1]; rfl)]; exact HOa.out _, HGa.out _, HTa.out _⟩
            | exact ⟨3, by omega, by go_num, (HO.out.put 4 _ (cells_yes s f d 2 (by omega) (by rw [HFL.out.2.2.1]; rfl))).alloc _, grown_alloc (grown_set (p := ⟨q, 4, none⟩) HG.out (.inl rfl) _) _, (HT.out.grown (grown_set (p := ⟨q, 4, none⟩) (grownW_same _ (some q)) (.inl rfl) _) (fun e => by have := Option.some.inj e; omega)).alloc _⟩
          case measure => simp [intOf])
      · cases b4 <;> (
          have hY : wr.cell? ⟨q, 5, none⟩ = some (.int .i64 (f 5 : Int)) := HO.out.cell 5 _ (by simp [Rw.cells, cntF])
          have hY2 := HO.out.free 5
          have T0 := HT.out.2 6 _ (by rw [HFS.out]; rfl)
          have T1 := HT.out.2 7 _ (by rw [HFS.out]; rfl)
          have hW := HWR.out (f 5) (HF.out 5)
          have HOa := Lib.hid (fun o => HO.out.alloc o)
          have HGa := Lib.hid (fun o => grown_alloc HG.out o)
          have HTa := Lib.hid (fun o => HT.out.alloc o)
          go_wp2_with fail
          go_roundw
          case rel => first
            | exact ⟨4, by omega, by go_num, by rw [cntF_no s f d 3 (by rw [HFL.out.2.2.2]; rfl)]; exact HOa.out _, HGa.out _, HTa.out _⟩
            | exact ⟨4, by omega, by go_num, (HO.out.put 5 _ (cells_yes s f d 3 (by omega) (by rw [HFL.out.2.2.2]; rfl))).alloc _, grown_alloc (grown_set (p := ⟨q, 5, none⟩) HG.out (.inl rfl) _) _, (HT.out.grown (grown_set (p := ⟨q, 5, none⟩) (grownW_same _ (some q)) (.inl rfl) _) (fun e => by have := Option.some.inj e; omega)).alloc _⟩
          case measure => simp [intOf])
      · go_wp2_with fail
        refine bodyPost_end (results_none rfl _ _ _) rfl ?_
        exact ⟨rfl, HG.out, by rw [← cntF_four]; exact HO.out⟩)
end Go.Proofs.YtgdagknjnidmiaaGreatDoor
