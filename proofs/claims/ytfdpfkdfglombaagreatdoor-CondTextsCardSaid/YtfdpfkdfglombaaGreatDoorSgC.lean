/- segment.checkWhere: what is wrong with comparisons. -/
import Derived.Test.YtfdpfkdfglombaaGreatDoorSgU
set_option linter.unusedVariables false
namespace Go.Proofs.YtfdpfkdfglombaaGreatDoor
open Go.RowKit

theorem RAt.at5w {w : World} {a : Option Addr} {l : List Wh} (h : RAt w a 5 Wh.cells l) {j : Nat} (hj : j < l.length) :
    ∃ p off, a = some ⟨p, off, none⟩ ∧ p < w.heap.size ∧ w.cell? ⟨p, off + j * 5, none⟩ = some (.string l[j].field) ∧ w.cell? ⟨p, off + j * 5 + 1, none⟩ = some (.string l[j].sign) ∧ w.cell? ⟨p, off + j * 5 + 2, none⟩ = some (.int .i64 l[j].val.kind) ∧ w.cell? ⟨p, off + j * 5 + 3, none⟩ = some (.string l[j].val.text) ∧ w.cell? ⟨p, off + j * 5 + 4, none⟩ = some (.int .i64 l[j].val.num) := h.at5 hj rfl
set_option maxRecDepth 100000 in
set_option maxHeartbeats 4000000 in
theorem checkWhere_any (a : Option Addr) (l : List Wh) (n c : Nat) (w : World) (hn : l.length = n) (hm : n ≤ 1000) (hR : RAt w a 5 Wh.cells l) (hok : ∀ x ∈ l, x.ok) (hT : Tbs w) :
    Calls Tryz.prog 142 #[.slice a n c] w (IntO w (fstE whE l)) := by
  have HN := Lib.hid hn
  have HR := Lib.hid hR
  have HOK := Lib.hid hok
  have HT := Lib.hid hT
  clear hn hR hok hT
  go_enter Tryz.func142, Tryz.ntmps142
  go_wp2_with fail
  go_loopw [8] (fun i wr => ∃ k : Nat, k ≤ n ∧ i = .int .i64 k ∧ Below w.heap.size w wr ∧ Hid (fstE whE l = fstE whE (l.drop k))) (fun i _ => n - (intOf i).toNat)
  case atStart => exact ⟨0, Nat.zero_le _, rfl, Below.refl _ _, Lib.hid rfl⟩
  case round =>
    obtain ⟨k, hk, rfl, hB, HF⟩ := hrel
    by_cases hlt : k < n
    · have hkl : k < l.length := by have := HN.out; omega
      obtain ⟨p, off, rfl, hp, c0, c1, c2, c3, c4⟩ := (HR.out.below hB).at5w hkl
      have HD := Lib.hid (fstE_drop whE l k hkl)
      have HK := Lib.hid (HOK.out l[k] (List.getElem_mem hkl))
      have hTr := HT.out.below hB
      have HB := Lib.hid hB
      have HKL := Lib.hid hkl
      generalize l[k] = x at *
      obtain ⟨f, s, v⟩ := x
      have HV := Lib.hid (show whE ⟨f, s, v⟩ = if nmB f = false then 5 else if hasS sgnL s = false then 4 else vlE v from rfl)
      obtain ⟨hf1, hs1, hv1⟩ := HK.out
      have HVO := Lib.hid hv1
      simp only at c0 c1 c2 c3 c4 hf1 hs1 HVO
      generalize whE ⟨f, s, v⟩ = r at *
      have C1 := Lib.hid (fun w => isName_any f w (by unfold maxLen; omega))
      have C2 := Lib.hid (fun w => signAt_any s w)
      have C3 := Lib.hid (fun w h => checkValue_any v w HVO.out h)
      have HS := Lib.hid (idxS_has sgnL s)
      have HX := Lib.hid (XB.new wr [.string f, .string s, .int .i64 v.kind, .string v.text, .int .i64 v.num] 98)
      have HTA := Lib.hid (hTr.alloc (.cells #[.string f, .string s, .int .i64 v.kind, .string v.text, .int .i64 v.num] 98))
      have HBA := Lib.hid (HB.out.alloc HB.out.size (.cells #[.string f, .string s, .int .i64 v.kind, .string v.text, .int .i64 v.num] 98))
      generalize nmB f = b1 at *
      generalize hasS sgnL s = b2 at *
      generalize vlE v = e3 at *
      generalize idxS sgnL s = z at *
      clear hB hkl hTr HK hf1 hs1 hv1
      cases b1 with
      | false =>
        go_wp2_with fail
        with_reducible refine (C1.out _).mono ?_
        rintro e w1 ⟨rfl, rfl⟩
        go_wp2_with fail
        go_ret
        exact ⟨ret_int (by rw [HF.out, HD.out, HV.out]; rfl), HBA.out⟩
      | true =>
        go_wp2_with fail
        with_reducible refine (C1.out _).mono ?_
        rintro e w1 ⟨rfl, rfl⟩
        go_wp2_with fail
        ((with_reducible refine (C2.out _).mono ?_); rintro e w1 ⟨rfl, hb1⟩)
        have HX1 := Lib.hid (HX.out.below (hb1.mono (Nat.le_refl _)))
        have HT1 := Lib.hid (HTA.out.below hb1)
        have HB1 := Lib.hid (HBA.out.trans (hb1.mono (by have := HBA.out.size; omega)))
        simp only [World.size_alloc] at hb1
        cases b2 with
        | false =>
          have hz : z < 0 := by have := HS.out; simpa using this
          go_wp2_with fail
          go_ret
          exact ⟨ret_int (by rw [HF.out, HD.out, HV.out]; rfl), HB1.out⟩
        | true =>
          have hz : ¬ z < 0 := by have := HS.out; simpa using this
          have x2 := HX1.out.2 2 _ rfl
          have x3 := HX1.out.2 3 _ rfl
          have x4 := HX1.out.2 4 _ rfl
          clear hb1 c0 c1 c2 c3 c4
          go_wp2_with fail
          ((with_reducible refine (C3.out _ HT1.out).mono ?_); rintro e w2 ⟨rfl, hb2⟩)
          have HB2 := Lib.hid (HB1.out.trans (hb2.mono HB1.out.size))
          clear hb2 x2 x3 x4
          by_cases h3 : e3 = 0
          · subst h3
            go_wp2_with fail
            go_roundw
            case rel => exact ⟨k + 1, by omega, by go_num, HB2.out, Lib.hid (by rw [HF.out, HD.out, if_pos]; rw [HV.out]; rfl)⟩
            case measure => simp [intOf]; omega
          · have h4 : (e3 != 0) = true := by simpa using h3
            have H3 := Lib.hid h3
            clear h3
            go_wp2_with fail
            go_ret
            exact ⟨ret_int (by rw [HF.out, HD.out, if_neg]
                               · rw [HV.out]; rfl
                               · rw [HV.out]; exact H3.out), HB2.out⟩
    · have HZ : Hid (fstE whE (l.drop k) = 0) := Lib.hid (by rw [List.drop_eq_nil_of_le (by have := HN.out; omega)]; rfl)
      go_wp2_with fail
      go_ret
      exact ⟨ret_int (by rw [HF.out, HZ.out]), hB⟩
end Go.Proofs.YtfdpfkdfglombaaGreatDoor
