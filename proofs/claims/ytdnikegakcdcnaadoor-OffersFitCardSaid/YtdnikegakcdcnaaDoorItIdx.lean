/- slices.IndexFunc and ContainsFunc over Item, by their field key (printed by gen_idx.py). -/
import Derived.Test.YtdnikegakcdcnaaDoorOfSpec
import Derived.Test.YtdnikegakcdcnaaDoorIdx
set_option linter.unusedVariables false
namespace Go.Proofs.YtdnikegakcdcnaaDoor
open Go.RowKit

theorem chkIt1_any (x : It) (q : Nat) (id : ByteArray) (w : World) (hq : w.cell? ⟨q, 0, none⟩ = some (.string id)) :
    Calls Tryd.prog 149 #[.agg #[.string x.key, .int .i64 x.cents, .int .i64 x.many, .slice x.tv x.tags.length x.tc], .pointer (some ⟨q, 0, none⟩)] w
      fun e w' => e = .returned (.bool (eqS x.key id)) ∧ Below w.heap.size w w' := by
  have hql := World.block_lt_of_cell? w _ hq
  go_enter Tryd.func149, Tryd.ntmps149
  go_wp2_with fail
  go_ret
  refine ⟨ret_bool ?_, (Below.refl _ _).alloc (Nat.le_refl _) _⟩
  rw [Bool.eq_iff_iff, eqS, decide_eq_true_eq]
  simp [Lib.toList_data]

set_option maxRecDepth 100000 in
set_option maxHeartbeats 4000000 in
theorem chkItIdx_any (a : Option Addr) (l : List It) (n c q : Nat) (id : ByteArray) (w : World) (hn : l.length = n) (hn1 : n ≤ 1000) (hI : RAt w a 4 It.cells l) (hq : w.cell? ⟨q, 0, none⟩ = some (.string id)) :
    Calls Tryd.prog 200 #[.slice a n c, .func (.func 149) #[] #[.pointer (some ⟨q, 0, none⟩)]] w fun e w' => e = .returned (.int .i64 (idxG (l.map It.key) id)) ∧ Below w.heap.size w w' := by
  have hql := World.block_lt_of_cell? w _ hq
  have HN := Lib.hid hn
  have HI := Lib.hid hI
  have HQ := Lib.hid hq
  obtain ⟨V, hV⟩ : ∃ V, idxG (l.map It.key) id = V := ⟨_, rfl⟩
  rw [hV]
  have HV := Lib.hid hV.symm
  clear hn hI hq hV
  go_enter Tryd.func200, Tryd.ntmps200
  go_wp2_with fail
  go_loopw [5, 8] (fun _ i wr => ∃ k : Nat, k ≤ n ∧ i = .int .i64 k ∧ Below w.heap.size w wr ∧ Hid (V = idxGo ((l.map It.key).drop k) id k)) (fun _ i _ => n - (intOf i).toNat)
  case atStart => exact ⟨0, Nat.zero_le _, rfl, Below.refl _ _, HV⟩
  case round =>
    obtain ⟨k, hk, rfl, hB, hH⟩ := hrel
    by_cases hlt : k < n
    · have hkl : k < l.length := by have := HN.out; omega
      obtain ⟨p, off, rfl, hp, c0, c1, c2, c3⟩ := (HI.out.below hB).at4 hkl (v0 := .string l[k].key) (v1 := .int .i64 l[k].cents) (v2 := .int .i64 l[k].many) (v3 := .slice l[k].tv l[k].tags.length l[k].tc) rfl
      have hq' := (hB.cell (p := ⟨q, 0, none⟩) hql).trans HQ.out
      have C := Lib.hid (chkIt1_any l[k] q id wr hq')
      have HS := Lib.hid (hH.out.trans (idxGo_drop (l.map It.key) id k (by rw [List.length_map]; exact hkl)))
      rw [List.getElem_map] at HS
      obtain ⟨b, hb⟩ : ∃ b, eqS l[k].key id = b := ⟨_, rfl⟩
      rw [hb] at C HS
      clear hb hq' hH
      generalize l[k] = x at *
      obtain ⟨xkey, xcents, xmany, xtv, xtc, xtags⟩ := x
      simp only at c0 c1 c2 c3 C
      cases b with
      | true =>
        obtain rfl : V = (k : Int) := HS.out.trans (if_pos rfl)
        go_wp2_with fail
        with_reducible refine C.out.mono ?_
        rintro e w1 ⟨rfl, b1⟩
        have HB1 := Lib.hid (hB.trans (b1.mono hB.size))
        go_wp2_with fail
        go_ret
        exact ⟨rfl, HB1.out⟩
      | false =>
        have HR := Lib.hid (HS.out.trans (if_neg (by decide)))
        go_wp2_with fail
        with_reducible refine C.out.mono ?_
        rintro e w1 ⟨rfl, b1⟩
        have HB1 := Lib.hid (hB.trans (b1.mono hB.size))
        go_wp2_with fail
        go_roundw
        case rel => exact ⟨k + 1, by omega, by go_num, HB1.out, HR⟩
        case measure => simp [intOf]; omega
    · have HE := Lib.hid (show V = -1 by rw [hH.out, List.drop_eq_nil_of_le (by rw [List.length_map, HN.out]; omega)]; rfl)
      have HB := Lib.hid hB
      clear hH hB
      go_wp2_with fail
      go_ret
      exact ⟨ret_int HE.out.symm, HB.out⟩

theorem chkItHas_any (a : Option Addr) (l : List It) (n c q : Nat) (id : ByteArray) (w : World) (hn : l.length = n) (hn1 : n ≤ 1000) (hI : RAt w a 4 It.cells l) (hq : w.cell? ⟨q, 0, none⟩ = some (.string id)) :
    Calls Tryd.prog 148 #[.slice a n c, .func (.func 149) #[] #[.pointer (some ⟨q, 0, none⟩)]] w
      fun e w' => e = .returned (.bool (hasS (l.map It.key) id)) ∧ Below w.heap.size w w' := by
  have C := Lib.hid (chkItIdx_any a l n c q id w hn hn1 hI hq)
  have HE := Lib.hid (hasS_idx (l.map It.key) id)
  clear hn hI hq
  generalize hasS (l.map It.key) id = b at *
  generalize idxG (l.map It.key) id = r at *
  go_enter Tryd.func148, Tryd.ntmps148
  go_wp2_with fail
  with_reducible refine C.out.mono ?_
  rintro e w1 ⟨rfl, hb⟩
  go_wp2_with fail
  go_ret
  exact ⟨ret_bool HE.out.symm, hb⟩
theorem itFault1_any (x : It) (q : Nat) (id : ByteArray) (w : World) (hq : w.cell? ⟨q, 0, none⟩ = some (.string id)) :
    Calls Tryd.prog 150 #[.agg #[.string x.key, .int .i64 x.cents, .int .i64 x.many, .slice x.tv x.tags.length x.tc], .pointer (some ⟨q, 0, none⟩)] w
      fun e w' => e = .returned (.bool (eqS x.key id)) ∧ Below w.heap.size w w' := by
  have hql := World.block_lt_of_cell? w _ hq
  go_enter Tryd.func150, Tryd.ntmps150
  go_wp2_with fail
  go_ret
  refine ⟨ret_bool ?_, (Below.refl _ _).alloc (Nat.le_refl _) _⟩
  rw [Bool.eq_iff_iff, eqS, decide_eq_true_eq]
  simp [Lib.toList_data]

set_option maxRecDepth 100000 in
set_option maxHeartbeats 4000000 in
theorem itFaultIdx_any (a : Option Addr) (l : List It) (n c q : Nat) (id : ByteArray) (w : World) (hn : l.length = n) (hn1 : n ≤ 1000) (hI : RAt w a 4 It.cells l) (hq : w.cell? ⟨q, 0, none⟩ = some (.string id)) :
    Calls Tryd.prog 200 #[.slice a n c, .func (.func 150) #[] #[.pointer (some ⟨q, 0, none⟩)]] w fun e w' => e = .returned (.int .i64 (idxG (l.map It.key) id)) ∧ Below w.heap.size w w' := by
  have hql := World.block_lt_of_cell? w _ hq
  have HN := Lib.hid hn
  have HI := Lib.hid hI
  have HQ := Lib.hid hq
  obtain ⟨V, hV⟩ : ∃ V, idxG (l.map It.key) id = V := ⟨_, rfl⟩
  rw [hV]
  have HV := Lib.hid hV.symm
  clear hn hI hq hV
  go_enter Tryd.func200, Tryd.ntmps200
  go_wp2_with fail
  go_loopw [5, 8] (fun _ i wr => ∃ k : Nat, k ≤ n ∧ i = .int .i64 k ∧ Below w.heap.size w wr ∧ Hid (V = idxGo ((l.map It.key).drop k) id k)) (fun _ i _ => n - (intOf i).toNat)
  case atStart => exact ⟨0, Nat.zero_le _, rfl, Below.refl _ _, HV⟩
  case round =>
    obtain ⟨k, hk, rfl, hB, hH⟩ := hrel
    by_cases hlt : k < n
    · have hkl : k < l.length := by have := HN.out; omega
      obtain ⟨p, off, rfl, hp, c0, c1, c2, c3⟩ := (HI.out.below hB).at4 hkl (v0 := .string l[k].key) (v1 := .int .i64 l[k].cents) (v2 := .int .i64 l[k].many) (v3 := .slice l[k].tv l[k].tags.length l[k].tc) rfl
      have hq' := (hB.cell (p := ⟨q, 0, none⟩) hql).trans HQ.out
      have C := Lib.hid (itFault1_any l[k] q id wr hq')
      have HS := Lib.hid (hH.out.trans (idxGo_drop (l.map It.key) id k (by rw [List.length_map]; exact hkl)))
      rw [List.getElem_map] at HS
      obtain ⟨b, hb⟩ : ∃ b, eqS l[k].key id = b := ⟨_, rfl⟩
      rw [hb] at C HS
      clear hb hq' hH
      generalize l[k] = x at *
      obtain ⟨xkey, xcents, xmany, xtv, xtc, xtags⟩ := x
      simp only at c0 c1 c2 c3 C
      cases b with
      | true =>
        obtain rfl : V = (k : Int) := HS.out.trans (if_pos rfl)
        go_wp2_with fail
        with_reducible refine C.out.mono ?_
        rintro e w1 ⟨rfl, b1⟩
        have HB1 := Lib.hid (hB.trans (b1.mono hB.size))
        go_wp2_with fail
        go_ret
        exact ⟨rfl, HB1.out⟩
      | false =>
        have HR := Lib.hid (HS.out.trans (if_neg (by decide)))
        go_wp2_with fail
        with_reducible refine C.out.mono ?_
        rintro e w1 ⟨rfl, b1⟩
        have HB1 := Lib.hid (hB.trans (b1.mono hB.size))
        go_wp2_with fail
        go_roundw
        case rel => exact ⟨k + 1, by omega, by go_num, HB1.out, HR⟩
        case measure => simp [intOf]; omega
    · have HE := Lib.hid (show V = -1 by rw [hH.out, List.drop_eq_nil_of_le (by rw [List.length_map, HN.out]; omega)]; rfl)
      have HB := Lib.hid hB
      clear hH hB
      go_wp2_with fail
      go_ret
      exact ⟨ret_int HE.out.symm, HB.out⟩

theorem itFaultHas_any (a : Option Addr) (l : List It) (n c q : Nat) (id : ByteArray) (w : World) (hn : l.length = n) (hn1 : n ≤ 1000) (hI : RAt w a 4 It.cells l) (hq : w.cell? ⟨q, 0, none⟩ = some (.string id)) :
    Calls Tryd.prog 148 #[.slice a n c, .func (.func 150) #[] #[.pointer (some ⟨q, 0, none⟩)]] w
      fun e w' => e = .returned (.bool (hasS (l.map It.key) id)) ∧ Below w.heap.size w w' := by
  have C := Lib.hid (itFaultIdx_any a l n c q id w hn hn1 hI hq)
  have HE := Lib.hid (hasS_idx (l.map It.key) id)
  clear hn hI hq
  generalize hasS (l.map It.key) id = b at *
  generalize idxG (l.map It.key) id = r at *
  go_enter Tryd.func148, Tryd.ntmps148
  go_wp2_with fail
  with_reducible refine C.out.mono ?_
  rintro e w1 ⟨rfl, hb⟩
  go_wp2_with fail
  go_ret
  exact ⟨ret_bool HE.out.symm, hb⟩
end Go.Proofs.YtdnikegakcdcnaaDoor
