/- slices.IndexFunc and ContainsFunc over Budget, by their field key (printed by gen_idx.py). -/
import Derived.Test.YtdnikegakcdcnaaDoorBudSpec
import Derived.Test.YtdnikegakcdcnaaDoorIdx
set_option linter.unusedVariables false
namespace Go.Proofs.YtdnikegakcdcnaaDoor
open Go.RowKit

theorem checkBud1_any (x : Bd) (q : Nat) (id : ByteArray) (w : World) (hq : w.cell? ⟨q, 0, none⟩ = some (.string id)) :
    Calls Tryd.prog 128 #[.agg #[.string x.key, .int .i64 x.cents, .int .i64 x.first, .int .i64 x.last, .bool x.pace], .pointer (some ⟨q, 0, none⟩)] w
      fun e w' => e = .returned (.bool (eqS x.key id)) ∧ Below w.heap.size w w' := by
  have hql := World.block_lt_of_cell? w _ hq
  go_enter Tryd.func128, Tryd.ntmps128
  go_wp2_with fail
  go_ret
  refine ⟨ret_bool ?_, (Below.refl _ _).alloc (Nat.le_refl _) _⟩
  rw [Bool.eq_iff_iff, eqS, decide_eq_true_eq]
  simp [Lib.toList_data]

set_option maxRecDepth 100000 in
set_option maxHeartbeats 4000000 in
theorem checkBudIdx_any (a : Option Addr) (l : List Bd) (n c q : Nat) (id : ByteArray) (w : World) (hn : l.length = n) (hn1 : n ≤ 1000) (hI : RAt w a 5 Bd.cells l) (hq : w.cell? ⟨q, 0, none⟩ = some (.string id)) :
    Calls Tryd.prog 195 #[.slice a n c, .func (.func 128) #[] #[.pointer (some ⟨q, 0, none⟩)]] w fun e w' => e = .returned (.int .i64 (idxG (l.map Bd.key) id)) ∧ Below w.heap.size w w' := by
  have hql := World.block_lt_of_cell? w _ hq
  have HN := Lib.hid hn
  have HI := Lib.hid hI
  have HQ := Lib.hid hq
  obtain ⟨V, hV⟩ : ∃ V, idxG (l.map Bd.key) id = V := ⟨_, rfl⟩
  rw [hV]
  have HV := Lib.hid hV.symm
  clear hn hI hq hV
  go_enter Tryd.func195, Tryd.ntmps195
  go_wp2_with fail
  go_loopw [5, 8] (fun _ i wr => ∃ k : Nat, k ≤ n ∧ i = .int .i64 k ∧ Below w.heap.size w wr ∧ Hid (V = idxGo ((l.map Bd.key).drop k) id k)) (fun _ i _ => n - (intOf i).toNat)
  case atStart => exact ⟨0, Nat.zero_le _, rfl, Below.refl _ _, HV⟩
  case round =>
    obtain ⟨k, hk, rfl, hB, hH⟩ := hrel
    by_cases hlt : k < n
    · have hkl : k < l.length := by have := HN.out; omega
      obtain ⟨p, off, rfl, hp, c0, c1, c2, c3, c4⟩ := (HI.out.below hB).at5 hkl (v0 := .string l[k].key) (v1 := .int .i64 l[k].cents) (v2 := .int .i64 l[k].first) (v3 := .int .i64 l[k].last) (v4 := .bool l[k].pace) rfl
      have hq' := (hB.cell (p := ⟨q, 0, none⟩) hql).trans HQ.out
      have C := Lib.hid (checkBud1_any l[k] q id wr hq')
      have HS := Lib.hid (hH.out.trans (idxGo_drop (l.map Bd.key) id k (by rw [List.length_map]; exact hkl)))
      rw [List.getElem_map] at HS
      obtain ⟨b, hb⟩ : ∃ b, eqS l[k].key id = b := ⟨_, rfl⟩
      rw [hb] at C HS
      clear hb hq' hH
      generalize l[k] = x at *
      obtain ⟨xkey, xcents, xfirst, xlast, xpace⟩ := x
      simp only at c0 c1 c2 c3 c4 C
      cases b with
      | true =>
        obtain rfl : V = (k : Int) := HS.out.trans (if_pos rfl)
        go_wp2_with fail
        with_reducible refine C.out.mono ?_
        rintro e w1 ⟨rfl, b1⟩
        have HB1 := Lib.hid (hB.trans (b1.mono hB.size))
        go_wp2_with fail
        go_ret
        exact ⟨rfl, HB1.out⟩
      | false =>
        have HR := Lib.hid (HS.out.trans (if_neg (by decide)))
        go_wp2_with fail
        with_reducible refine C.out.mono ?_
        rintro e w1 ⟨rfl, b1⟩
        have HB1 := Lib.hid (hB.trans (b1.mono hB.size))
        go_wp2_with fail
        go_roundw
        case rel => exact ⟨k + 1, by omega, by go_num, HB1.out, HR⟩
        case measure => simp [intOf]; omega
    · have HE := Lib.hid (show V = -1 by rw [hH.out, List.drop_eq_nil_of_le (by rw [List.length_map, HN.out]; omega)]; rfl)
      have HB := Lib.hid hB
      clear hH hB
      go_wp2_with fail
      go_ret
      exact ⟨ret_int HE.out.symm, HB.out⟩

theorem checkBudHas_any (a : Option Addr) (l : List Bd) (n c q : Nat) (id : ByteArray) (w : World) (hn : l.length = n) (hn1 : n ≤ 1000) (hI : RAt w a 5 Bd.cells l) (hq : w.cell? ⟨q, 0, none⟩ = some (.string id)) :
    Calls Tryd.prog 126 #[.slice a n c, .func (.func 128) #[] #[.pointer (some ⟨q, 0, none⟩)]] w
      fun e w' => e = .returned (.bool (hasS (l.map Bd.key) id)) ∧ Below w.heap.size w w' := by
  have C := Lib.hid (checkBudIdx_any a l n c q id w hn hn1 hI hq)
  have HE := Lib.hid (hasS_idx (l.map Bd.key) id)
  clear hn hI hq
  generalize hasS (l.map Bd.key) id = b at *
  generalize idxG (l.map Bd.key) id = r at *
  go_enter Tryd.func126, Tryd.ntmps126
  go_wp2_with fail
  with_reducible refine C.out.mono ?_
  rintro e w1 ⟨rfl, hb⟩
  go_wp2_with fail
  go_ret
  exact ⟨ret_bool HE.out.symm, hb⟩
theorem budFault1_any (x : Bd) (q : Nat) (id : ByteArray) (w : World) (hq : w.cell? ⟨q, 0, none⟩ = some (.string id)) :
    Calls Tryd.prog 127 #[.agg #[.string x.key, .int .i64 x.cents, .int .i64 x.first, .int .i64 x.last, .bool x.pace], .pointer (some ⟨q, 0, none⟩)] w
      fun e w' => e = .returned (.bool (eqS x.key id)) ∧ Below w.heap.size w w' := by
  have hql := World.block_lt_of_cell? w _ hq
  go_enter Tryd.func127, Tryd.ntmps127
  go_wp2_with fail
  go_ret
  refine ⟨ret_bool ?_, (Below.refl _ _).alloc (Nat.le_refl _) _⟩
  rw [Bool.eq_iff_iff, eqS, decide_eq_true_eq]
  simp [Lib.toList_data]

set_option maxRecDepth 100000 in
set_option maxHeartbeats 4000000 in
theorem budFaultIdx_any (a : Option Addr) (l : List Bd) (n c q : Nat) (id : ByteArray) (w : World) (hn : l.length = n) (hn1 : n ≤ 1000) (hI : RAt w a 5 Bd.cells l) (hq : w.cell? ⟨q, 0, none⟩ = some (.string id)) :
    Calls Tryd.prog 195 #[.slice a n c, .func (.func 127) #[] #[.pointer (some ⟨q, 0, none⟩)]] w fun e w' => e = .returned (.int .i64 (idxG (l.map Bd.key) id)) ∧ Below w.heap.size w w' := by
  have hql := World.block_lt_of_cell? w _ hq
  have HN := Lib.hid hn
  have HI := Lib.hid hI
  have HQ := Lib.hid hq
  obtain ⟨V, hV⟩ : ∃ V, idxG (l.map Bd.key) id = V := ⟨_, rfl⟩
  rw [hV]
  have HV := Lib.hid hV.symm
  clear hn hI hq hV
  go_enter Tryd.func195, Tryd.ntmps195
  go_wp2_with fail
  go_loopw [5, 8] (fun _ i wr => ∃ k : Nat, k ≤ n ∧ i = .int .i64 k ∧ Below w.heap.size w wr ∧ Hid (V = idxGo ((l.map Bd.key).drop k) id k)) (fun _ i _ => n - (intOf i).toNat)
  case atStart => exact ⟨0, Nat.zero_le _, rfl, Below.refl _ _, HV⟩
  case round =>
    obtain ⟨k, hk, rfl, hB, hH⟩ := hrel
    by_cases hlt : k < n
    · have hkl : k < l.length := by have := HN.out; omega
      obtain ⟨p, off, rfl, hp, c0, c1, c2, c3, c4⟩ := (HI.out.below hB).at5 hkl (v0 := .string l[k].key) (v1 := .int .i64 l[k].cents) (v2 := .int .i64 l[k].first) (v3 := .int .i64 l[k].last) (v4 := .bool l[k].pace) rfl
      have hq' := (hB.cell (p := ⟨q, 0, none⟩) hql).trans HQ.out
      have C := Lib.hid (budFault1_any l[k] q id wr hq')
      have HS := Lib.hid (hH.out.trans (idxGo_drop (l.map Bd.key) id k (by rw [List.length_map]; exact hkl)))
      rw [List.getElem_map] at HS
      obtain ⟨b, hb⟩ : ∃ b, eqS l[k].key id = b := ⟨_, rfl⟩
      rw [hb] at C HS
      clear hb hq' hH
      generalize l[k] = x at *
      obtain ⟨xkey, xcents, xfirst, xlast, xpace⟩ := x
      simp only at c0 c1 c2 c3 c4 C
      cases b with
      | true =>
        obtain rfl : V = (k : Int) := HS.out.trans (if_pos rfl)
        go_wp2_with fail
        with_reducible refine C.out.mono ?_
        rintro e w1 ⟨rfl, b1⟩
        have HB1 := Lib.hid (hB.trans (b1.mono hB.size))
        go_wp2_with fail
        go_ret
        exact ⟨rfl, HB1.out⟩
      | false =>
        have HR := Lib.hid (HS.out.trans (if_neg (by decide)))
        go_wp2_with fail
        with_reducible refine C.out.mono ?_
        rintro e w1 ⟨rfl, b1⟩
        have HB1 := Lib.hid (hB.trans (b1.mono hB.size))
        go_wp2_with fail
        go_roundw
        case rel => exact ⟨k + 1, by omega, by go_num, HB1.out, HR⟩
        case measure => simp [intOf]; omega
    · have HE := Lib.hid (show V = -1 by rw [hH.out, List.drop_eq_nil_of_le (by rw [List.length_map, HN.out]; omega)]; rfl)
      have HB := Lib.hid hB
      clear hH hB
      go_wp2_with fail
      go_ret
      exact ⟨ret_int HE.out.symm, HB.out⟩

theorem budFaultHas_any (a : Option Addr) (l : List Bd) (n c q : Nat) (id : ByteArray) (w : World) (hn : l.length = n) (hn1 : n ≤ 1000) (hI : RAt w a 5 Bd.cells l) (hq : w.cell? ⟨q, 0, none⟩ = some (.string id)) :
    Calls Tryd.prog 126 #[.slice a n c, .func (.func 127) #[] #[.pointer (some ⟨q, 0, none⟩)]] w
      fun e w' => e = .returned (.bool (hasS (l.map Bd.key) id)) ∧ Below w.heap.size w w' := by
  have C := Lib.hid (budFaultIdx_any a l n c q id w hn hn1 hI hq)
  have HE := Lib.hid (hasS_idx (l.map Bd.key) id)
  clear hn hI hq
  generalize hasS (l.map Bd.key) id = b at *
  generalize idxG (l.map Bd.key) id = r at *
  go_enter Tryd.func126, Tryd.ntmps126
  go_wp2_with fail
  with_reducible refine C.out.mono ?_
  rintro e w1 ⟨rfl, hb⟩
  go_wp2_with fail
  go_ret
  exact ⟨ret_bool HE.out.symm, hb⟩
theorem budOf1_any (x : Bd) (q : Nat) (id : ByteArray) (w : World) (hq : w.cell? ⟨q, 0, none⟩ = some (.string id)) :
    Calls Tryd.prog 196 #[.agg #[.string x.key, .int .i64 x.cents, .int .i64 x.first, .int .i64 x.last, .bool x.pace], .pointer (some ⟨q, 0, none⟩)] w
      fun e w' => e = .returned (.bool (eqS x.key id)) ∧ Below w.heap.size w w' := by
  have hql := World.block_lt_of_cell? w _ hq
  go_enter Tryd.func196, Tryd.ntmps196
  go_wp2_with fail
  go_ret
  refine ⟨ret_bool ?_, (Below.refl _ _).alloc (Nat.le_refl _) _⟩
  rw [Bool.eq_iff_iff, eqS, decide_eq_true_eq]
  simp [Lib.toList_data]

set_option maxRecDepth 100000 in
set_option maxHeartbeats 4000000 in
theorem budOfIdx_any (a : Option Addr) (l : List Bd) (n c q : Nat) (id : ByteArray) (w : World) (hn : l.length = n) (hn1 : n ≤ 1000) (hI : RAt w a 5 Bd.cells l) (hq : w.cell? ⟨q, 0, none⟩ = some (.string id)) :
    Calls Tryd.prog 195 #[.slice a n c, .func (.func 196) #[] #[.pointer (some ⟨q, 0, none⟩)]] w fun e w' => e = .returned (.int .i64 (idxG (l.map Bd.key) id)) ∧ Below w.heap.size w w' := by
  have hql := World.block_lt_of_cell? w _ hq
  have HN := Lib.hid hn
  have HI := Lib.hid hI
  have HQ := Lib.hid hq
  obtain ⟨V, hV⟩ : ∃ V, idxG (l.map Bd.key) id = V := ⟨_, rfl⟩
  rw [hV]
  have HV := Lib.hid hV.symm
  clear hn hI hq hV
  go_enter Tryd.func195, Tryd.ntmps195
  go_wp2_with fail
  go_loopw [5, 8] (fun _ i wr => ∃ k : Nat, k ≤ n ∧ i = .int .i64 k ∧ Below w.heap.size w wr ∧ Hid (V = idxGo ((l.map Bd.key).drop k) id k)) (fun _ i _ => n - (intOf i).toNat)
  case atStart => exact ⟨0, Nat.zero_le _, rfl, Below.refl _ _, HV⟩
  case round =>
    obtain ⟨k, hk, rfl, hB, hH⟩ := hrel
    by_cases hlt : k < n
    · have hkl : k < l.length := by have := HN.out; omega
      obtain ⟨p, off, rfl, hp, c0, c1, c2, c3, c4⟩ := (HI.out.below hB).at5 hkl (v0 := .string l[k].key) (v1 := .int .i64 l[k].cents) (v2 := .int .i64 l[k].first) (v3 := .int .i64 l[k].last) (v4 := .bool l[k].pace) rfl
      have hq' := (hB.cell (p := ⟨q, 0, none⟩) hql).trans HQ.out
      have C := Lib.hid (budOf1_any l[k] q id wr hq')
      have HS := Lib.hid (hH.out.trans (idxGo_drop (l.map Bd.key) id k (by rw [List.length_map]; exact hkl)))
      rw [List.getElem_map] at HS
      obtain ⟨b, hb⟩ : ∃ b, eqS l[k].key id = b := ⟨_, rfl⟩
      rw [hb] at C HS
      clear hb hq' hH
      generalize l[k] = x at *
      obtain ⟨xkey, xcents, xfirst, xlast, xpace⟩ := x
      simp only at c0 c1 c2 c3 c4 C
      cases b with
      | true =>
        obtain rfl : V = (k : Int) := HS.out.trans (if_pos rfl)
        go_wp2_with fail
        with_reducible refine C.out.mono ?_
        rintro e w1 ⟨rfl, b1⟩
        have HB1 := Lib.hid (hB.trans (b1.mono hB.size))
        go_wp2_with fail
        go_ret
        exact ⟨rfl, HB1.out⟩
      | false =>
        have HR := Lib.hid (HS.out.trans (if_neg (by decide)))
        go_wp2_with fail
        with_reducible refine C.out.mono ?_
        rintro e w1 ⟨rfl, b1⟩
        have HB1 := Lib.hid (hB.trans (b1.mono hB.size))
        go_wp2_with fail
        go_roundw
        case rel => exact ⟨k + 1, by omega, by go_num, HB1.out, HR⟩
        case measure => simp [intOf]; omega
    · have HE := Lib.hid (show V = -1 by rw [hH.out, List.drop_eq_nil_of_le (by rw [List.length_map, HN.out]; omega)]; rfl)
      have HB := Lib.hid hB
      clear hH hB
      go_wp2_with fail
      go_ret
      exact ⟨ret_int HE.out.symm, HB.out⟩
theorem budRef1_any (x : Bd) (q : Nat) (id : ByteArray) (w : World) (hq : w.cell? ⟨q, 0, none⟩ = some (.string id)) :
    Calls Tryd.prog 197 #[.agg #[.string x.key, .int .i64 x.cents, .int .i64 x.first, .int .i64 x.last, .bool x.pace], .pointer (some ⟨q, 0, none⟩)] w
      fun e w' => e = .returned (.bool (eqS x.key id)) ∧ Below w.heap.size w w' := by
  have hql := World.block_lt_of_cell? w _ hq
  go_enter Tryd.func197, Tryd.ntmps197
  go_wp2_with fail
  go_ret
  refine ⟨ret_bool ?_, (Below.refl _ _).alloc (Nat.le_refl _) _⟩
  rw [Bool.eq_iff_iff, eqS, decide_eq_true_eq]
  simp [Lib.toList_data]

set_option maxRecDepth 100000 in
set_option maxHeartbeats 4000000 in
theorem budRefIdx_any (a : Option Addr) (l : List Bd) (n c q : Nat) (id : ByteArray) (w : World) (hn : l.length = n) (hn1 : n ≤ 1000) (hI : RAt w a 5 Bd.cells l) (hq : w.cell? ⟨q, 0, none⟩ = some (.string id)) :
    Calls Tryd.prog 195 #[.slice a n c, .func (.func 197) #[] #[.pointer (some ⟨q, 0, none⟩)]] w fun e w' => e = .returned (.int .i64 (idxG (l.map Bd.key) id)) ∧ Below w.heap.size w w' := by
  have hql := World.block_lt_of_cell? w _ hq
  have HN := Lib.hid hn
  have HI := Lib.hid hI
  have HQ := Lib.hid hq
  obtain ⟨V, hV⟩ : ∃ V, idxG (l.map Bd.key) id = V := ⟨_, rfl⟩
  rw [hV]
  have HV := Lib.hid hV.symm
  clear hn hI hq hV
  go_enter Tryd.func195, Tryd.ntmps195
  go_wp2_with fail
  go_loopw [5, 8] (fun _ i wr => ∃ k : Nat, k ≤ n ∧ i = .int .i64 k ∧ Below w.heap.size w wr ∧ Hid (V = idxGo ((l.map Bd.key).drop k) id k)) (fun _ i _ => n - (intOf i).toNat)
  case atStart => exact ⟨0, Nat.zero_le _, rfl, Below.refl _ _, HV⟩
  case round =>
    obtain ⟨k, hk, rfl, hB, hH⟩ := hrel
    by_cases hlt : k < n
    · have hkl : k < l.length := by have := HN.out; omega
      obtain ⟨p, off, rfl, hp, c0, c1, c2, c3, c4⟩ := (HI.out.below hB).at5 hkl (v0 := .string l[k].key) (v1 := .int .i64 l[k].cents) (v2 := .int .i64 l[k].first) (v3 := .int .i64 l[k].last) (v4 := .bool l[k].pace) rfl
      have hq' := (hB.cell (p := ⟨q, 0, none⟩) hql).trans HQ.out
      have C := Lib.hid (budRef1_any l[k] q id wr hq')
      have HS := Lib.hid (hH.out.trans (idxGo_drop (l.map Bd.key) id k (by rw [List.length_map]; exact hkl)))
      rw [List.getElem_map] at HS
      obtain ⟨b, hb⟩ : ∃ b, eqS l[k].key id = b := ⟨_, rfl⟩
      rw [hb] at C HS
      clear hb hq' hH
      generalize l[k] = x at *
      obtain ⟨xkey, xcents, xfirst, xlast, xpace⟩ := x
      simp only at c0 c1 c2 c3 c4 C
      cases b with
      | true =>
        obtain rfl : V = (k : Int) := HS.out.trans (if_pos rfl)
        go_wp2_with fail
        with_reducible refine C.out.mono ?_
        rintro e w1 ⟨rfl, b1⟩
        have HB1 := Lib.hid (hB.trans (b1.mono hB.size))
        go_wp2_with fail
        go_ret
        exact ⟨rfl, HB1.out⟩
      | false =>
        have HR := Lib.hid (HS.out.trans (if_neg (by decide)))
        go_wp2_with fail
        with_reducible refine C.out.mono ?_
        rintro e w1 ⟨rfl, b1⟩
        have HB1 := Lib.hid (hB.trans (b1.mono hB.size))
        go_wp2_with fail
        go_roundw
        case rel => exact ⟨k + 1, by omega, by go_num, HB1.out, HR⟩
        case measure => simp [intOf]; omega
    · have HE := Lib.hid (show V = -1 by rw [hH.out, List.drop_eq_nil_of_le (by rw [List.length_map, HN.out]; omega)]; rfl)
      have HB := Lib.hid hB
      clear hH hB
      go_wp2_with fail
      go_ret
      exact ⟨ret_int HE.out.symm, HB.out⟩
end Go.Proofs.YtdnikegakcdcnaaDoor
