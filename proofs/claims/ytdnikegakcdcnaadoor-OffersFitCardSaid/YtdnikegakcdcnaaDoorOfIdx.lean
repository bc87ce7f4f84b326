/- slices.IndexFunc and ContainsFunc over Offer, by their field key (printed by gen_idx.py). -/
import Derived.Test.YtdnikegakcdcnaaDoorOfSpec
import Derived.Test.YtdnikegakcdcnaaDoorIdx
set_option linter.unusedVariables false
namespace Go.Proofs.YtdnikegakcdcnaaDoor
open Go.RowKit

theorem chkOf1_any (x : Of) (q : Nat) (id : ByteArray) (w : World) (hq : w.cell? ⟨q, 0, none⟩ = some (.string id)) :
    Calls Tryd.prog 145 #[.agg #[.string x.key, .int .i64 x.kind, .int .i64 x.a, .int .i64 x.b, .slice x.tv x.tags.length x.tc, .int .i64 x.least, .int .i64 x.most, .string x.group, .bool x.alone, .int .i64 x.order, .int .i64 x.from_, .int .i64 x.to_], .pointer (some ⟨q, 0, none⟩)] w
      fun e w' => e = .returned (.bool (eqS x.key id)) ∧ Below w.heap.size w w' := by
  have hql := World.block_lt_of_cell? w _ hq
  go_enter Tryd.func145, Tryd.ntmps145
  go_wp2_with fail
  go_ret
  refine ⟨ret_bool ?_, (Below.refl _ _).alloc (Nat.le_refl _) _⟩
  rw [Bool.eq_iff_iff, eqS, decide_eq_true_eq]
  simp [Lib.toList_data]

set_option maxRecDepth 100000 in
set_option maxHeartbeats 4000000 in
theorem chkOfIdx_any (a : Option Addr) (l : List Of) (n c q : Nat) (id : ByteArray) (w : World) (hn : l.length = n) (hn1 : n ≤ 1000) (hI : RAt w a 12 Of.cells l) (hq : w.cell? ⟨q, 0, none⟩ = some (.string id)) :
    Calls Tryd.prog 199 #[.slice a n c, .func (.func 145) #[] #[.pointer (some ⟨q, 0, none⟩)]] w fun e w' => e = .returned (.int .i64 (idxG (l.map Of.key) id)) ∧ Below w.heap.size w w' := by
  have hql := World.block_lt_of_cell? w _ hq
  have HN := Lib.hid hn
  have HI := Lib.hid hI
  have HQ := Lib.hid hq
  obtain ⟨V, hV⟩ : ∃ V, idxG (l.map Of.key) id = V := ⟨_, rfl⟩
  rw [hV]
  have HV := Lib.hid hV.symm
  clear hn hI hq hV
  go_enter Tryd.func199, Tryd.ntmps199
  go_wp2_with fail
  go_loopw [5, 8] (fun _ i wr => ∃ k : Nat, k ≤ n ∧ i = .int .i64 k ∧ Below w.heap.size w wr ∧ Hid (V = idxGo ((l.map Of.key).drop k) id k)) (fun _ i _ => n - (intOf i).toNat)
  case atStart => exact ⟨0, Nat.zero_le _, rfl, Below.refl _ _, HV⟩
  case round =>
    obtain ⟨k, hk, rfl, hB, hH⟩ := hrel
    by_cases hlt : k < n
    · have hkl : k < l.length := by have := HN.out; omega
      obtain ⟨p, off, rfl, hp, c0, c1, c2, c3, c4, c5, c6, c7, c8, c9, c10, c11⟩ := (HI.out.below hB).at12 hkl (v0 := .string l[k].key) (v1 := .int .i64 l[k].kind) (v2 := .int .i64 l[k].a) (v3 := .int .i64 l[k].b) (v4 := .slice l[k].tv l[k].tags.length l[k].tc) (v5 := .int .i64 l[k].least) (v6 := .int .i64 l[k].most) (v7 := .string l[k].group) (v8 := .bool l[k].alone) (v9 := .int .i64 l[k].order) (v10 := .int .i64 l[k].from_) (v11 := .int .i64 l[k].to_) rfl
      have hq' := (hB.cell (p := ⟨q, 0, none⟩) hql).trans HQ.out
      have C := Lib.hid (chkOf1_any l[k] q id wr hq')
      have HS := Lib.hid (hH.out.trans (idxGo_drop (l.map Of.key) id k (by rw [List.length_map]; exact hkl)))
      rw [List.getElem_map] at HS
      obtain ⟨b, hb⟩ : ∃ b, eqS l[k].key id = b := ⟨_, rfl⟩
      rw [hb] at C HS
      clear hb hq' hH
      generalize l[k] = x at *
      obtain ⟨xkey, xkind, xa, xb, xtv, xtc, xtags, xleast, xmost, xgroup, xalone, xorder, xfrom, xto⟩ := x
      simp only at c0 c1 c2 c3 c4 c5 c6 c7 c8 c9 c10 c11 C
      cases b with
      | true =>
        obtain rfl : V = (k : Int) := HS.out.trans (if_pos rfl)
        go_wp2_with fail
        with_reducible refine C.out.mono ?_
        rintro e w1 ⟨rfl, b1⟩
        have HB1 := Lib.hid (hB.trans (b1.mono hB.size))
        go_wp2_with fail
        go_ret
        exact ⟨rfl, HB1.out⟩
      | false =>
        have HR := Lib.hid (HS.out.trans (if_neg (by decide)))
        go_wp2_with fail
        with_reducible refine C.out.mono ?_
        rintro e w1 ⟨rfl, b1⟩
        have HB1 := Lib.hid (hB.trans (b1.mono hB.size))
        go_wp2_with fail
        go_roundw
        case rel => exact ⟨k + 1, by omega, by go_num, HB1.out, HR⟩
        case measure => simp [intOf]; omega
    · have HE := Lib.hid (show V = -1 by rw [hH.out, List.drop_eq_nil_of_le (by rw [List.length_map, HN.out]; omega)]; rfl)
      have HB := Lib.hid hB
      clear hH hB
      go_wp2_with fail
      go_ret
      exact ⟨ret_int HE.out.symm, HB.out⟩

theorem chkOfHas_any (a : Option Addr) (l : List Of) (n c q : Nat) (id : ByteArray) (w : World) (hn : l.length = n) (hn1 : n ≤ 1000) (hI : RAt w a 12 Of.cells l) (hq : w.cell? ⟨q, 0, none⟩ = some (.string id)) :
    Calls Tryd.prog 142 #[.slice a n c, .func (.func 145) #[] #[.pointer (some ⟨q, 0, none⟩)]] w
      fun e w' => e = .returned (.bool (hasS (l.map Of.key) id)) ∧ Below w.heap.size w w' := by
  have C := Lib.hid (chkOfIdx_any a l n c q id w hn hn1 hI hq)
  have HE := Lib.hid (hasS_idx (l.map Of.key) id)
  clear hn hI hq
  generalize hasS (l.map Of.key) id = b at *
  generalize idxG (l.map Of.key) id = r at *
  go_enter Tryd.func142, Tryd.ntmps142
  go_wp2_with fail
  with_reducible refine C.out.mono ?_
  rintro e w1 ⟨rfl, hb⟩
  go_wp2_with fail
  go_ret
  exact ⟨ret_bool HE.out.symm, hb⟩
theorem ofFault1_any (x : Of) (q : Nat) (id : ByteArray) (w : World) (hq : w.cell? ⟨q, 0, none⟩ = some (.string id)) :
    Calls Tryd.prog 143 #[.agg #[.string x.key, .int .i64 x.kind, .int .i64 x.a, .int .i64 x.b, .slice x.tv x.tags.length x.tc, .int .i64 x.least, .int .i64 x.most, .string x.group, .bool x.alone, .int .i64 x.order, .int .i64 x.from_, .int .i64 x.to_], .pointer (some ⟨q, 0, none⟩)] w
      fun e w' => e = .returned (.bool (eqS x.key id)) ∧ Below w.heap.size w w' := by
  have hql := World.block_lt_of_cell? w _ hq
  go_enter Tryd.func143, Tryd.ntmps143
  go_wp2_with fail
  go_ret
  refine ⟨ret_bool ?_, (Below.refl _ _).alloc (Nat.le_refl _) _⟩
  rw [Bool.eq_iff_iff, eqS, decide_eq_true_eq]
  simp [Lib.toList_data]

set_option maxRecDepth 100000 in
set_option maxHeartbeats 4000000 in
theorem ofFaultIdx_any (a : Option Addr) (l : List Of) (n c q : Nat) (id : ByteArray) (w : World) (hn : l.length = n) (hn1 : n ≤ 1000) (hI : RAt w a 12 Of.cells l) (hq : w.cell? ⟨q, 0, none⟩ = some (.string id)) :
    Calls Tryd.prog 199 #[.slice a n c, .func (.func 143) #[] #[.pointer (some ⟨q, 0, none⟩)]] w fun e w' => e = .returned (.int .i64 (idxG (l.map Of.key) id)) ∧ Below w.heap.size w w' := by
  have hql := World.block_lt_of_cell? w _ hq
  have HN := Lib.hid hn
  have HI := Lib.hid hI
  have HQ := Lib.hid hq
  obtain ⟨V, hV⟩ : ∃ V, idxG (l.map Of.key) id = V := ⟨_, rfl⟩
  rw [hV]
  have HV := Lib.hid hV.symm
  clear hn hI hq hV
  go_enter Tryd.func199, Tryd.ntmps199
  go_wp2_with fail
  go_loopw [5, 8] (fun _ i wr => ∃ k : Nat, k ≤ n ∧ i = .int .i64 k ∧ Below w.heap.size w wr ∧ Hid (V = idxGo ((l.map Of.key).drop k) id k)) (fun _ i _ => n - (intOf i).toNat)
  case atStart => exact ⟨0, Nat.zero_le _, rfl, Below.refl _ _, HV⟩
  case round =>
    obtain ⟨k, hk, rfl, hB, hH⟩ := hrel
    by_cases hlt : k < n
    · have hkl : k < l.length := by have := HN.out; omega
      obtain ⟨p, off, rfl, hp, c0, c1, c2, c3, c4, c5, c6, c7, c8, c9, c10, c11⟩ := (HI.out.below hB).at12 hkl (v0 := .string l[k].key) (v1 := .int .i64 l[k].kind) (v2 := .int .i64 l[k].a) (v3 := .int .i64 l[k].b) (v4 := .slice l[k].tv l[k].tags.length l[k].tc) (v5 := .int .i64 l[k].least) (v6 := .int .i64 l[k].most) (v7 := .string l[k].group) (v8 := .bool l[k].alone) (v9 := .int .i64 l[k].order) (v10 := .int .i64 l[k].from_) (v11 := .int .i64 l[k].to_) rfl
      have hq' := (hB.cell (p := ⟨q, 0, none⟩) hql).trans HQ.out
      have C := Lib.hid (ofFault1_any l[k] q id wr hq')
      have HS := Lib.hid (hH.out.trans (idxGo_drop (l.map Of.key) id k (by rw [List.length_map]; exact hkl)))
      rw [List.getElem_map] at HS
      obtain ⟨b, hb⟩ : ∃ b, eqS l[k].key id = b := ⟨_, rfl⟩
      rw [hb] at C HS
      clear hb hq' hH
      generalize l[k] = x at *
      obtain ⟨xkey, xkind, xa, xb, xtv, xtc, xtags, xleast, xmost, xgroup, xalone, xorder, xfrom, xto⟩ := x
      simp only at c0 c1 c2 c3 c4 c5 c6 c7 c8 c9 c10 c11 C
      cases b with
      | true =>
        obtain rfl : V = (k : Int) := HS.out.trans (if_pos rfl)
        go_wp2_with fail
        with_reducible refine C.out.mono ?_
        rintro e w1 ⟨rfl, b1⟩
        have HB1 := Lib.hid (hB.trans (b1.mono hB.size))
        go_wp2_with fail
        go_ret
        exact ⟨rfl, HB1.out⟩
      | false =>
        have HR := Lib.hid (HS.out.trans (if_neg (by decide)))
        go_wp2_with fail
        with_reducible refine C.out.mono ?_
        rintro e w1 ⟨rfl, b1⟩
        have HB1 := Lib.hid (hB.trans (b1.mono hB.size))
        go_wp2_with fail
        go_roundw
        case rel => exact ⟨k + 1, by omega, by go_num, HB1.out, HR⟩
        case measure => simp [intOf]; omega
    · have HE := Lib.hid (show V = -1 by rw [hH.out, List.drop_eq_nil_of_le (by rw [List.length_map, HN.out]; omega)]; rfl)
      have HB := Lib.hid hB
      clear hH hB
      go_wp2_with fail
      go_ret
      exact ⟨ret_int HE.out.symm, HB.out⟩

theorem ofFaultHas_any (a : Option Addr) (l : List Of) (n c q : Nat) (id : ByteArray) (w : World) (hn : l.length = n) (hn1 : n ≤ 1000) (hI : RAt w a 12 Of.cells l) (hq : w.cell? ⟨q, 0, none⟩ = some (.string id)) :
    Calls Tryd.prog 142 #[.slice a n c, .func (.func 143) #[] #[.pointer (some ⟨q, 0, none⟩)]] w
      fun e w' => e = .returned (.bool (hasS (l.map Of.key) id)) ∧ Below w.heap.size w w' := by
  have C := Lib.hid (ofFaultIdx_any a l n c q id w hn hn1 hI hq)
  have HE := Lib.hid (hasS_idx (l.map Of.key) id)
  clear hn hI hq
  generalize hasS (l.map Of.key) id = b at *
  generalize idxG (l.map Of.key) id = r at *
  go_enter Tryd.func142, Tryd.ntmps142
  go_wp2_with fail
  with_reducible refine C.out.mono ?_
  rintro e w1 ⟨rfl, hb⟩
  go_wp2_with fail
  go_ret
  exact ⟨ret_bool HE.out.symm, hb⟩
end Go.Proofs.YtdnikegakcdcnaaDoor
