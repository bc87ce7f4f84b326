/- slices.IndexFunc and ContainsFunc over Offer, by their field key (printed by gen_idx.py). -/
import Derived.Test.YtdefjnefkdemiaaGreatDoorM1
import Derived.Test.YtdefjnefkdemiaaGreatDoorMem
import Derived.Test.YtdefjnefkdemiaaGreatDoorShelf
set_option linter.unusedVariables false
namespace Go.Proofs.YtdefjnefkdemiaaGreatDoor
open Go.RowKit

theorem chkOf1_any (x : Of) (q : Nat) (id : ByteArray) (w : World) (hq : w.cell? ⟨q, 0, none⟩ = some (.string id)) :
    Calls Tryz.prog 76 #[.agg #[.string x.key, .int .i64 x.kind, .int .i64 x.a, .int .i64 x.b, .slice x.tv x.tags.length x.tc, .int .i64 x.least, .int .i64 x.most, .string x.group, .bool x.alone, .int .i64 x.order, .int .i64 x.from_, .int .i64 x.to_], .pointer (some ⟨q, 0, none⟩)] w
      fun e w' => e = .returned (.bool (eqS x.key id)) ∧ Below w.heap.size w w' := by
  have hql := World.block_lt_of_cell? w _ hq
  go_enter Tryz.func76, Tryz.ntmps76
  go_wp2_with fail
  go_ret
  refine ⟨ret_bool ?_, (Below.refl _ _).alloc (Nat.le_refl _) _⟩
  rw [Bool.eq_iff_iff, eqS, decide_eq_true_eq]
  simp [Lib.toList_data]

set_option maxRecDepth 100000 in
set_option maxHeartbeats 4000000 in
theorem chkOfIdx_any (a : Option Addr) (l : List Of) (n c q : Nat) (id : ByteArray) (w : World) (hn : l.length = n) (hn1 : n ≤ 1000) (hI : RAt w a 12 Of.cells l) (hq : w.cell? ⟨q, 0, none⟩ = some (.string id)) :
    Calls Tryz.prog 25 #[.slice a n c, .func (.func 76) #[] #[.pointer (some ⟨q, 0, none⟩)]] w fun e w' => e = .returned (.int .i64 (idxG (l.map Of.key) id)) ∧ Below w.heap.size w w' := by
  have hql := World.block_lt_of_cell? w _ hq
  have HN := Lib.hid hn
  have HI := Lib.hid hI
  have HQ := Lib.hid hq
  obtain ⟨V, hV⟩ : ∃ V, idxG (l.map Of.key) id = V := ⟨_, rfl⟩
  rw [hV]
  have HV := Lib.hid hV.symm
  clear hn hI hq hV
  go_enter Tryz.func25, Tryz.ntmps25
  go_wp2_with fail
  go_loopw [5, 8] (fun _ i wr => ∃ k : Nat, k ≤ n ∧ i = .int .i64 k ∧ Below w.heap.size w wr ∧ Hid (V = idxGo ((l.map Of.key).drop k) id k)) (fun _ i _ => n - (intOf i).toNat)
  case atStart => exact ⟨0, Nat.zero_le _, rfl, Below.refl _ _, HV⟩
  case round =>
    obtain ⟨k, hk, rfl, hB, hH⟩ := hrel
    by_cases hlt : k < n
    · have hkl : k < l.length := by have := HN.out; omega
      obtain ⟨p, off, rfl, hp, c0, c1, c2, c3, c4, c5, c6, c7, c8, c9, c10, c11⟩ := (HI.out.below hB).at12 hkl (v0 := .string l[k].key) (v1 := .int .i64 l[k].kind) (v2 := .int .i64 l[k].a) (v3 := .int .i64 l[k].b) (v4 := .slice l[k].tv l[k].tags.length l[k].tc) (v5 := .int .i64 l[k].least) (v6 := .int .i64 l[k].most) (v7 := .string l[k].group) (v8 := .bool l[k].alone) (v9 := .int .i64 l[k].order) (v10 := .int .i64 l[k].from_) (v11 := .int .i64 l[k].to_) rfl
      have hq' := (hB.cell (p := ⟨q, 0, none⟩) hql).trans HQ.out
      have C := Lib.hid (chkOf1_any l[k] q id wr hq')
      have HS := Lib.hid (hH.out.trans (idxGo_drop (l.map Of.key) id k (by rw [List.length_map]; exact hkl)))
      rw [List.getElem_map] at HS
      obtain ⟨b, hb⟩ : ∃ b, eqS l[k].key id = b := ⟨_, rfl⟩
      rw [hb] at C HS
      clear hb hq' hH
      generalize l[k] = x at *
      obtain ⟨xkey, xkind, xa, xb, xtv, xtc, xtags, xleast, xmost, xgroup, xalone, xorder, xfrom, xto⟩ := x
      simp only at c0 c1 c2 c3 c4 c5 c6 c7 c8 c9 c10 c11 C
      cases b with
      | true =>
        obtain rfl : V = (k : Int) := HS.out.trans (if_pos rfl)
        go_wp2_with fail
        with_reducible refine C.out.mono ?_
        rintro e w1 ⟨rfl, b1⟩
        have HB1 := Lib.hid (hB.trans (b1.mono hB.size))
        go_wp2_with fail
        go_ret
        exact ⟨rfl, HB1.out⟩
      | false =>
        have HR := Lib.hid (HS.out.trans (if_neg (by decide)))
        go_wp2_with fail
        with_reducible refine C.out.mono ?_
        rintro e w1 ⟨rfl, b1⟩
        have HB1 := Lib.hid (hB.trans (b1.mono hB.size))
        go_wp2_with fail
        go_roundw
        case rel => exact ⟨k + 1, by omega, by go_num, HB1.out, HR⟩
        case measure => simp [intOf]; omega
    · have HE := Lib.hid (show V = -1 by rw [hH.out, List.drop_eq_nil_of_le (by rw [List.length_map, HN.out]; omega)]; rfl)
      have HB := Lib.hid hB
      clear hH hB
      go_wp2_with fail
      go_ret
      exact ⟨ret_int HE.out.symm, HB.out⟩

theorem chkOfHas_any (a : Option Addr) (l : List Of) (n c q : Nat) (id : ByteArray) (w : World) (hn : l.length = n) (hn1 : n ≤ 1000) (hI : RAt w a 12 Of.cells l) (hq : w.cell? ⟨q, 0, none⟩ = some (.string id)) :
    Calls Tryz.prog 29 #[.slice a n c, .func (.func 76) #[] #[.pointer (some ⟨q, 0, none⟩)]] w
      fun e w' => e = .returned (.bool (hasS (l.map Of.key) id)) ∧ Below w.heap.size w w' := by
  have C := Lib.hid (chkOfIdx_any a l n c q id w hn hn1 hI hq)
  have HE := Lib.hid (hasS_idx (l.map Of.key) id)
  clear hn hI hq
  generalize hasS (l.map Of.key) id = b at *
  generalize idxG (l.map Of.key) id = r at *
  go_enter Tryz.func29, Tryz.ntmps29
  go_wp2_with fail
  with_reducible refine C.out.mono ?_
  rintro e w1 ⟨rfl, hb⟩
  go_wp2_with fail
  go_ret
  exact ⟨ret_bool HE.out.symm, hb⟩
theorem ofFault1_any (x : Of) (q : Nat) (id : ByteArray) (w : World) (hq : w.cell? ⟨q, 0, none⟩ = some (.string id)) :
    Calls Tryz.prog 59 #[.agg #[.string x.key, .int .i64 x.kind, .int .i64 x.a, .int .i64 x.b, .slice x.tv x.tags.length x.tc, .int .i64 x.least, .int .i64 x.most, .string x.group, .bool x.alone, .int .i64 x.order, .int .i64 x.from_, .int .i64 x.to_], .pointer (some ⟨q, 0, none⟩)] w
      fun e w' => e = .returned (.bool (eqS x.key id)) ∧ Below w.heap.size w w' := by
  have hql := World.block_lt_of_cell? w _ hq
  go_enter Tryz.func59, Tryz.ntmps59
  go_wp2_with fail
  go_ret
  refine ⟨ret_bool ?_, (Below.refl _ _).alloc (Nat.le_refl _) _⟩
  rw [Bool.eq_iff_iff, eqS, decide_eq_true_eq]
  simp [Lib.toList_data]

set_option maxRecDepth 100000 in
set_option maxHeartbeats 4000000 in
theorem ofFaultIdx_any (a : Option Addr) (l : List Of) (n c q : Nat) (id : ByteArray) (w : World) (hn : l.length = n) (hn1 : n ≤ 1000) (hI : RAt w a 12 Of.cells l) (hq : w.cell? ⟨q, 0, none⟩ = some (.string id)) :
    Calls Tryz.prog 25 #[.slice a n c, .func (.func 59) #[] #[.pointer (some ⟨q, 0, none⟩)]] w fun e w' => e = .returned (.int .i64 (idxG (l.map Of.key) id)) ∧ Below w.heap.size w w' := by
  have hql := World.block_lt_of_cell? w _ hq
  have HN := Lib.hid hn
  have HI := Lib.hid hI
  have HQ := Lib.hid hq
  obtain ⟨V, hV⟩ : ∃ V, idxG (l.map Of.key) id = V := ⟨_, rfl⟩
  rw [hV]
  have HV := Lib.hid hV.symm
  clear hn hI hq hV
  go_enter Tryz.func25, Tryz.ntmps25
  go_wp2_with fail
  go_loopw [5, 8] (fun _ i wr => ∃ k : Nat, k ≤ n ∧ i = .int .i64 k ∧ Below w.heap.size w wr ∧ Hid (V = idxGo ((l.map Of.key).drop k) id k)) (fun _ i _ => n - (intOf i).toNat)
  case atStart => exact ⟨0, Nat.zero_le _, rfl, Below.refl _ _, HV⟩
  case round =>
    obtain ⟨k, hk, rfl, hB, hH⟩ := hrel
    by_cases hlt : k < n
    · have hkl : k < l.length := by have := HN.out; omega
      obtain ⟨p, off, rfl, hp, c0, c1, c2, c3, c4, c5, c6, c7, c8, c9, c10, c11⟩ := (HI.out.below hB).at12 hkl (v0 := .string l[k].key) (v1 := .int .i64 l[k].kind) (v2 := .int .i64 l[k].a) (v3 := .int .i64 l[k].b) (v4 := .slice l[k].tv l[k].tags.length l[k].tc) (v5 := .int .i64 l[k].least) (v6 := .int .i64 l[k].most) (v7 := .string l[k].group) (v8 := .bool l[k].alone) (v9 := .int .i64 l[k].order) (v10 := .int .i64 l[k].from_) (v11 := .int .i64 l[k].to_) rfl
      have hq' := (hB.cell (p := ⟨q, 0, none⟩) hql).trans HQ.out
      have C := Lib.hid (ofFault1_any l[k] q id wr hq')
      have HS := Lib.hid (hH.out.trans (idxGo_drop (l.map Of.key) id k (by rw [List.length_map]; exact hkl)))
      rw [List.getElem_map] at HS
      obtain ⟨b, hb⟩ : ∃ b, eqS l[k].key id = b := ⟨_, rfl⟩
      rw [hb] at C HS
      clear hb hq' hH
      generalize l[k] = x at *
      obtain ⟨xkey, xkind, xa, xb, xtv, xtc, xtags, xleast, xmost, xgroup, xalone, xorder, xfrom, xto⟩ := x
      simp only at c0 c1 c2 c3 c4 c5 c6 c7 c8 c9 c10 c11 C
      cases b with
      | true =>
        obtain rfl : V = (k : Int) := HS.out.trans (if_pos rfl)
        go_wp2_with fail
        with_reducible refine C.out.mono ?_
        rintro e w1 ⟨rfl, b1⟩
        have HB1 := Lib.hid (hB.trans (b1.mono hB.size))
        go_wp2_with fail
        go_ret
        exact ⟨rfl, HB1.out⟩
      | false =>
        have HR := Lib.hid (HS.out.trans (if_neg (by decide)))
        go_wp2_with fail
        with_reducible refine C.out.mono ?_
        rintro e w1 ⟨rfl, b1⟩
        have HB1 := Lib.hid (hB.trans (b1.mono hB.size))
        go_wp2_with fail
        go_roundw
        case rel => exact ⟨k + 1, by omega, by go_num, HB1.out, HR⟩
        case measure => simp [intOf]; omega
    · have HE := Lib.hid (show V = -1 by rw [hH.out, List.drop_eq_nil_of_le (by rw [List.length_map, HN.out]; omega)]; rfl)
      have HB := Lib.hid hB
      clear hH hB
      go_wp2_with fail
      go_ret
      exact ⟨ret_int HE.out.symm, HB.out⟩

theorem ofFaultHas_any (a : Option Addr) (l : List Of) (n c q : Nat) (id : ByteArray) (w : World) (hn : l.length = n) (hn1 : n ≤ 1000) (hI : RAt w a 12 Of.cells l) (hq : w.cell? ⟨q, 0, none⟩ = some (.string id)) :
    Calls Tryz.prog 29 #[.slice a n c, .func (.func 59) #[] #[.pointer (some ⟨q, 0, none⟩)]] w
      fun e w' => e = .returned (.bool (hasS (l.map Of.key) id)) ∧ Below w.heap.size w w' := by
  have C := Lib.hid (ofFaultIdx_any a l n c q id w hn hn1 hI hq)
  have HE := Lib.hid (hasS_idx (l.map Of.key) id)
  clear hn hI hq
  generalize hasS (l.map Of.key) id = b at *
  generalize idxG (l.map Of.key) id = r at *
  go_enter Tryz.func29, Tryz.ntmps29
  go_wp2_with fail
  with_reducible refine C.out.mono ?_
  rintro e w1 ⟨rfl, hb⟩
  go_wp2_with fail
  go_ret
  exact ⟨ret_bool HE.out.symm, hb⟩
end Go.Proofs.YtdefjnefkdemiaaGreatDoor
/- What is wrong with tags: offer.checkTags, handref1.tagsFault (printed by gen_tags.py). -/
set_option linter.unusedVariables false
namespace Go.Proofs.YtdefjnefkdemiaaGreatDoor
open Go.RowKit

theorem getS (l : List ByteArray) (i : Nat) (h : i < l.length) : l.getD i ⟨#[]⟩ = l[i] := by
  rw [List.getD_eq_getElem?_getD, List.getElem?_eq_getElem h]; rfl

set_option maxRecDepth 100000 in
set_option maxHeartbeats 4000000 in
theorem checkTags_any (a : Option Addr) (l : List ByteArray) (n c : Nat) (w : World) (hn : l.length = n) (hn1 : n ≤ 50) (hI : StrsAt w a l) (hs : ∀ x ∈ l, x.size ≤ 1000) :
    Calls Tryz.prog 78 #[.slice a n c] w fun e w' => e = .returned (.int .i64 (tgE l)) ∧ Below w.heap.size w w' := by
  obtain ⟨V, hV⟩ : ∃ V, tgE l = V := ⟨_, rfl⟩
  rw [hV]
  have HV := Lib.hid hV.symm
  unfold tgE at HV
  rw [hn] at HV
  have HN := Lib.hid hn
  have HI := Lib.hid hI
  have HS := Lib.hid hs
  clear hV hn hI hs
  by_cases h10 : 10 < n
  · obtain rfl : V = 2 := HV.out.trans (if_pos h10)
    have hd : decide (10 < n) = true := decide_eq_true h10
    go_enter Tryz.func78, Tryz.ntmps78
    go_wp2_with fail
    go_ret
    exact ⟨rfl, Below.refl _ _⟩
  · have HV0 := Lib.hid (show V = tgGo l (n - 0) 0 from HV.out.trans (if_neg h10))
    have hd : decide (10 < n) = false := decide_eq_false h10
    clear HV
    go_enter Tryz.func78, Tryz.ntmps78
    go_wp2_with fail
    go_loopw [3, 4, 10] (fun _ _ i wr => ∃ k : Nat, k ≤ n ∧ i = .int .i64 k ∧ Below w.heap.size w wr ∧ Hid (V = tgGo l (n - k) k)) (fun _ _ i _ => n - (intOf i).toNat)
    case atStart => exact ⟨0, Nat.zero_le _, rfl, Below.refl _ _, HV0⟩
    case round =>
      obtain ⟨k, hk, rfl, hB, hH⟩ := hrel
      by_cases hlt : k < n
      · have hkl : k < l.length := by have := HN.out; omega
        obtain ⟨p, off, rfl, hp, c0⟩ := (HI.out.below hB) k hkl
        have hks := HS.out l[k] (List.getElem_mem hkl)
        have HST := Lib.hid (show V = if tstepE l k = 0 then tgGo l (n - (k + 1)) (k + 1) else tstepE l k by
          have h := tgGo_step l k hkl
          rw [HN.out] at h
          exact hH.out.trans h)
        have HT := Lib.hid (show tstepE l k = tE (keyB (l.getD k ⟨#[]⟩)) (decide (0 < k) && leS (l.getD k ⟨#[]⟩) (l.getD (k - 1) ⟨#[]⟩)) from rfl)
        rw [getS l k hkl] at HT
        have hprev : 0 < k → ∃ y : ByteArray, l.getD (k - 1) ⟨#[]⟩ = y ∧ wr.cell? ⟨p, off + (k - 1), none⟩ = some (.string y) := fun h0 => by
          obtain ⟨p', off', e, -, hc⟩ := (HI.out.below hB) (k - 1) (by omega)
          injection e with e
          injection e with e1 e2
          subst e1 e2
          exact ⟨_, getS l (k - 1) (by omega), hc⟩
        have HPV := Lib.hid hprev
        have C := Lib.hid (fun w => isKey_any l[k] w (by unfold maxLen; omega))
        obtain ⟨b1, hb1⟩ : ∃ b, keyB l[k] = b := ⟨_, rfl⟩
        rw [hb1] at HT C
        generalize l[k] = x at *
        have HB := Lib.hid hB
        clear hb1 hH hprev
        go_wp2_with fail
        with_reducible refine (C.out _).mono ?_
        rintro e w1 ⟨rfl, rfl⟩
        have HB1 := HB
        cases b1 with
        | false =>
          have HR := Lib.hid (HST.out.trans (show _ = (5 : Int) by rw [HT.out]; simp [tE]))
          go_wp2_with fail
          go_ret
          exact ⟨ret_int HR.out.symm, HB1.out⟩
        | true =>
          by_cases hk0 : k = 0
          · subst hk0
            have HR := Lib.hid (HST.out.trans (show _ = tgGo l (n - (0 + 1)) (0 + 1) by rw [HT.out]; simp [tE]))
            clear c0
            go_wp2_with fail
            go_roundw
            case rel => exact ⟨0 + 1, by omega, by go_num, HB1.out, HR⟩
            case measure => simp [intOf]; omega
          · have hk1 : 0 < k := by omega
            obtain ⟨y, hy, cy⟩ := HPV.out hk1
            rw [hy] at HT
            have cy1 := cy
            have hsp : (Op.bytesLess x.toList y.toList || x.toList == y.toList) = leS x y := rfl
            obtain ⟨b2, hb2⟩ : ∃ b, leS x y = b := ⟨_, rfl⟩
            rw [hb2] at HT hsp
            obtain ⟨i, rfl⟩ : ∃ i, k = i + 1 := ⟨k - 1, by omega⟩
            simp only [Nat.add_sub_cancel] at cy1
            clear hb2 hy cy c0 HPV
            cases b2 with
            | true =>
              have HR := Lib.hid (HST.out.trans (show _ = (7 : Int) by rw [HT.out]; simp [tE]))
              go_wp2_with fail
              go_ret
              exact ⟨ret_int HR.out.symm, HB1.out⟩
            | false =>
              have HR := Lib.hid (HST.out.trans (show _ = tgGo l (n - (i + 1 + 1)) (i + 1 + 1) by rw [HT.out]; simp [tE]))
              go_wp2_with fail
              go_roundw
              case rel => exact ⟨i + 1 + 1, by omega, by go_num, HB1.out, HR⟩
              case measure => simp [intOf]; omega
      · have HE := Lib.hid (hH.out.trans (show _ = (0 : Int) by rw [show n - k = 0 by omega]; rfl))
        have HB := Lib.hid hB
        clear hH hB
        go_wp2_with fail
        go_ret
        exact ⟨ret_int HE.out.symm, HB.out⟩

set_option maxRecDepth 100000 in
set_option maxHeartbeats 4000000 in
theorem tagsFault_any (a : Option Addr) (l : List ByteArray) (n c : Nat) (w : World) (hn : l.length = n) (hn1 : n ≤ 50) (hI : StrsAt w a l) (hs : ∀ x ∈ l, x.size ≤ 1000) :
    Calls Tryz.prog 60 #[.slice a n c] w fun e w' => e = .returned (.int .i64 (tgE l)) ∧ Below w.heap.size w w' := by
  obtain ⟨V, hV⟩ : ∃ V, tgE l = V := ⟨_, rfl⟩
  rw [hV]
  have HV := Lib.hid hV.symm
  unfold tgE at HV
  rw [hn] at HV
  have HN := Lib.hid hn
  have HI := Lib.hid hI
  have HS := Lib.hid hs
  clear hV hn hI hs
  by_cases h10 : 10 < n
  · obtain rfl : V = 2 := HV.out.trans (if_pos h10)
    have hd : decide (10 < n) = true := decide_eq_true h10
    go_enter Tryz.func60, Tryz.ntmps60
    go_wp2_with fail
    go_ret
    exact ⟨rfl, Below.refl _ _⟩
  · have HV0 := Lib.hid (show V = tgGo l (n - 0) 0 from HV.out.trans (if_neg h10))
    have hd : decide (10 < n) = false := decide_eq_false h10
    clear HV
    go_enter Tryz.func60, Tryz.ntmps60
    go_wp2_with fail
    go_loopw [3, 4, 10] (fun _ _ i wr => ∃ k : Nat, k ≤ n ∧ i = .int .i64 k ∧ Below w.heap.size w wr ∧ Hid (V = tgGo l (n - k) k)) (fun _ _ i _ => n - (intOf i).toNat)
    case atStart => exact ⟨0, Nat.zero_le _, rfl, Below.refl _ _, HV0⟩
    case round =>
      obtain ⟨k, hk, rfl, hB, hH⟩ := hrel
      by_cases hlt : k < n
      · have hkl : k < l.length := by have := HN.out; omega
        obtain ⟨p, off, rfl, hp, c0⟩ := (HI.out.below hB) k hkl
        have hks := HS.out l[k] (List.getElem_mem hkl)
        have HST := Lib.hid (show V = if tstepE l k = 0 then tgGo l (n - (k + 1)) (k + 1) else tstepE l k by
          have h := tgGo_step l k hkl
          rw [HN.out] at h
          exact hH.out.trans h)
        have HT := Lib.hid (show tstepE l k = tE (keyB (l.getD k ⟨#[]⟩)) (decide (0 < k) && leS (l.getD k ⟨#[]⟩) (l.getD (k - 1) ⟨#[]⟩)) from rfl)
        rw [getS l k hkl] at HT
        have hprev : 0 < k → ∃ y : ByteArray, l.getD (k - 1) ⟨#[]⟩ = y ∧ wr.cell? ⟨p, off + (k - 1), none⟩ = some (.string y) := fun h0 => by
          obtain ⟨p', off', e, -, hc⟩ := (HI.out.below hB) (k - 1) (by omega)
          injection e with e
          injection e with e1 e2
          subst e1 e2
          exact ⟨_, getS l (k - 1) (by omega), hc⟩
        have HPV := Lib.hid hprev
        have C := Lib.hid (fun w => keyOf_any l[k] w (by unfold maxLen; omega))
        obtain ⟨b1, hb1⟩ : ∃ b, keyB l[k] = b := ⟨_, rfl⟩
        rw [hb1] at HT C
        generalize l[k] = x at *
        have HB := Lib.hid hB
        clear hb1 hH hprev
        go_wp2_with fail
        with_reducible refine (C.out _).mono ?_
        rintro e w1 ⟨rfl, d1⟩
        have hpd := d1.cell (p := ⟨p, off + (k - 1), none⟩) hp
        have HB1 := Lib.hid (HB.out.trans (d1.mono HB.out.size))
        have hp1 : p < w1.heap.size := Nat.lt_of_lt_of_le hp d1.size
        clear d1
        cases b1 with
        | false =>
          have HR := Lib.hid (HST.out.trans (show _ = (5 : Int) by rw [HT.out]; simp [tE]))
          go_wp2_with fail
          go_ret
          exact ⟨ret_int HR.out.symm, HB1.out⟩
        | true =>
          by_cases hk0 : k = 0
          · subst hk0
            have HR := Lib.hid (HST.out.trans (show _ = tgGo l (n - (0 + 1)) (0 + 1) by rw [HT.out]; simp [tE]))
            clear c0
            go_wp2_with fail
            go_roundw
            case rel => exact ⟨0 + 1, by omega, by go_num, HB1.out, HR⟩
            case measure => simp [intOf]; omega
          · have hk1 : 0 < k := by omega
            obtain ⟨y, hy, cy⟩ := HPV.out hk1
            rw [hy] at HT
            have cy1 := hpd.trans cy
            have hsp : (Op.bytesLess x.toList y.toList || x.toList == y.toList) = leS x y := rfl
            obtain ⟨b2, hb2⟩ : ∃ b, leS x y = b := ⟨_, rfl⟩
            rw [hb2] at HT hsp
            obtain ⟨i, rfl⟩ : ∃ i, k = i + 1 := ⟨k - 1, by omega⟩
            simp only [Nat.add_sub_cancel] at cy1
            clear hb2 hy cy c0 HPV
            cases b2 with
            | true =>
              have HR := Lib.hid (HST.out.trans (show _ = (7 : Int) by rw [HT.out]; simp [tE]))
              go_wp2_with fail
              go_ret
              exact ⟨ret_int HR.out.symm, HB1.out⟩
            | false =>
              have HR := Lib.hid (HST.out.trans (show _ = tgGo l (n - (i + 1 + 1)) (i + 1 + 1) by rw [HT.out]; simp [tE]))
              go_wp2_with fail
              go_roundw
              case rel => exact ⟨i + 1 + 1, by omega, by go_num, HB1.out, HR⟩
              case measure => simp [intOf]; omega
      · have HE := Lib.hid (hH.out.trans (show _ = (0 : Int) by rw [show n - k = 0 by omega]; rfl))
        have HB := Lib.hid hB
        clear hH hB
        go_wp2_with fail
        go_ret
        exact ⟨ret_int HE.out.symm, HB.out⟩
end Go.Proofs.YtdefjnefkdemiaaGreatDoor
/- The contract of the statements' own look at package offer: Seal "123" is "123C". -/
set_option linter.unusedVariables false
namespace Go.Proofs.YtdefjnefkdemiaaGreatDoor
open Go.RowKit

/-- where a byte stands among the signs -/
theorem sign_at (c : UInt8) (n : Int) (w : World) (h : Lib.indexByte [48, 49, 50, 51, 52, 53, 54, 55, 56, 57, 65, 66, 67, 68, 69, 70, 71, 72, 74, 75, 77, 78, 80, 81, 82, 84, 85, 86, 87, 88, 89] c = n) :
    Calls Tryz.prog 103 #[.string ⟨#[48, 49, 50, 51, 52, 53, 54, 55, 56, 57, 65, 66, 67, 68, 69, 70, 71, 72, 74, 75, 77, 78, 80, 81, 82, 84, 85, 86, 87, 88, 89]⟩, .int .u8 (c.toNat : Int)] w fun e w' => e = .returned (.int .i64 n) ∧ w = w' := by
  refine (Tryz.strings_IndexByte _ _ w).mono ?_
  rintro e w' ⟨rfl, rfl⟩
  refine ⟨?_, rfl⟩
  rw [← h]
  simp

set_option maxRecDepth 100000 in
theorem areSigns_123 (w : World) : Calls Tryz.prog 71 #[.string ⟨#[49, 50, 51]⟩] w fun e w' => e = .returned (.bool true) ∧ w = w' := by
  go_enter Tryz.func71, Tryz.ntmps71
  go_wp2_with fail
  go_loop [6] (fun i => ∃ k : Nat, k ≤ 3 ∧ i = .int .i64 k) (fun i => 3 - (intOf i).toNat)
  case atStart => exact ⟨0, by omega, rfl⟩
  case round =>
    obtain ⟨k, hk, rfl⟩ := hrel
    rcases (show k = 0 ∨ k = 1 ∨ k = 2 ∨ k = 3 by omega) with rfl | rfl | rfl | rfl
    · go_wp2_with fail
      with_reducible refine (sign_at _ 1 _ (by decide)).mono ?_
      rintro e w' ⟨rfl, rfl⟩
      go_wp2
      go_round
      case rel => exact ⟨1, by omega, rfl⟩
      case measure => simp [intOf]
    · go_wp2_with fail
      with_reducible refine (sign_at _ 2 _ (by decide)).mono ?_
      rintro e w' ⟨rfl, rfl⟩
      go_wp2
      go_round
      case rel => exact ⟨2, by omega, rfl⟩
      case measure => simp [intOf]
    · go_wp2_with fail
      with_reducible refine (sign_at _ 3 _ (by decide)).mono ?_
      rintro e w' ⟨rfl, rfl⟩
      go_wp2
      go_round
      case rel => exact ⟨3, by omega, rfl⟩
      case measure => simp [intOf]
    · go_wp2
      go_ret
      exact ⟨rfl, rfl⟩

set_option maxRecDepth 100000 in
theorem sum_123 (c : UInt8) (n : Nat) (w : World) (hn : n ≤ 30) (h : Lib.indexByte [48, 49, 50, 51, 52, 53, 54, 55, 56, 57, 65, 66, 67, 68, 69, 70, 71, 72, 74, 75, 77, 78, 80, 81, 82, 84, 85, 86, 87, 88, 89] c = (n : Int)) :
    Calls Tryz.prog 104 #[.string ⟨#[49, 50, 51, c]⟩] w fun e w' => e = .returned (.int .i64 ((14 + 4 * (n : Int)).tmod 31)) ∧ w = w' := by
  have H := Lib.hid h
  clear h
  go_enter Tryz.func104, Tryz.ntmps104
  go_wp2_with fail
  go_loop [3, 7] (fun s i => ∃ k : Nat, k ≤ 4 ∧ i = .int .i64 k ∧ s = .int .i64 (if k = 0 then 0 else if k = 1 then 1 else if k = 2 then 5 else if k = 3 then 14 else 14 + 4 * (n : Int))) (fun _ i => 4 - (intOf i).toNat)
  case atStart => exact ⟨0, by omega, rfl, rfl⟩
  case round =>
    obtain ⟨k, hk, rfl, rfl⟩ := hrel
    rcases (show k = 0 ∨ k = 1 ∨ k = 2 ∨ k = 3 ∨ k = 4 by omega) with rfl | rfl | rfl | rfl | rfl
    · go_wp2_with fail
      with_reducible refine (sign_at _ 1 _ ?hx).mono ?_
      case hx => exact (show Lib.indexByte _ (49 : UInt8) = 1 by decide)
      rintro e w' ⟨rfl, rfl⟩
      go_wp2
      go_round
      case rel => exact ⟨1, by omega, rfl, rfl⟩
      case measure => simp [intOf]
    · go_wp2_with fail
      with_reducible refine (sign_at _ 2 _ ?hx).mono ?_
      case hx => exact (show Lib.indexByte _ (50 : UInt8) = 2 by decide)
      rintro e w' ⟨rfl, rfl⟩
      go_wp2
      go_round
      case rel => exact ⟨2, by omega, rfl, rfl⟩
      case measure => simp [intOf]
    · go_wp2_with fail
      with_reducible refine (sign_at _ 3 _ ?hx).mono ?_
      case hx => exact (show Lib.indexByte _ (51 : UInt8) = 3 by decide)
      rintro e w' ⟨rfl, rfl⟩
      go_wp2
      go_round
      case rel => exact ⟨3, by omega, rfl, rfl⟩
      case measure => simp [intOf]
    · go_wp2_with fail
      with_reducible refine (sign_at _ n _ ?hx).mono ?_
      case hx => exact (show Lib.indexByte _ c = (n : Int) from H.out)
      rintro e w' ⟨rfl, rfl⟩
      go_wp2
      go_round
      case rel => exact ⟨4, by omega, rfl, by simp⟩
      case measure => simp [intOf]
    · simp only [show (4 : Nat) ≠ 0 by decide, show (4 : Nat) ≠ 1 by decide, show (4 : Nat) ≠ 2 by decide, show (4 : Nat) ≠ 3 by decide, if_false]
      go_wp2
      go_ret
      exact ⟨by simp [Int.tmod_eq_emod_of_nonneg (show 0 ≤ 14 + 4 * (n : Int) by omega)], rfl⟩

/-- the strings that seal looks at -/
theorem sealed_at (k : Nat) (c : UInt8) (s : ByteArray) (h : s = ⟨#[49, 50, 51, c]⟩) (n : Nat) (w : World) (hn : n ≤ 30) (hx : Lib.indexByte [48, 49, 50, 51, 52, 53, 54, 55, 56, 57, 65, 66, 67, 68, 69, 70, 71, 72, 74, 75, 77, 78, 80, 81, 82, 84, 85, 86, 87, 88, 89] c = (n : Int)) :
    Calls Tryz.prog 104 #[.string s] w fun e w' => e = .returned (.int .i64 ((14 + 4 * (n : Int)).tmod 31)) ∧ w = w' := by
  subst h
  exact sum_123 c n w hn hx

set_option maxRecDepth 100000 in
set_option maxHeartbeats 4000000 in
theorem seal_123 (w : World) : Calls Tryz.prog 72 #[.string ⟨#[49, 50, 51]⟩] w fun e w' => e = .returned (.string ⟨#[49, 50, 51, 67]⟩) ∧ w = w' := by
  go_enter Tryz.func72, Tryz.ntmps72
  go_wp2_with fail
  go_loop [5] (fun i => ∃ k : Nat, k ≤ 12 ∧ i = .int .i64 k) (fun i => 13 - (intOf i).toNat)
  case atStart => exact ⟨0, by omega, rfl⟩
  case round =>
    obtain ⟨k, hk, rfl⟩ := hrel
    rcases (show k = 0 ∨ k = 1 ∨ k = 2 ∨ k = 3 ∨ k = 4 ∨ k = 5 ∨ k = 6 ∨ k = 7 ∨ k = 8 ∨ k = 9 ∨ k = 10 ∨ k = 11 ∨ k = 12 by omega) with rfl | rfl | rfl | rfl | rfl | rfl | rfl | rfl | rfl | rfl | rfl | rfl | rfl
    · go_wp2_with fail
      with_reducible refine (sealed_at 0 48 _ ?h1 0 _ (by omega) ?h2).mono ?_
      case h1 => decide
      case h2 => decide
      rintro e w' ⟨rfl, rfl⟩
      go_wp2
      go_round
      case rel => exact ⟨1, by omega, rfl⟩
      case measure => simp [intOf]
    · go_wp2_with fail
      with_reducible refine (sealed_at 1 49 _ ?h1 1 _ (by omega) ?h2).mono ?_
      case h1 => decide
      case h2 => decide
      rintro e w' ⟨rfl, rfl⟩
      go_wp2
      go_round
      case rel => exact ⟨2, by omega, rfl⟩
      case measure => simp [intOf]
    · go_wp2_with fail
      with_reducible refine (sealed_at 2 50 _ ?h1 2 _ (by omega) ?h2).mono ?_
      case h1 => decide
      case h2 => decide
      rintro e w' ⟨rfl, rfl⟩
      go_wp2
      go_round
      case rel => exact ⟨3, by omega, rfl⟩
      case measure => simp [intOf]
    · go_wp2_with fail
      with_reducible refine (sealed_at 3 51 _ ?h1 3 _ (by omega) ?h2).mono ?_
      case h1 => decide
      case h2 => decide
      rintro e w' ⟨rfl, rfl⟩
      go_wp2
      go_round
      case rel => exact ⟨4, by omega, rfl⟩
      case measure => simp [intOf]
    · go_wp2_with fail
      with_reducible refine (sealed_at 4 52 _ ?h1 4 _ (by omega) ?h2).mono ?_
      case h1 => decide
      case h2 => decide
      rintro e w' ⟨rfl, rfl⟩
      go_wp2
      go_round
      case rel => exact ⟨5, by omega, rfl⟩
      case measure => simp [intOf]
    · go_wp2_with fail
      with_reducible refine (sealed_at 5 53 _ ?h1 5 _ (by omega) ?h2).mono ?_
      case h1 => decide
      case h2 => decide
      rintro e w' ⟨rfl, rfl⟩
      go_wp2
      go_round
      case rel => exact ⟨6, by omega, rfl⟩
      case measure => simp [intOf]
    · go_wp2_with fail
      with_reducible refine (sealed_at 6 54 _ ?h1 6 _ (by omega) ?h2).mono ?_
      case h1 => decide
      case h2 => decide
      rintro e w' ⟨rfl, rfl⟩
      go_wp2
      go_round
      case rel => exact ⟨7, by omega, rfl⟩
      case measure => simp [intOf]
    · go_wp2_with fail
      with_reducible refine (sealed_at 7 55 _ ?h1 7 _ (by omega) ?h2).mono ?_
      case h1 => decide
      case h2 => decide
      rintro e w' ⟨rfl, rfl⟩
      go_wp2
      go_round
      case rel => exact ⟨8, by omega, rfl⟩
      case measure => simp [intOf]
    · go_wp2_with fail
      with_reducible refine (sealed_at 8 56 _ ?h1 8 _ (by omega) ?h2).mono ?_
      case h1 => decide
      case h2 => decide
      rintro e w' ⟨rfl, rfl⟩
      go_wp2
      go_round
      case rel => exact ⟨9, by omega, rfl⟩
      case measure => simp [intOf]
    · go_wp2_with fail
      with_reducible refine (sealed_at 9 57 _ ?h1 9 _ (by omega) ?h2).mono ?_
      case h1 => decide
      case h2 => decide
      rintro e w' ⟨rfl, rfl⟩
      go_wp2
      go_round
      case rel => exact ⟨10, by omega, rfl⟩
      case measure => simp [intOf]
    · go_wp2_with fail
      with_reducible refine (sealed_at 10 65 _ ?h1 10 _ (by omega) ?h2).mono ?_
      case h1 => decide
      case h2 => decide
      rintro e w' ⟨rfl, rfl⟩
      go_wp2
      go_round
      case rel => exact ⟨11, by omega, rfl⟩
      case measure => simp [intOf]
    · go_wp2_with fail
      with_reducible refine (sealed_at 11 66 _ ?h1 11 _ (by omega) ?h2).mono ?_
      case h1 => decide
      case h2 => decide
      rintro e w' ⟨rfl, rfl⟩
      go_wp2
      go_round
      case rel => exact ⟨12, by omega, rfl⟩
      case measure => simp [intOf]
    · go_wp2_with fail
      with_reducible refine (sealed_at 12 67 _ ?h1 12 _ (by omega) ?h2).mono ?_
      case h1 => decide
      case h2 => decide
      rintro e w' ⟨rfl, rfl⟩
      go_wp2
      go_ret
      exact ⟨congrArg (fun s => Ending.returned (Value.string s)) (show (⟨#[49, 50, 51]⟩ : ByteArray) ++ (⟨#[48, 49, 50, 51, 52, 53, 54, 55, 56, 57, 65, 66, 67, 68, 69, 70, 71, 72, 74, 75, 77, 78, 80, 81, 82, 84, 85, 86, 87, 88, 89]⟩ : ByteArray).extract 12 13 = ⟨#[49, 50, 51, 67]⟩ by decide), rfl⟩

theorem owithin_yes (n lo hi : Int) (w : World) (h1 : lo ≤ n) (h2 : n ≤ hi) :
    Calls Tryz.prog 70 #[.int .i64 n, .int .i64 lo, .int .i64 hi] w fun e w' => e = .returned (.bool true) ∧ w = w' := by
  go_enter Tryz.func70, Tryz.ntmps70
  go_wp2
  go_ret
  exact ⟨rfl, rfl⟩
theorem owithin_no (n lo hi : Int) (w : World) (h : n < lo ∨ hi < n) :
    Calls Tryz.prog 70 #[.int .i64 n, .int .i64 lo, .int .i64 hi] w fun e w' => e = .returned (.bool false) ∧ w = w' := by
  by_cases h1 : n < lo
  · have h1' : ¬ lo ≤ n := by omega
    go_enter Tryz.func70, Tryz.ntmps70
    go_wp2
    go_ret
    exact ⟨rfl, rfl⟩
  · have h1' : lo ≤ n := by omega
    have h2 : ¬ n ≤ hi := by omega
    go_enter Tryz.func70, Tryz.ntmps70
    go_wp2
    go_ret
    exact ⟨rfl, rfl⟩
theorem Seal_123 (w : World) : Calls Tryz.prog 45 #[.string ⟨#[49, 50, 51]⟩] w fun e w' => e = .returned (.tuple #[.string ⟨#[49, 50, 51, 67]⟩, .int .i64 0]) ∧ w = w' := by
  go_enter Tryz.func45, Tryz.ntmps45
  go_wp2_with fail
  with_reducible refine (owithin_yes _ _ _ _ ?h1 ?h2).mono ?_
  case h1 => decide
  case h2 => decide
  rintro e w' ⟨rfl, rfl⟩
  go_wp2_with fail
  with_reducible refine (areSigns_123 _).mono ?_
  rintro e w' ⟨rfl, rfl⟩
  go_wp2_with fail
  with_reducible refine (seal_123 _).mono ?_
  rintro e w' ⟨rfl, rfl⟩
  go_wp2
  go_ret2
  exact ⟨rfl, rfl⟩
theorem offers_any (w : World) : Calls Tryz.prog 15 #[] w fun e w' => e = .returned (.bool true) ∧ w = w' := by
  go_enter Tryz.func15, Tryz.ntmps15
  go_wp2_with fail
  with_reducible refine (Seal_123 _).mono ?_
  rintro e w' ⟨rfl, rfl⟩
  go_wp2
  go_ret
  exact ⟨rfl, rfl⟩
end Go.Proofs.YtdefjnefkdemiaaGreatDoor
/- slices.IndexFunc and ContainsFunc over Item, by their field key (printed by gen_idx.py). -/
set_option linter.unusedVariables false
namespace Go.Proofs.YtdefjnefkdemiaaGreatDoor
open Go.RowKit

theorem chkIt1_any (x : It) (q : Nat) (id : ByteArray) (w : World) (hq : w.cell? ⟨q, 0, none⟩ = some (.string id)) :
    Calls Tryz.prog 79 #[.agg #[.string x.key, .int .i64 x.cents, .int .i64 x.many, .slice x.tv x.tags.length x.tc], .pointer (some ⟨q, 0, none⟩)] w
      fun e w' => e = .returned (.bool (eqS x.key id)) ∧ Below w.heap.size w w' := by
  have hql := World.block_lt_of_cell? w _ hq
  go_enter Tryz.func79, Tryz.ntmps79
  go_wp2_with fail
  go_ret
  refine ⟨ret_bool ?_, (Below.refl _ _).alloc (Nat.le_refl _) _⟩
  rw [Bool.eq_iff_iff, eqS, decide_eq_true_eq]
  simp [Lib.toList_data]

set_option maxRecDepth 100000 in
set_option maxHeartbeats 4000000 in
theorem chkItIdx_any (a : Option Addr) (l : List It) (n c q : Nat) (id : ByteArray) (w : World) (hn : l.length = n) (hn1 : n ≤ 1000) (hI : RAt w a 4 It.cells l) (hq : w.cell? ⟨q, 0, none⟩ = some (.string id)) :
    Calls Tryz.prog 87 #[.slice a n c, .func (.func 79) #[] #[.pointer (some ⟨q, 0, none⟩)]] w fun e w' => e = .returned (.int .i64 (idxG (l.map It.key) id)) ∧ Below w.heap.size w w' := by
  have hql := World.block_lt_of_cell? w _ hq
  have HN := Lib.hid hn
  have HI := Lib.hid hI
  have HQ := Lib.hid hq
  obtain ⟨V, hV⟩ : ∃ V, idxG (l.map It.key) id = V := ⟨_, rfl⟩
  rw [hV]
  have HV := Lib.hid hV.symm
  clear hn hI hq hV
  go_enter Tryz.func87, Tryz.ntmps87
  go_wp2_with fail
  go_loopw [5, 8] (fun _ i wr => ∃ k : Nat, k ≤ n ∧ i = .int .i64 k ∧ Below w.heap.size w wr ∧ Hid (V = idxGo ((l.map It.key).drop k) id k)) (fun _ i _ => n - (intOf i).toNat)
  case atStart => exact ⟨0, Nat.zero_le _, rfl, Below.refl _ _, HV⟩
  case round =>
    obtain ⟨k, hk, rfl, hB, hH⟩ := hrel
    by_cases hlt : k < n
    · have hkl : k < l.length := by have := HN.out; omega
      obtain ⟨p, off, rfl, hp, c0, c1, c2, c3⟩ := (HI.out.below hB).at4 hkl (v0 := .string l[k].key) (v1 := .int .i64 l[k].cents) (v2 := .int .i64 l[k].many) (v3 := .slice l[k].tv l[k].tags.length l[k].tc) rfl
      have hq' := (hB.cell (p := ⟨q, 0, none⟩) hql).trans HQ.out
      have C := Lib.hid (chkIt1_any l[k] q id wr hq')
      have HS := Lib.hid (hH.out.trans (idxGo_drop (l.map It.key) id k (by rw [List.length_map]; exact hkl)))
      rw [List.getElem_map] at HS
      obtain ⟨b, hb⟩ : ∃ b, eqS l[k].key id = b := ⟨_, rfl⟩
      rw [hb] at C HS
      clear hb hq' hH
      generalize l[k] = x at *
      obtain ⟨xkey, xcents, xmany, xtv, xtc, xtags⟩ := x
      simp only at c0 c1 c2 c3 C
      cases b with
      | true =>
        obtain rfl : V = (k : Int) := HS.out.trans (if_pos rfl)
        go_wp2_with fail
        with_reducible refine C.out.mono ?_
        rintro e w1 ⟨rfl, b1⟩
        have HB1 := Lib.hid (hB.trans (b1.mono hB.size))
        go_wp2_with fail
        go_ret
        exact ⟨rfl, HB1.out⟩
      | false =>
        have HR := Lib.hid (HS.out.trans (if_neg (by decide)))
        go_wp2_with fail
        with_reducible refine C.out.mono ?_
        rintro e w1 ⟨rfl, b1⟩
        have HB1 := Lib.hid (hB.trans (b1.mono hB.size))
        go_wp2_with fail
        go_roundw
        case rel => exact ⟨k + 1, by omega, by go_num, HB1.out, HR⟩
        case measure => simp [intOf]; omega
    · have HE := Lib.hid (show V = -1 by rw [hH.out, List.drop_eq_nil_of_le (by rw [List.length_map, HN.out]; omega)]; rfl)
      have HB := Lib.hid hB
      clear hH hB
      go_wp2_with fail
      go_ret
      exact ⟨ret_int HE.out.symm, HB.out⟩

theorem chkItHas_any (a : Option Addr) (l : List It) (n c q : Nat) (id : ByteArray) (w : World) (hn : l.length = n) (hn1 : n ≤ 1000) (hI : RAt w a 4 It.cells l) (hq : w.cell? ⟨q, 0, none⟩ = some (.string id)) :
    Calls Tryz.prog 61 #[.slice a n c, .func (.func 79) #[] #[.pointer (some ⟨q, 0, none⟩)]] w
      fun e w' => e = .returned (.bool (hasS (l.map It.key) id)) ∧ Below w.heap.size w w' := by
  have C := Lib.hid (chkItIdx_any a l n c q id w hn hn1 hI hq)
  have HE := Lib.hid (hasS_idx (l.map It.key) id)
  clear hn hI hq
  generalize hasS (l.map It.key) id = b at *
  generalize idxG (l.map It.key) id = r at *
  go_enter Tryz.func61, Tryz.ntmps61
  go_wp2_with fail
  with_reducible refine C.out.mono ?_
  rintro e w1 ⟨rfl, hb⟩
  go_wp2_with fail
  go_ret
  exact ⟨ret_bool HE.out.symm, hb⟩
theorem itFault1_any (x : It) (q : Nat) (id : ByteArray) (w : World) (hq : w.cell? ⟨q, 0, none⟩ = some (.string id)) :
    Calls Tryz.prog 62 #[.agg #[.string x.key, .int .i64 x.cents, .int .i64 x.many, .slice x.tv x.tags.length x.tc], .pointer (some ⟨q, 0, none⟩)] w
      fun e w' => e = .returned (.bool (eqS x.key id)) ∧ Below w.heap.size w w' := by
  have hql := World.block_lt_of_cell? w _ hq
  go_enter Tryz.func62, Tryz.ntmps62
  go_wp2_with fail
  go_ret
  refine ⟨ret_bool ?_, (Below.refl _ _).alloc (Nat.le_refl _) _⟩
  rw [Bool.eq_iff_iff, eqS, decide_eq_true_eq]
  simp [Lib.toList_data]

set_option maxRecDepth 100000 in
set_option maxHeartbeats 4000000 in
theorem itFaultIdx_any (a : Option Addr) (l : List It) (n c q : Nat) (id : ByteArray) (w : World) (hn : l.length = n) (hn1 : n ≤ 1000) (hI : RAt w a 4 It.cells l) (hq : w.cell? ⟨q, 0, none⟩ = some (.string id)) :
    Calls Tryz.prog 87 #[.slice a n c, .func (.func 62) #[] #[.pointer (some ⟨q, 0, none⟩)]] w fun e w' => e = .returned (.int .i64 (idxG (l.map It.key) id)) ∧ Below w.heap.size w w' := by
  have hql := World.block_lt_of_cell? w _ hq
  have HN := Lib.hid hn
  have HI := Lib.hid hI
  have HQ := Lib.hid hq
  obtain ⟨V, hV⟩ : ∃ V, idxG (l.map It.key) id = V := ⟨_, rfl⟩
  rw [hV]
  have HV := Lib.hid hV.symm
  clear hn hI hq hV
  go_enter Tryz.func87, Tryz.ntmps87
  go_wp2_with fail
  go_loopw [5, 8] (fun _ i wr => ∃ k : Nat, k ≤ n ∧ i = .int .i64 k ∧ Below w.heap.size w wr ∧ Hid (V = idxGo ((l.map It.key).drop k) id k)) (fun _ i _ => n - (intOf i).toNat)
  case atStart => exact ⟨0, Nat.zero_le _, rfl, Below.refl _ _, HV⟩
  case round =>
    obtain ⟨k, hk, rfl, hB, hH⟩ := hrel
    by_cases hlt : k < n
    · have hkl : k < l.length := by have := HN.out; omega
      obtain ⟨p, off, rfl, hp, c0, c1, c2, c3⟩ := (HI.out.below hB).at4 hkl (v0 := .string l[k].key) (v1 := .int .i64 l[k].cents) (v2 := .int .i64 l[k].many) (v3 := .slice l[k].tv l[k].tags.length l[k].tc) rfl
      have hq' := (hB.cell (p := ⟨q, 0, none⟩) hql).trans HQ.out
      have C := Lib.hid (itFault1_any l[k] q id wr hq')
      have HS := Lib.hid (hH.out.trans (idxGo_drop (l.map It.key) id k (by rw [List.length_map]; exact hkl)))
      rw [List.getElem_map] at HS
      obtain ⟨b, hb⟩ : ∃ b, eqS l[k].key id = b := ⟨_, rfl⟩
      rw [hb] at C HS
      clear hb hq' hH
      generalize l[k] = x at *
      obtain ⟨xkey, xcents, xmany, xtv, xtc, xtags⟩ := x
      simp only at c0 c1 c2 c3 C
      cases b with
      | true =>
        obtain rfl : V = (k : Int) := HS.out.trans (if_pos rfl)
        go_wp2_with fail
        with_reducible refine C.out.mono ?_
        rintro e w1 ⟨rfl, b1⟩
        have HB1 := Lib.hid (hB.trans (b1.mono hB.size))
        go_wp2_with fail
        go_ret
        exact ⟨rfl, HB1.out⟩
      | false =>
        have HR := Lib.hid (HS.out.trans (if_neg (by decide)))
        go_wp2_with fail
        with_reducible refine C.out.mono ?_
        rintro e w1 ⟨rfl, b1⟩
        have HB1 := Lib.hid (hB.trans (b1.mono hB.size))
        go_wp2_with fail
        go_roundw
        case rel => exact ⟨k + 1, by omega, by go_num, HB1.out, HR⟩
        case measure => simp [intOf]; omega
    · have HE := Lib.hid (show V = -1 by rw [hH.out, List.drop_eq_nil_of_le (by rw [List.length_map, HN.out]; omega)]; rfl)
      have HB := Lib.hid hB
      clear hH hB
      go_wp2_with fail
      go_ret
      exact ⟨ret_int HE.out.symm, HB.out⟩

theorem itFaultHas_any (a : Option Addr) (l : List It) (n c q : Nat) (id : ByteArray) (w : World) (hn : l.length = n) (hn1 : n ≤ 1000) (hI : RAt w a 4 It.cells l) (hq : w.cell? ⟨q, 0, none⟩ = some (.string id)) :
    Calls Tryz.prog 61 #[.slice a n c, .func (.func 62) #[] #[.pointer (some ⟨q, 0, none⟩)]] w
      fun e w' => e = .returned (.bool (hasS (l.map It.key) id)) ∧ Below w.heap.size w w' := by
  have C := Lib.hid (itFaultIdx_any a l n c q id w hn hn1 hI hq)
  have HE := Lib.hid (hasS_idx (l.map It.key) id)
  clear hn hI hq
  generalize hasS (l.map It.key) id = b at *
  generalize idxG (l.map It.key) id = r at *
  go_enter Tryz.func61, Tryz.ntmps61
  go_wp2_with fail
  with_reducible refine C.out.mono ?_
  rintro e w1 ⟨rfl, hb⟩
  go_wp2_with fail
  go_ret
  exact ⟨ret_bool HE.out.symm, hb⟩
end Go.Proofs.YtdefjnefkdemiaaGreatDoor
