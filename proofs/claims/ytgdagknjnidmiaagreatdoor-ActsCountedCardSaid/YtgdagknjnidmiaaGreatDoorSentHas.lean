/- slices.ContainsFunc over letters that were sent, by their ids. -/
import Derived.Test.YtgdagknjnidmiaaGreatDoorM1
set_option linter.unusedVariables false
namespace Go.Proofs.YtgdagknjnidmiaaGreatDoor
open Go.RowKit

theorem sentFault1_any (x : Snt) (q : Nat) (id : ByteArray) (w : World) (hq : w.cell? ⟨q, 0, none⟩ = some (.string id)) :
    Calls Tryz.prog 67 #[.agg #[.string x.id, .string x.person, .string x.letter, .int .i64 x.at_], .pointer (some ⟨q, 0, none⟩)] w
      fun e w' => e = .returned (.bool (decide (x.id.data.toList = id.data.toList))) ∧ Below w.heap.size w w' := by
  have hql := World.block_lt_of_cell? w _ hq
  go_enter Tryz.func67, Tryz.ntmps67
  go_wp2_with fail
  go_ret
  refine ⟨ret_bool ?_, (Below.refl _ _).alloc (Nat.le_refl _) _⟩
  rw [Bool.eq_iff_iff]
  simp [Lib.toList_data]

set_option maxRecDepth 100000 in
set_option maxHeartbeats 4000000 in
theorem sentIdx_any (a : Option Addr) (l : List Snt) (n c q : Nat) (id : ByteArray) (w : World) (hn : l.length = n) (hn1 : n ≤ 1000) (hI : RAt w a 4 Snt.cells l) (hq : w.cell? ⟨q, 0, none⟩ = some (.string id)) :
    Calls Tryz.prog 35 #[.slice a n c, .func (.func 67) #[] #[.pointer (some ⟨q, 0, none⟩)]] w (IdxOut w (hasS (idsOf l l.length) id)) := by
  have hql := World.block_lt_of_cell? w _ hq
  have HN := Lib.hid hn
  have HI := Lib.hid hI
  have HQ := Lib.hid hq
  clear hn hI hq
  go_enter Tryz.func35, Tryz.ntmps35
  go_wp2_with fail
  go_loopw [5, 8] (fun _ i wr => ∃ k : Nat, k ≤ n ∧ i = .int .i64 k ∧ Below w.heap.size w wr ∧ Hid (hasS (idsOf l k) id = false)) (fun _ i _ => n - (intOf i).toNat)
  case atStart => exact ⟨0, Nat.zero_le _, rfl, Below.refl _ _, Lib.hid rfl⟩
  case round =>
    obtain ⟨k, hk, rfl, hB, hH⟩ := hrel
    by_cases hlt : k < n
    · have hkl : k < l.length := by have := HN.out; omega
      obtain ⟨p, off, rfl, hp, c0, c1, c2, c3⟩ := (HI.out.below hB).at4 hkl (v0 := .string l[k].id) (v1 := .string l[k].person) (v2 := .string l[k].letter) (v3 := .int .i64 l[k].at_) rfl
      have hq' := (hB.cell (p := ⟨q, 0, none⟩) hql).trans HQ.out
      have C := Lib.hid (sentFault1_any l[k] q id wr hq')
      have HH := Lib.hid (hasS_hit (l := idsOf l l.length) (s := id) (x := l[k].id) (by unfold idsOf; rw [List.take_length]; exact List.mem_map_of_mem (List.getElem_mem hkl)))
      have HS := Lib.hid (show hasS (idsOf l (k + 1)) id = (hasS (idsOf l k) id || decide (l[k].id.data.toList = id.data.toList)) by rw [idsOf_succ l k hkl, hasS_snoc])
      obtain ⟨b, hb⟩ : ∃ b, decide (l[k].id.data.toList = id.data.toList) = b := ⟨_, rfl⟩
      rw [hb] at C HS
      have HBb := Lib.hid hb
      clear hb hq'
      generalize l[k] = x at *
      obtain ⟨xid, xp, xl, xa⟩ := x
      simp only at c0 c1 c2 c3 C
      cases b with
      | true =>
        have HR := Lib.hid (HH.out (of_decide_eq_true HBb.out))
        go_wp2_with fail
        with_reducible refine C.out.mono ?_
        rintro e w1 ⟨rfl, b1⟩
        have HB1 := Lib.hid (hB.trans (b1.mono hB.size))
        go_wp2_with fail
        go_ret
        exact ⟨k, rfl, by rw [HR.out]; simp, HB1.out⟩
      | false =>
        have HR := Lib.hid (HS.out.trans (by rw [hH.out]))
        go_wp2_with fail
        with_reducible refine C.out.mono ?_
        rintro e w1 ⟨rfl, b1⟩
        have HB1 := Lib.hid (hB.trans (b1.mono hB.size))
        go_wp2_with fail
        go_roundw
        case rel => exact ⟨k + 1, by omega, by go_num, HB1.out, HR⟩
        case measure => simp [intOf]; omega
    · go_wp2_with fail
      go_ret
      exact ⟨-1, rfl, by rw [HN.out, show n = k by omega, hH.out]; rfl, hB⟩

theorem sentHas_any (a : Option Addr) (l : List Snt) (n c q : Nat) (id : ByteArray) (w : World) (hn : l.length = n) (hn1 : n ≤ 1000) (hI : RAt w a 4 Snt.cells l) (hq : w.cell? ⟨q, 0, none⟩ = some (.string id)) :
    Calls Tryz.prog 66 #[.slice a n c, .func (.func 67) #[] #[.pointer (some ⟨q, 0, none⟩)]] w
      fun e w' => e = .returned (.bool (hasS (idsOf l l.length) id)) ∧ Below w.heap.size w w' := by
  have C := Lib.hid (sentIdx_any a l n c q id w hn hn1 hI hq)
  clear hn hI hq
  generalize hasS (idsOf l l.length) id = b at *
  go_enter Tryz.func66, Tryz.ntmps66
  go_wp2_with fail
  with_reducible refine C.out.mono ?_
  rintro e w1 ⟨r, rfl, hr, hb⟩
  have HR := Lib.hid hr
  clear hr
  go_wp2_with fail
  go_ret
  exact ⟨ret_bool HR.out, hb⟩
end Go.Proofs.YtgdagknjnidmiaaGreatDoor
