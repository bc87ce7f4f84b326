/- The code points of a text, as plain lists: none of them is a control sign just where the text is UTF-8 without control bytes. -/
import Derived.Test.YtfdpfkdfglombaaGreatDoorCndP
import Derived.Lib.TrimU
import Derived.Lib.ValidU
import Derived.Test.YtfdpfkdfglombaaGreatDoorSgV
import Derived.Test.YtfdpfkdfglombaaGreatDoorInts
import Derived.OwnWalk
import Derived.Deep.LoopGhost
import Derived.Test.YtfdpfkdfglombaaGreatDoorKeyOf
import Derived.Deep.QuietTactic
import Derived.BigQuiet
import Derived.Test.YtfdpfkdfglombaaGreatDoorSgU
import Derived.Test.YtfdpfkdfglombaaGreatDoorSgL
import Derived.Deep.RegionHeld3
import Derived.Deep.Cut
import Derived.Deep.CutBlock
import Derived.Deep.DeepCutAuto
set_option linter.unusedVariables false
namespace Go.Proofs.YtfdpfkdfglombaaGreatDoor
open Go.RowKit Go.Lib

theorem decN_shape (n b0 b1 b2 b3 : Nat) (hn : 1 ≤ n) :
    (b0 < 128 ∧ decodeN n b0 b1 b2 b3 = (b0, 1)) ∨ (128 ≤ b0 ∧ decodeN n b0 b1 b2 b3 = (65533, 1)) ∨
      (128 ≤ b0 ∧ 128 ≤ (decodeN n b0 b1 b2 b3).1 ∧ 2 ≤ (decodeN n b0 b1 b2 b3).2 ∧ (decodeN n b0 b1 b2 b3).2 ≤ 4 ∧ (decodeN n b0 b1 b2 b3).2 ≤ n ∧ 128 ≤ b1 ∧ (2 < (decodeN n b0 b1 b2 b3).2 → 128 ≤ b2) ∧ (3 < (decodeN n b0 b1 b2 b3).2 → 128 ≤ b3)) := by
  unfold decodeN
  by_cases h0 : b0 < 128
  · rw [if_pos h0]; exact .inl ⟨h0, rfl⟩
  · rw [if_neg h0]
    refine .inr ?_
    split
    · split
      · refine .inr ⟨by omega, ?_, ?_, ?_, ?_, by omega, ?_, ?_⟩ <;> simp only <;> omega
      · exact .inl ⟨by omega, rfl⟩
    · split
      · split
        · refine .inr ⟨by omega, ?_, ?_, ?_, ?_, by omega, ?_, ?_⟩ <;> simp only <;> omega
        · exact .inl ⟨by omega, rfl⟩
      · split
        · split
          · refine .inr ⟨by omega, ?_, ?_, ?_, ?_, by omega, ?_, ?_⟩ <;> simp only <;> omega
          · exact .inl ⟨by omega, rfl⟩
        · exact .inl ⟨by omega, rfl⟩
theorem get_list (l : List UInt8) (j : Nat) (h : j < l.length) : (⟨l.toArray⟩ : ByteArray).get! j = l[j] := by
  have e : (⟨l.toArray⟩ : ByteArray).size = l.length := by simp [ByteArray.size]
  rw [Utf8W.get!_of_lt _ _ (by rw [e]; exact h)]
  show l.toArray[j]'(by simpa using h) = l[j]
  exact List.getElem_toArray _
/-- a byte that is no control sign -/
def bytB (b : UInt8) : Bool := decide (32 ≤ b.toNat) && !decide (b.toNat = 127)
theorem decL_shape (l : List UInt8) (h : 0 < l.length) :
    (l[0].toNat < 128 ∧ decodeL l = (l[0].toNat, 1)) ∨ (128 ≤ l[0].toNat ∧ decodeL l = (65533, 1)) ∨
      (128 ≤ (decodeL l).1 ∧ 2 ≤ (decodeL l).2 ∧ (decodeL l).2 ≤ l.length ∧ ∀ b ∈ l.take (decodeL l).2, bytB b = true) := by
  have e0 : (⟨l.toArray⟩ : ByteArray).size = l.length := by simp [ByteArray.size]
  have e : decodeL l = decodeN l.length ((⟨l.toArray⟩ : ByteArray).get! 0).toNat ((⟨l.toArray⟩ : ByteArray).get! 1).toNat ((⟨l.toArray⟩ : ByteArray).get! 2).toNat ((⟨l.toArray⟩ : ByteArray).get! 3).toNat := by
    unfold decodeL
    rw [decode_at, e0]
    rfl
  rw [e]
  have hb0 := get_list l 0 h
  rcases decN_shape l.length ((⟨l.toArray⟩ : ByteArray).get! 0).toNat ((⟨l.toArray⟩ : ByteArray).get! 1).toNat ((⟨l.toArray⟩ : ByteArray).get! 2).toNat ((⟨l.toArray⟩ : ByteArray).get! 3).toNat (by omega) with ⟨h1, h2⟩ | ⟨h1, h2⟩ | ⟨h1, h2, h3, h4, h5, h6, h7, h8⟩
  · rw [h2, ← hb0]; exact .inl ⟨h1, rfl⟩
  · rw [h2, ← hb0]; exact .inr (.inl ⟨h1, rfl⟩)
  · refine .inr (.inr ⟨h2, h3, h5, fun b hb => ?_⟩)
    obtain ⟨j, hj, rfl⟩ := List.mem_iff_getElem.1 hb
    rw [List.length_take] at hj
    have hjl : j < l.length := by omega
    rw [List.getElem_take, ← get_list l j hjl]
    have : 128 ≤ ((⟨l.toArray⟩ : ByteArray).get! j).toNat := by
      have hj4 : j < 4 := by omega
      match j, hj, hj4 with
      | 0, _, _ => exact h1
      | 1, _, _ => exact h6
      | 2, hj, _ => exact h7 (by omega)
      | 3, hj, _ => exact h8 (by omega)
    unfold bytB
    rw [decide_eq_true (by omega), decide_eq_false (by omega)]
    rfl
/-- the code points; bytes that are wrong are told by a number below nought -/
def ptsL : Nat → List UInt8 → List Int
  | 0, _ => []
  | n + 1, l => if l = [] then [] else (if (decodeL l).1 = 65533 ∧ (decodeL l).2 = 1 then -1 - ((l.getD 0 0).toNat : Int) else ((decodeL l).1 : Int)) :: ptsL n (l.drop (decodeL l).2)
def ptB (p : Int) : Bool := decide (32 ≤ p) && !decide (p = 127)
theorem pts_same : ∀ (n : Nat) (l : List UInt8), l.length ≤ n → (ptsL n l).all ptB = (validGoD n l && l.all bytB)
  | 0, l, h => by
    obtain rfl := List.eq_nil_of_length_eq_zero (by omega : l.length = 0)
    rfl
  | n + 1, l, h => by
    by_cases h0 : l = []
    · subst h0; rfl
    · have hl : 0 < l.length := by cases l with
        | nil => exact absurd rfl h0
        | cons _ _ => simp
      unfold ptsL validGoD
      rw [if_neg h0, if_neg h0]
      rcases decL_shape l hl with ⟨h1, h2⟩ | ⟨h1, h2⟩ | ⟨h1, h2, h3, h4⟩
      · rw [h2]
        have hne : ¬ (l[0].toNat = 65533 ∧ (1 : Nat) = 1) := by omega
        rw [if_neg hne, if_neg hne, List.all_cons, pts_same n (l.drop 1) (by rw [List.length_drop]; omega)]
        have hc : l = l[0] :: l.drop 1 := by
          have := List.drop_eq_getElem_cons hl
          simpa using this
        have hall : l.all bytB = (bytB l[0] && (l.drop 1).all bytB) := by
          conv => lhs; rw [hc]
          rw [List.all_cons]
        have hp : ptB ((l[0].toNat : Nat) : Int) = bytB l[0] := by
          unfold ptB bytB
          rw [decide_eq_decide.2 (show (32 : Int) ≤ (l[0].toNat : Nat) ↔ 32 ≤ l[0].toNat by omega), decide_eq_decide.2 (show ((l[0].toNat : Nat) : Int) = 127 ↔ l[0].toNat = 127 by omega)]
        rw [hall]
        show (ptB ((l[0].toNat : Nat) : Int) && _) = _
        rw [hp]
        cases bytB l[0] <;> cases validGoD n (l.drop 1) <;> rfl
      · rw [h2]
        rw [if_pos ⟨rfl, rfl⟩, if_pos ⟨rfl, rfl⟩, List.all_cons]
        have : ptB (-1 - ((l.getD 0 0).toNat : Int)) = false := by
          unfold ptB
          rw [decide_eq_false (by omega)]
          rfl
        rw [this]
        rfl
      · have hne : ¬ ((decodeL l).1 = 65533 ∧ (decodeL l).2 = 1) := by omega
        rw [if_neg hne, if_neg hne, List.all_cons, pts_same n (l.drop (decodeL l).2) (by rw [List.length_drop]; omega)]
        have hall : l.all bytB = (l.drop (decodeL l).2).all bytB := by
          conv => lhs; rw [← List.take_append_drop (decodeL l).2 l]
          rw [List.all_append, List.all_eq_true.2 h4, Bool.true_and]
        have hp : ptB ((decodeL l).1 : Int) = true := by
          unfold ptB
          rw [decide_eq_true (by omega), decide_eq_false (by omega)]
          rfl
        rw [hp, hall, Bool.true_and]
/-- the reference's test of a text is the program's -/
theorem txB_pts (s : ByteArray) : (ptsL s.data.toList.length s.data.toList).all ptB = txB s := pts_same _ _ (Nat.le_refl _)
theorem ptsL_len : ∀ (n : Nat) (l : List UInt8), (ptsL n l).length ≤ n
  | 0, _ => Nat.le_refl _
  | n + 1, l => by
    unfold ptsL
    split
    · simp
    · have := ptsL_len n (l.drop (decodeL l).2)
      simp only [List.length_cons]
      omega
end Go.Proofs.YtfdpfkdfglombaaGreatDoor
/- handref2.points: the code points of a text. -/
set_option linter.unusedVariables false
namespace Go.Proofs.YtfdpfkdfglombaaGreatDoor
open Go.RowKit Go.Lib

theorem infoR_int : (Tryz.prog.info? 3).map (fun i => (i.zero, i.size, i.bytes)) = some (some (.int .i64 0), 1, 8) := by kernel_rfl
theorem ptsL_fuel : ∀ (n m : Nat) (l : List UInt8), l.length ≤ n → l.length ≤ m → ptsL n l = ptsL m l
  | 0, 0, l, _, _ => rfl
  | 0, m + 1, l, h, _ => by
    obtain rfl := List.eq_nil_of_length_eq_zero (by omega : l.length = 0)
    rfl
  | n + 1, 0, l, _, h => by
    obtain rfl := List.eq_nil_of_length_eq_zero (by omega : l.length = 0)
    rfl
  | n + 1, m + 1, l, h1, h2 => by
    unfold ptsL
    by_cases h0 : l = []
    · rw [if_pos h0, if_pos h0]
    · rw [if_neg h0, if_neg h0]
      have hl : 0 < l.length := by cases l with
        | nil => exact absurd rfl h0
        | cons _ _ => simp
      have hk : 1 ≤ (decodeL l).2 := by
        rcases decL_shape l hl with ⟨_, e⟩ | ⟨_, e⟩ | ⟨_, e, _⟩
        · rw [e]; exact Nat.le_refl _
        · rw [e]; exact Nat.le_refl _
        · omega
      congr 1
      exact ptsL_fuel n m _ (by rw [List.length_drop]; omega) (by rw [List.length_drop]; omega)
/-- the code points of a text -/
def ptS (s : ByteArray) : List Int := ptsL s.size s.data.toList
theorem decodeN_le (n b0 b1 b2 b3 : Nat) (h : b0 < 256) : (decodeN n b0 b1 b2 b3).1 ≤ 1114111 := by
  unfold decodeN
  repeat' split
  all_goals simp only
  all_goals omega
theorem decodeL_le (l : List UInt8) : (decodeL l).1 ≤ 1114111 := by
  unfold decodeL
  rw [decode_at]
  exact decodeN_le _ _ _ _ _ (UInt8.toNat_lt _)
theorem decodeGo_L (s : ByteArray) (h : 0 < s.size) : decodeGo s = decodeL s.data.toList := by
  unfold decodeGo decodeL
  rw [if_neg (by omega)]
/-- the first code point of a text, as the reference gives it -/
def ptC (c n b : Nat) : Int := if c = 65533 ∧ n = 1 then -1 - (b : Int) else (c : Int)
theorem decGo_bd (s : ByteArray) (h : 0 < s.size) : 1 ≤ (decodeGo s).2 ∧ (decodeGo s).2 ≤ s.size := by
  rw [decodeGo_L s h]
  have hl : 0 < s.data.toList.length := by rw [Array.length_toList]; exact h
  rcases decL_shape s.data.toList hl with ⟨_, e⟩ | ⟨_, e⟩ | ⟨_, e1, e2, _⟩
  · rw [e]; exact ⟨Nat.le_refl _, h⟩
  · rw [e]; exact ⟨Nat.le_refl _, h⟩
  · rw [Array.length_toList] at e2; exact ⟨by omega, e2⟩
theorem decGo_le (s : ByteArray) (h : 0 < s.size) : (decodeGo s).1 ≤ 1114111 := by
  rw [decodeGo_L s h]; exact decodeL_le _
theorem ptS_step (s : ByteArray) (h : 0 < s.size) : ptS s = ptC (decodeGo s).1 (decodeGo s).2 (s[0]'h).toNat :: ptS (s.extract (decodeGo s).2 s.size) := by
  have hb := decGo_bd s h
  rw [decodeGo_L s h] at hb ⊢
  have hl : 0 < s.data.toList.length := by rw [Array.length_toList]; exact h
  obtain ⟨m, hm⟩ : ∃ m, s.size = m + 1 := ⟨s.size - 1, by omega⟩
  have e1 : ptS s = ptC (decodeL s.data.toList).1 (decodeL s.data.toList).2 (s.data.toList.getD 0 0).toNat :: ptsL m (s.data.toList.drop (decodeL s.data.toList).2) := by
    show ptsL s.size s.data.toList = _
    rw [hm]
    conv => lhs; unfold ptsL
    rw [if_neg (by intro e; rw [e] at hl; simp at hl)]
    unfold ptC
    with_reducible rfl
  rw [e1]
  clear e1
  have e0 : s.data.toList.getD 0 0 = s[0] := by
    rw [List.getD_eq_getElem?_getD, List.getElem?_eq_getElem hl]
    rfl
  rw [e0]
  clear e0
  generalize ptC _ _ _ = y
  generalize (decodeL s.data.toList).2 = k at *
  congr 1
  have ed : (s.extract k s.size).data.toList = s.data.toList.drop k := by
    rw [Lib.extract_data, List.take_of_length_le]
    rw [List.length_drop, Array.length_toList]
    exact Nat.le_refl _
  unfold ptS
  rw [ed]
  have es : (s.extract k s.size).size = s.size - k := by simp
  rw [es]
  refine ptsL_fuel _ _ _ ?_ ?_
  · rw [List.length_drop, Array.length_toList]; show s.size - _ ≤ _; omega
  · rw [List.length_drop, Array.length_toList]; exact Nat.le_refl _
theorem ptS_empty (s : ByteArray) (h : s.size = 0) : ptS s = [] := by
  unfold ptS; rw [h]; rfl
end Go.Proofs.YtfdpfkdfglombaaGreatDoor
/- handref2.points, walked (printed by gen_points.py). -/
set_option linter.unusedVariables false
namespace Go.Proofs.YtfdpfkdfglombaaGreatDoor
open Go.RowKit Go.Lib

theorem decGo_any (s : ByteArray) (w : World) (hT : Tbs w) :
    Calls Tryz.prog 202 #[.string s] w fun e w' => e = .returned (.tuple #[.int .i32 (Lib.decodeGo s).1, .int .i64 (Lib.decodeGo s).2]) ∧ Below w.heap.size w w' := Tryz.utf8_DecodeRuneInString s w hT.1
theorem row_belowP {w w' : World} {b0 C n : Nat} {t : TypeId} {v : Value} {xs : List Value} (own : w.ownsRow b0 t C v n xs) (hb : Below w.heap.size w w') : w'.ownsRow b0 t C v n xs :=
  own.kept (grown_of_below hb none) (by cases v.ownBlock with | none => exact .inl rfl | some q => exact .inr (by simp))
/-- a list of numbers that the call has made -/
def PtO (w : World) (l : List Int) (e : Ending) (w' : World) : Prop := ∃ a c, e = .returned (.slice a l.length c) ∧ IntsAt w' a l ∧ Below w.heap.size w w'
theorem nonempty_toList {s : ByteArray} (h : 0 < s.size) : s.toList.isEmpty = false := by
  rw [Lib.toList_data, List.isEmpty_eq_false_iff]
  intro e
  have : s.data.size = 0 := by rw [← Array.length_toList, e]; rfl
  have h2 : s.data.size = s.size := rfl
  omega
theorem empty_toList {s : ByteArray} (h : s.size = 0) : s.toList.isEmpty = true := by
  rw [Lib.toList_data, List.isEmpty_iff]
  apply List.eq_nil_of_length_eq_zero
  rw [Array.length_toList]; exact h
theorem PtO.of_own {w w' : World} {v : Value} {zs : List Int} (h : w'.ownsRow w.heap.size 3 1 v zs.length (zs.map (Value.int .i64))) (hb : Below w.heap.size w w') : PtO w zs (.returned v) w' := by
  rcases h.2 with ⟨rfl, h0⟩ | ⟨g, cap, cur, rfl, _⟩
  · obtain rfl := List.eq_nil_of_length_eq_zero h0
    exact ⟨none, 0, rfl, IntsAt.nil _ _, hb⟩
  · exact ⟨_, cap, rfl, IntsAt.of_own h, hb⟩
set_option maxRecDepth 100000 in
set_option maxHeartbeats 4000000 in
theorem points_any (s : ByteArray) (w : World) (hs : s.size ≤ 1000000) (hT : Tbs w) :
    Calls Tryz.prog 162 #[.string s] w (PtO w (ptS s)) := by
  obtain ⟨i0, hi, hz0, hz1, hz2⟩ := info_parts infoR_int
  have HT := Lib.hid hT
  clear hT
  go_enter Tryz.func162, Tryz.ntmps162
  go_wp2_with fail
  go_loopg [0, 3] (s.size + 1) (fun gk t v wr => ∃ (t' : ByteArray) (zs : List Int), t = .string t' ∧ t'.size < gk ∧ t'.size + zs.length ≤ s.size ∧ wr.ownsRow w.heap.size 3 1 v zs.length (zs.map (Value.int .i64)) ∧ Below w.heap.size w wr ∧ Hid (zs ++ ptS t' = ptS s))
  case atStart => exact ⟨s, [], rfl, Nat.lt_succ_self _, Nat.le_refl _, World.ownsRow_nil _ _ _ _, Below.refl _ _, Lib.hid rfl⟩
  case round =>
    obtain ⟨t', zs, rfl, hg, hsz, hW, hB, HF⟩ := hrel
    have HSZ := Lib.hid hsz
    have HB := Lib.hid hB
    have HW := Lib.hid hW
    clear hB hW
    by_cases h0 : 0 < t'.size
    · obtain ⟨g', rfl⟩ : ∃ g', gk = g' + 1 := ⟨gk - 1, by omega⟩
      have e1 : t'.toList.isEmpty = false := nonempty_toList h0
      have e2 : (!t'.toList.isEmpty) = true := by rw [e1]; rfl
      have C := Lib.hid (decGo_any t' wr (HT.out.below HB.out))
      have HP := Lib.hid (ptS_step t' h0)
      obtain ⟨hn1, hn2⟩ := decGo_bd t' h0
      have hc := decGo_le t' h0
      generalize decodeGo t' = p at *
      obtain ⟨c, n⟩ := p
      simp only at C HP hn1 hn2 hc
      have hzl : zs.length ≤ 1000000 := by omega
      clear hsz hs
      go_wp2_with fail
      ((with_reducible refine (C.out).mono ?_); rintro e w1 ⟨rfl, hb⟩)
      have HB1 := Lib.hid (HB.out.trans (hb.mono HB.out.size))
      have HW1 := Lib.hid (row_belowP HW.out hb)
      clear hb HB HW C
      have hsz1 : (t'.extract n t'.size).size = t'.size - n := by simp
      have HSX := Lib.hid hsz1
      clear hsz1
      by_cases h3 : c = 65533
      · subst h3
        by_cases h4 : n = 1
        · subst h4
          obtain ⟨x0, hx0⟩ : ∃ z, (t'[0]'h0).toNat = z := ⟨_, rfl⟩
          have hx1 : x0 < 256 := by rw [← hx0]; exact UInt8.toNat_lt _
          rw [hx0] at HP
          have HP1 : Hid (ptS t' = (-1 - (x0 : Int)) :: ptS (t'.extract 1 t'.size)) := Lib.hid (by rw [HP.out]; rfl)
          clear HP
          have hx3 : IntKind.i64.wrap (-1 - (x0 : Int)) = -1 - (x0 : Int) := IntWalk.i64_in _ (by omega)
          clear hx3
          go_wp2_with (at_builtin; refine wpList_append_own _ rfl _ _ 22 rfl w.heap.size 3 i0 (.int .i64 0) 1 8 Tryz.underlying22 hi hz0 hz1 hz2 rfl (by decide) _ _ _ rfl (HW1.out.alloc _) ⟨w1.heap.size, 0, none⟩ 1 1 [.int .i64 (-1 - (x0 : Int))] rfl rfl ?c1 ?c2 ?c3 ?c4 ?c5 ?_)
          case c1 => exact cell_one_new _ _ _
          case c2 => simp [Value.oneCell']
          case c3 => unfold maxLen; omega
          case c4 => omega
          case c5 => have := HB1.out.size; simp; omega
          intro v2 w2 own2 hgrow2 hne2
          have HO2 := Lib.hid (show w2.ownsRow w.heap.size 3 1 v2 (zs ++ [-1 - (x0 : Int)]).length ((zs ++ [-1 - (x0 : Int)]).map (Value.int .i64)) by simpa using own2)
          have HB2 := Lib.hid ((HB1.out.alloc HB1.out.size _).grown hgrow2 (by have := HB1.out.size; simp; omega) (fun q hq => (HW1.out.lt q hq).1))
          clear own2 hgrow2 hne2 HW1 HB1
          go_wp2_with fail
          go_roundg g'
          case measure => omega
          case rel => exact ⟨t'.extract 1 t'.size, zs ++ [-1 - (x0 : Int)], rfl, by rw [HSX.out]; omega, by rw [HSX.out]; have := HSZ.out; simp; omega, HO2.out, HB2.out, Lib.hid (by rw [← HF.out, HP1.out, List.append_assoc]; rfl)⟩
        · have h5 : ((n : Int) == 1) = false := by simp; omega
          have HP1 : Hid (ptS t' = (65533 : Int) :: ptS (t'.extract n t'.size)) := Lib.hid (by rw [HP.out]; unfold ptC; rw [if_neg (by omega)]; rfl)
          clear HP h4
          go_wp2_with (at_builtin; refine wpList_append_own _ rfl _ _ 22 rfl w.heap.size 3 i0 (.int .i64 0) 1 8 Tryz.underlying22 hi hz0 hz1 hz2 rfl (by decide) _ _ _ rfl (HW1.out.alloc _) ⟨w1.heap.size, 0, none⟩ 1 1 [.int .i64 (65533)] rfl rfl ?d1 ?d2 ?d3 ?d4 ?d5 ?_)
          case d1 => exact cell_one_new _ _ _
          case d2 => simp [Value.oneCell']
          case d3 => unfold maxLen; omega
          case d4 => omega
          case d5 => have := HB1.out.size; simp; omega
          intro v2 w2 own2 hgrow2 hne2
          have HO2 := Lib.hid (show w2.ownsRow w.heap.size 3 1 v2 (zs ++ [65533]).length ((zs ++ [65533]).map (Value.int .i64)) by simpa using own2)
          have HB2 := Lib.hid ((HB1.out.alloc HB1.out.size _).grown hgrow2 (by have := HB1.out.size; simp; omega) (fun q hq => (HW1.out.lt q hq).1))
          clear own2 hgrow2 hne2 HW1 HB1
          go_wp2_with fail
          go_roundg g'
          case measure => omega
          case rel => exact ⟨t'.extract n t'.size, zs ++ [65533], rfl, by rw [HSX.out]; omega, by rw [HSX.out]; have := HSZ.out; simp; omega, HO2.out, HB2.out, Lib.hid (by rw [← HF.out, HP1.out, List.append_assoc]; rfl)⟩
      · have h5 : ((c : Int) == 65533) = false := by simp; omega
        have HP1 : Hid (ptS t' = (c : Int) :: ptS (t'.extract n t'.size)) := Lib.hid (by rw [HP.out]; unfold ptC; rw [if_neg (by omega)])
        clear HP h3
        go_wp2_with (at_builtin; refine wpList_append_own _ rfl _ _ 22 rfl w.heap.size 3 i0 (.int .i64 0) 1 8 Tryz.underlying22 hi hz0 hz1 hz2 rfl (by decide) _ _ _ rfl (HW1.out.alloc _) ⟨w1.heap.size, 0, none⟩ 1 1 [.int .i64 ((c : Int))] rfl rfl ?e1 ?e2 ?e3 ?e4 ?e5 ?_)
        case e1 => exact cell_one_new _ _ _
        case e2 => simp [Value.oneCell']
        case e3 => unfold maxLen; omega
        case e4 => omega
        case e5 => have := HB1.out.size; simp; omega
        intro v2 w2 own2 hgrow2 hne2
        have HO2 := Lib.hid (show w2.ownsRow w.heap.size 3 1 v2 (zs ++ [(c : Int)]).length ((zs ++ [(c : Int)]).map (Value.int .i64)) by simpa using own2)
        have HB2 := Lib.hid ((HB1.out.alloc HB1.out.size _).grown hgrow2 (by have := HB1.out.size; simp; omega) (fun q hq => (HW1.out.lt q hq).1))
        clear own2 hgrow2 hne2 HW1 HB1
        go_wp2_with fail
        go_roundg g'
        case measure => omega
        case rel => exact ⟨t'.extract n t'.size, zs ++ [(c : Int)], rfl, by rw [HSX.out]; omega, by rw [HSX.out]; have := HSZ.out; simp; omega, HO2.out, HB2.out, Lib.hid (by rw [← HF.out, HP1.out, List.append_assoc]; rfl)⟩
    · have e1 : t'.toList.isEmpty = true := empty_toList (by omega)
      have HZ : Hid (ptS s = zs) := Lib.hid (by rw [← HF.out, ptS_empty t' (by omega), List.append_nil])
      go_wp2_with fail
      go_ret
      rw [HZ.out]
      exact PtO.of_own HW.out HB.out
end Go.Proofs.YtfdpfkdfglombaaGreatDoor
/- handref2.ValueFault (printed by gen_rfv.py). -/
set_option linter.unusedVariables false
namespace Go.Proofs.YtfdpfkdfglombaaGreatDoor
open Go.RowKit

theorem in_any (n lo hi : Int) (w : World) : Calls Tryz.prog 86 #[.int .i64 n, .int .i64 lo, .int .i64 hi] w fun e w' => e = .returned (.bool (decide (lo ≤ n ∧ n ≤ hi))) ∧ w = w' := by
  by_cases h : lo ≤ n ∧ n ≤ hi
  · rw [decide_eq_true h]; exact in_yes n lo hi w h.1 h.2
  · rw [decide_eq_false h]; exact in_no n lo hi w (by omega)
theorem txB_ptS (s : ByteArray) : (ptS s).all ptB = txB s := by
  have h := txB_pts s
  rw [Array.length_toList] at h
  exact h
theorem ptS_len (s : ByteArray) : (ptS s).length ≤ s.size := ptsL_len _ _
theorem all_drop (l : List Int) (k : Nat) (h : k < l.length) : (l.drop k).all ptB = (ptB l[k] && (l.drop (k + 1)).all ptB) := by
  rw [List.drop_eq_getElem_cons h]; rfl
set_option maxRecDepth 100000 in
set_option maxHeartbeats 4000000 in
theorem valueFault_any (v : Vl) (w : World) (hv : v.ok) (hT : Tbs w) :
    Calls Tryz.prog 99 #[.agg #[.int .i64 v.kind, .string v.text, .int .i64 v.num]] w (IntO w (vlE v)) := by
  obtain ⟨k, s, n⟩ := v
  obtain ⟨hk, hs, hn⟩ := hv
  unfold i64B at hk hn
  simp only at hk hs hn
  replace hs : s.size ≤ 1000 := Nat.le_trans hs (by decide)
  have HE := Lib.hid (show vlE ⟨k, s, n⟩ = (if k < 1 ∨ 4 < k then 4 else if k = 1 then (if n ≠ 0 then 3 else if 200 < s.size then 2 else if (ptS s).all ptB = false then 3 else 0) else if s.size ≠ 0 then 3 else if n < loV k ∨ hiV k < n then 1 else 0) by
    unfold vlE; rw [txB_ptS])
  have HPL := Lib.hid (ptS_len s)
  have CP := Lib.hid (fun w h => points_any s w (by omega) h)
  generalize vlE ⟨k, s, n⟩ = r at *
  generalize ptS s = zs at *
  have HX := Lib.hid (XB.new w [.int .i64 k, .string s, .int .i64 n] 72)
  have HT := Lib.hid (hT.alloc (.cells #[.int .i64 k, .string s, .int .i64 n] 72))
  have HB := Lib.hid ((Below.refl w.heap.size w).alloc (Nat.le_refl _) (.cells #[.int .i64 k, .string s, .int .i64 n] 72))
  clear hT
  by_cases h0 : k < 1 ∨ 4 < k
  · obtain rfl : r = 4 := HE.out.trans (if_pos h0)
    have CI := Lib.hid (fun w => in_no k 1 4 w h0)
    clear h0 hk hn hs HE
    go_enter Tryz.func99, Tryz.ntmps99
    go_wp2_with fail
    with_reducible refine (CI.out _).mono ?_
    rintro e w1 ⟨rfl, rfl⟩
    go_wp2_with fail
    go_ret
    exact ⟨rfl, HB.out⟩
  · have CI := Lib.hid (fun w => in_yes k 1 4 w (by omega) (by omega))
    have HE1 : Hid (r = if k = 1 then (if n ≠ 0 then 3 else if 200 < s.size then 2 else if zs.all ptB = false then 3 else 0) else if s.size ≠ 0 then 3 else if n < loV k ∨ hiV k < n then 1 else 0) := Lib.hid (HE.out.trans (if_neg h0))
    have hx : k = 1 ∨ k = 2 ∨ k = 3 ∨ k = 4 := by omega
    clear h0 hk HE
    by_cases h1 : k = 1
    · subst h1
      have HE2 : Hid (r = if n ≠ 0 then 3 else if 200 < s.size then 2 else if zs.all ptB = false then 3 else 0) := Lib.hid (HE1.out.trans (if_pos rfl))
      clear HE1 hx
      by_cases h2 : n = 0
      · subst h2
        have HE3 : Hid (r = if 200 < s.size then 2 else if zs.all ptB = false then 3 else 0) := Lib.hid (HE2.out.trans (if_neg fun h => h rfl))
        clear HE2
        by_cases h3 : 200 < s.size
        · obtain rfl : r = 2 := HE3.out.trans (if_pos h3)
          have h3' : (200 : Int) < (s.size : Int) := by omega
          clear h3 HE3 hn
          go_enter Tryz.func99, Tryz.ntmps99
          go_wp2_with fail
          with_reducible refine (CI.out _).mono ?_
          rintro e w1 ⟨rfl, rfl⟩
          go_wp2_with fail
          go_ret
          exact ⟨rfl, HB.out⟩
        · have HE4 : Hid (r = if zs.all ptB = false then 3 else 0) := Lib.hid (HE3.out.trans (if_neg h3))
          have h3' : ¬ (200 : Int) < (s.size : Int) := by omega
          have HS := Lib.hid h3
          clear h3 HE3 hn
          go_enter Tryz.func99, Tryz.ntmps99
          go_wp2_with fail
          with_reducible refine (CI.out _).mono ?_
          rintro e w1 ⟨rfl, rfl⟩
          go_wp2_with fail
          ((with_reducible refine (CP.out _ HT.out).mono ?_); rintro e w2 ⟨a, c, rfl, hI, hb⟩)
          have HB2 := Lib.hid (HB.out.trans (hb.mono HB.out.size))
          have HI := Lib.hid hI
          obtain ⟨m, hm⟩ : ∃ z, zs.length = z := ⟨_, rfl⟩
          rw [hm]
          have hml : m ≤ 1000 := by have := HPL.out; omega
          have HM := Lib.hid hm
          clear hI hb HB hm
          go_wp2_with fail
          go_loop [27] (fun i => ∃ j : Nat, j ≤ m ∧ i = .int .i64 j ∧ Hid (zs.all ptB = (zs.drop j).all ptB)) (fun i => m - (intOf i).toNat)
          case atStart => exact ⟨0, Nat.zero_le _, rfl, Lib.hid rfl⟩
          case round =>
            obtain ⟨j, hj, rfl, HF⟩ := hrel
            by_cases hlt : j < m
            · have hjz : j < zs.length := by have := HM.out; omega
              obtain ⟨p, off, rfl, hp, hcell⟩ := HI.out.at_ hjz
              have HD := Lib.hid (all_drop zs j hjz)
              have HPB := Lib.hid (show ptB zs[j] = (decide (32 ≤ zs[j]) && !decide (zs[j] = 127)) from rfl)
              generalize zs[j] = x at *
              by_cases hx1 : x < 32
              · have hq : ptB x = false := by rw [HPB.out, decide_eq_false (by omega)]; rfl
                have HQ := Lib.hid hq
                clear hq
                go_wp2_with fail
                go_ret
                exact ⟨ret_int (by rw [HE4.out, HF.out, HD.out, HQ.out]; rfl), HB2.out⟩
              · by_cases hx2 : x = 127
                · subst hx2
                  have hq : ptB 127 = false := by rw [HPB.out]; rfl
                  have HQ := Lib.hid hq
                  clear hq
                  go_wp2_with fail
                  go_ret
                  exact ⟨ret_int (by rw [HE4.out, HF.out, HD.out, HQ.out]; rfl), HB2.out⟩
                · have hq : ptB x = true := by rw [HPB.out, decide_eq_true (by omega), decide_eq_false hx2]; rfl
                  have HQ := Lib.hid hq
                  have hx3 : (x == 127) = false := by simpa using hx2
                  clear hq hx2
                  go_wp2_with fail
                  go_round
                  case rel => exact ⟨j + 1, by omega, by go_num, Lib.hid (by rw [HF.out, HD.out, HQ.out]; rfl)⟩
                  case measure => simp [intOf]; omega
            · have HZ : Hid (zs.all ptB = true) := Lib.hid (by rw [HF.out, List.drop_eq_nil_of_le (by have := HM.out; omega)]; rfl)
              go_wp2_with fail
              go_ret
              exact ⟨ret_int (by rw [HE4.out, HZ.out]; rfl), HB2.out⟩
      · obtain rfl : r = 3 := HE2.out.trans (if_pos h2)
        have h3 : (n != 0) = true := by simpa using h2
        clear h2 HE2 hn hs
        go_enter Tryz.func99, Tryz.ntmps99
        go_wp2_with fail
        with_reducible refine (CI.out _).mono ?_
        rintro e w1 ⟨rfl, rfl⟩
        go_wp2_with fail
        go_ret
        exact ⟨rfl, HB.out⟩
    · have HE2 : Hid (r = if s.size ≠ 0 then 3 else if n < loV k ∨ hiV k < n then 1 else 0) := Lib.hid (HE1.out.trans (if_neg h1))
      have hx' : k = 2 ∨ k = 3 ∨ k = 4 := by omega
      have b1 : (k == 1) = false := by simpa using h1
      clear HE1 hx h1
      by_cases h5 : s.size = 0
      · obtain rfl : s = ⟨#[]⟩ := by
          cases s with | mk d => rw [ByteArray.size] at h5; simp only [ByteArray.mk.injEq]; exact Array.size_eq_zero_iff.1 h5
        have HE3 : Hid (r = if n < loV k ∨ hiV k < n then 1 else 0) := Lib.hid (HE2.out.trans (if_neg fun h => h rfl))
        clear HE2 h5 hs b1
        rcases hx' with rfl | rfl | rfl
        · replace HE3 : Hid (r = if n < -1000000000000 ∨ 1000000000000 < n then 1 else 0) := HE3
          rw [out_if] at HE3
          have CW := Lib.hid (fun w => in_any n (-1000000000000) 1000000000000 w)
          have i1 : ∀ wx, (Instr.index 177 (.agg #[.int .i64 0, .int .i64 0, .int .i64 (-1000000000000), .int .i64 0, .int .i64 0]) (.int .i64 2)).run Tryz.prog wx = .ok (.int .i64 (-1000000000000)) wx := fun _ => by kernel_rfl
          have i2 : ∀ wx, (Instr.index 177 (.agg #[.int .i64 0, .int .i64 0, .int .i64 1000000000000, .int .i64 1, .int .i64 4321439]) (.int .i64 2)).run Tryz.prog wx = .ok (.int .i64 1000000000000) wx := fun _ => by kernel_rfl
          obtain ⟨d, hd⟩ : ∃ b, decide (-1000000000000 ≤ n ∧ n ≤ 1000000000000) = b := ⟨_, rfl⟩
          rw [hd] at CW HE3
          clear hd hn
          go_enter Tryz.func99, Tryz.ntmps99
          go_wp2_with fail
          with_reducible refine (CI.out _).mono ?_
          rintro e w1 ⟨rfl, rfl⟩
          go_wp2_with fail
          go_quiet (fail)
          go_wp2_with fail
          with_reducible refine (CW.out _).mono ?_
          rintro e w1 ⟨rfl, rfl⟩
          cases d
          all_goals
            go_wp2_with fail
            go_ret
            exact ⟨ret_int (HE3.out.trans rfl).symm, below_drewNv HB.out _⟩
        · replace HE3 : Hid (r = if n < 0 ∨ 1 < n then 1 else 0) := HE3
          rw [out_if] at HE3
          have CW := Lib.hid (fun w => in_any n (0) 1 w)
          have i1 : ∀ wx, (Instr.index 177 (.agg #[.int .i64 0, .int .i64 0, .int .i64 (-1000000000000), .int .i64 0, .int .i64 0]) (.int .i64 3)).run Tryz.prog wx = .ok (.int .i64 (0)) wx := fun _ => by kernel_rfl
          have i2 : ∀ wx, (Instr.index 177 (.agg #[.int .i64 0, .int .i64 0, .int .i64 1000000000000, .int .i64 1, .int .i64 4321439]) (.int .i64 3)).run Tryz.prog wx = .ok (.int .i64 1) wx := fun _ => by kernel_rfl
          obtain ⟨d, hd⟩ : ∃ b, decide (0 ≤ n ∧ n ≤ 1) = b := ⟨_, rfl⟩
          rw [hd] at CW HE3
          clear hd hn
          go_enter Tryz.func99, Tryz.ntmps99
          go_wp2_with fail
          with_reducible refine (CI.out _).mono ?_
          rintro e w1 ⟨rfl, rfl⟩
          go_wp2_with fail
          go_quiet (fail)
          go_wp2_with fail
          with_reducible refine (CW.out _).mono ?_
          rintro e w1 ⟨rfl, rfl⟩
          cases d
          all_goals
            go_wp2_with fail
            go_ret
            exact ⟨ret_int (HE3.out.trans rfl).symm, below_drewNv HB.out _⟩
        · replace HE3 : Hid (r = if n < 0 ∨ 4321439 < n then 1 else 0) := HE3
          rw [out_if] at HE3
          have CW := Lib.hid (fun w => in_any n (0) 4321439 w)
          have i1 : ∀ wx, (Instr.index 177 (.agg #[.int .i64 0, .int .i64 0, .int .i64 (-1000000000000), .int .i64 0, .int .i64 0]) (.int .i64 4)).run Tryz.prog wx = .ok (.int .i64 (0)) wx := fun _ => by kernel_rfl
          have i2 : ∀ wx, (Instr.index 177 (.agg #[.int .i64 0, .int .i64 0, .int .i64 1000000000000, .int .i64 1, .int .i64 4321439]) (.int .i64 4)).run Tryz.prog wx = .ok (.int .i64 4321439) wx := fun _ => by kernel_rfl
          obtain ⟨d, hd⟩ : ∃ b, decide (0 ≤ n ∧ n ≤ 4321439) = b := ⟨_, rfl⟩
          rw [hd] at CW HE3
          clear hd hn
          go_enter Tryz.func99, Tryz.ntmps99
          go_wp2_with fail
          with_reducible refine (CI.out _).mono ?_
          rintro e w1 ⟨rfl, rfl⟩
          go_wp2_with fail
          go_quiet (fail)
          go_wp2_with fail
          with_reducible refine (CW.out _).mono ?_
          rintro e w1 ⟨rfl, rfl⟩
          cases d
          all_goals
            go_wp2_with fail
            go_ret
            exact ⟨ret_int (HE3.out.trans rfl).symm, below_drewNv HB.out _⟩
      · obtain rfl : r = 3 := HE2.out.trans (if_pos h5)
        have h6 : s.toList.isEmpty = false := nonempty_toList (by omega)
        have h7 : (!s.toList.isEmpty) = true := by rw [h6]; rfl
        clear h5 hs hn HE2 hx'
        go_enter Tryz.func99, Tryz.ntmps99
        go_wp2_with fail
        with_reducible refine (CI.out _).mono ?_
        rintro e w1 ⟨rfl, rfl⟩
        go_wp2_with fail
        go_ret
        exact ⟨rfl, HB.out⟩
end Go.Proofs.YtfdpfkdfglombaaGreatDoor
/- What the reference asks of conditions: words, names, signs, uses, counts (printed by gen_rfn.py). -/
set_option linter.unusedVariables false
namespace Go.Proofs.YtfdpfkdfglombaaGreatDoor
open Go.RowKit

def cwS : ByteArray := ⟨#[97, 108, 108, 32, 110, 111, 110, 101, 32, 97, 110, 100, 32, 111, 114, 32, 110, 111, 116, 32, 104, 97, 115, 32, 105, 110, 32, 98, 101, 103, 105, 110, 115, 32, 99, 111, 110, 116, 97, 105, 110, 115, 32, 99, 111, 117, 110, 116, 32, 115, 117, 109, 32, 115, 105, 110, 99, 101, 32, 116, 104, 101, 110, 32, 119, 104, 101, 114, 101, 32, 119, 105, 116, 104, 105, 110, 32, 100, 97, 121, 115, 32, 104, 111, 117, 114, 115, 32, 109, 105, 110, 117, 116, 101, 115, 32, 121, 101, 115, 32, 110, 111]⟩
theorem cw_fields : (Lib.fields cwS.data.toList) = wrdL.map (·.data.toList) := by decide +kernel
theorem cw_ascii : ∀ (j : Nat) b, cwS.data.toList[j]? = some b → b.toNat < 128 := by
  have h : cwS.data.toList.all (fun b => decide (b.toNat < 128)) = true := by decide +kernel
  intro j b hb
  have := List.all_eq_true.1 h b (List.mem_of_getElem? hb)
  simpa using this
theorem cw_cells : (((Lib.fields cwS.data.toList).map fun l => Value.string ⟨l.toArray⟩).toArray) = (wrdL.map Value.string).toArray := by
  rw [cw_fields, List.map_map]
  rfl
/-- a list of strings that was just made -/
def StO (w : World) (l : List ByteArray) (e : Ending) (w' : World) : Prop := e = .returned (.slice (some ⟨w.heap.size, 0, none⟩) l.length l.length) ∧ w' = w.alloc (.cells (l.map Value.string).toArray 9)
theorem condWords_any (w : World) (hT : Tbs w) : Calls Tryz.prog 161 #[] w (StO w wrdL) := by
  have C0 := Tryz.strings_Fields_laid cwS w (by decide) cw_ascii hT.2
  rw [cw_cells, cw_fields] at C0
  have hl : (wrdL.map (·.data.toList)).length = wrdL.length := List.length_map _
  rw [hl] at C0
  have C := Lib.hid C0
  clear C0 hl hT
  unfold cwS at C
  go_enter Tryz.func161, Tryz.ntmps161
  go_wp2_with fail
  ((with_reducible refine (C.out).mono ?_); rintro e w1 ⟨rfl, hw1⟩; rw [hw1]; clear hw1 w1)
  go_wp2
  go_ret
  exact ⟨rfl, rfl⟩
theorem containsS_has (l : List ByteArray) (s : ByteArray) : Lib.containsS l s = hasS l s := by
  rw [Bool.eq_iff_iff, Lib.containsS_iff]
  unfold hasS
  rw [List.any_eq_true]
  constructor
  · intro h
    exact ⟨s, h, by simp⟩
  · rintro ⟨x, hx, h⟩
    have := of_decide_eq_true h
    obtain rfl : x = s := by
      cases x with | mk a => cases s with | mk b => simp only at this; congr 1; exact Array.toList_inj.1 this
    exact hx
/-- slices.Contains at a list of strings that was just made -/
theorem contains_new (w : World) (l : List ByteArray) (s : ByteArray) (n c p : Nat) (cs : Array Value) (hl : l.length = n) (hn : n ≤ 1000) (hp : p = w.heap.size) (hc : cs = (l.map Value.string).toArray) :
    Calls Tryz.prog 97 #[.slice (some ⟨p, 0, none⟩) n c, .string s] (w.alloc (.cells cs 9)) fun e w' => e = .returned (.bool (hasS l s)) ∧ w.alloc (.cells cs 9) = w' := by
  subst hp hc
  refine (Tryz.slices_Contains_string w.heap.size 0 n c l s _ (by omega) (by omega) ?_).mono ?_
  · intro j hj
    have h := cells_new w (l.map Value.string).toArray 9 j (.string (l.getD j ByteArray.empty)) (by rw [List.toList_toArray, List.getElem?_map, List.getElem?_eq_getElem hj, List.getD_eq_getElem?_getD, List.getElem?_eq_getElem hj]; rfl)
    rw [Addr.add] at h
    rw [Nat.zero_add]
    split at h
    · rename_i h0; subst h0; exact h
    · simpa using h
  · rintro e w' ⟨rfl, hw⟩
    rw [List.take_of_length_le (by omega), containsS_has]
    exact ⟨rfl, hw.symm⟩
theorem nameOf_any (s : ByteArray) (w : World) (hs : s.size ≤ maxLen) (hT : Tbs w) : Calls Tryz.prog 96 #[.string s] w (BoolO w (nmB s)) := by
  have HE := Lib.hid (show nmB s = (keyB s && !hasS wrdL s) from rfl)
  have C1 := Lib.hid (keyOf_any s w hs)
  have C2 := Lib.hid (fun w h => condWords_any w h)
  have C3 := Lib.hid (fun (w : World) => contains_new w wrdL s 20 20 w.heap.size (wrdL.map Value.string).toArray rfl (by omega) rfl rfl)
  have HT := Lib.hid hT
  generalize hasS wrdL s = b at *
  generalize keyB s = k at *
  generalize nmB s = r at *
  clear hs hT
  cases k with
  | false =>
    go_enter Tryz.func96, Tryz.ntmps96
    go_wp2_with fail
    ((with_reducible refine (C1.out).mono ?_); rintro e w1 ⟨rfl, hb⟩)
    have HB := Lib.hid hb
    clear hb
    go_wp2
    go_ret
    exact ⟨ret_bool (by rw [HE.out]; rfl), HB.out⟩
  | true =>
    go_enter Tryz.func96, Tryz.ntmps96
    go_wp2_with fail
    ((with_reducible refine (C1.out).mono ?_); rintro e w1 ⟨rfl, hb⟩)
    have HB := Lib.hid hb
    have HT1 := Lib.hid (HT.out.below hb)
    clear hb
    go_wp2_with fail
    ((with_reducible refine (C2.out _ HT1.out).mono ?_); rintro e w2 ⟨rfl, hw2⟩; rw [hw2]; clear hw2 w2)
    simp only [show wrdL.length = 20 from rfl]
    go_wp2_with fail
    ((refine (C3.out _).mono ?_); rintro e w2 ⟨rfl, rfl⟩)
    go_wp2
    go_ret
    exact ⟨ret_bool (by rw [HE.out]; simp), HB.out.alloc HB.out.size _⟩
theorem signs_any' (w : World) : Calls Tryz.prog 98 #[] w (StO w sgnL) := by
  go_enter Tryz.func98, Tryz.ntmps98
  go_wp2
  go_ret
  exact ⟨rfl, rfl⟩
/-- what a kind uses, as the reference writes it -/
def usS (k : Int) : ByteArray := if k = 6 then ⟨#[110]⟩ else if k = 7 then ⟨#[110, 115]⟩ else if k = 8 then ⟨#[110]⟩ else if k = 9 then ⟨#[110]⟩ else if k = 10 then ⟨#[110]⟩ else if k = 11 then ⟨#[110, 115, 119, 105, 109]⟩ else if k = 12 then ⟨#[110, 102, 115, 119, 105, 109]⟩ else if k = 13 then ⟨#[110, 115, 119, 109]⟩ else if k = 14 then ⟨#[110, 102, 105]⟩ else ⟨#[]⟩
def CntO (w : World) (k : Int) (e : Ending) (w' : World) : Prop := e = .returned (.tuple #[.int .i64 (loAs k : Int), .int .i64 (hiAs k : Int), .int .i64 (loVs k : Int), .int .i64 (hiVs k : Int)]) ∧ w = w'
theorem uses_1 (w : World) : Calls Tryz.prog 93 #[.int .i64 1] w fun e w' => e = .returned (.string ⟨#[]⟩) ∧ w = w' := by
  have i1 : ∀ wx, (Instr.index 173 (.agg #[.string ⟨#[]⟩, .string ⟨#[]⟩, .string ⟨#[]⟩, .string ⟨#[]⟩, .string ⟨#[]⟩, .string ⟨#[]⟩, .string ⟨#[110]⟩, .string ⟨#[110, 115]⟩, .string ⟨#[110]⟩, .string ⟨#[110]⟩, .string ⟨#[110]⟩, .string ⟨#[110, 115, 119, 105, 109]⟩, .string ⟨#[110, 102, 115, 119, 105, 109]⟩, .string ⟨#[110, 115, 119, 109]⟩, .string ⟨#[110, 102, 105]⟩]) (.int .i64 1)).run Tryz.prog wx = .ok (.string ⟨#[]⟩) wx := fun _ => by kernel_rfl
  go_enter Tryz.func93, Tryz.ntmps93
  go_wp2
  go_ret
  exact ⟨rfl, rfl⟩
theorem counts_1 (w : World) : Calls Tryz.prog 159 #[.int .i64 1] w (CntO w 1) := by
  go_enter Tryz.func159, Tryz.ntmps159
  go_wp2
  exact bodyPost_ret (v := .tuple #[.int .i64 0, .int .i64 0, .int .i64 0, .int .i64 0]) (by simp [results, Tryz.results159, go_sem]) rfl ⟨rfl, rfl⟩
theorem uses_2 (w : World) : Calls Tryz.prog 93 #[.int .i64 2] w fun e w' => e = .returned (.string ⟨#[]⟩) ∧ w = w' := by
  have i1 : ∀ wx, (Instr.index 173 (.agg #[.string ⟨#[]⟩, .string ⟨#[]⟩, .string ⟨#[]⟩, .string ⟨#[]⟩, .string ⟨#[]⟩, .string ⟨#[]⟩, .string ⟨#[110]⟩, .string ⟨#[110, 115]⟩, .string ⟨#[110]⟩, .string ⟨#[110]⟩, .string ⟨#[110]⟩, .string ⟨#[110, 115, 119, 105, 109]⟩, .string ⟨#[110, 102, 115, 119, 105, 109]⟩, .string ⟨#[110, 115, 119, 109]⟩, .string ⟨#[110, 102, 105]⟩]) (.int .i64 2)).run Tryz.prog wx = .ok (.string ⟨#[]⟩) wx := fun _ => by kernel_rfl
  go_enter Tryz.func93, Tryz.ntmps93
  go_wp2
  go_ret
  exact ⟨rfl, rfl⟩
theorem counts_2 (w : World) : Calls Tryz.prog 159 #[.int .i64 2] w (CntO w 2) := by
  go_enter Tryz.func159, Tryz.ntmps159
  go_wp2
  exact bodyPost_ret (v := .tuple #[.int .i64 0, .int .i64 0, .int .i64 0, .int .i64 0]) (by simp [results, Tryz.results159, go_sem]) rfl ⟨rfl, rfl⟩
theorem uses_3 (w : World) : Calls Tryz.prog 93 #[.int .i64 3] w fun e w' => e = .returned (.string ⟨#[]⟩) ∧ w = w' := by
  have i1 : ∀ wx, (Instr.index 173 (.agg #[.string ⟨#[]⟩, .string ⟨#[]⟩, .string ⟨#[]⟩, .string ⟨#[]⟩, .string ⟨#[]⟩, .string ⟨#[]⟩, .string ⟨#[110]⟩, .string ⟨#[110, 115]⟩, .string ⟨#[110]⟩, .string ⟨#[110]⟩, .string ⟨#[110]⟩, .string ⟨#[110, 115, 119, 105, 109]⟩, .string ⟨#[110, 102, 115, 119, 105, 109]⟩, .string ⟨#[110, 115, 119, 109]⟩, .string ⟨#[110, 102, 105]⟩]) (.int .i64 3)).run Tryz.prog wx = .ok (.string ⟨#[]⟩) wx := fun _ => by kernel_rfl
  go_enter Tryz.func93, Tryz.ntmps93
  go_wp2
  go_ret
  exact ⟨rfl, rfl⟩
theorem counts_3 (w : World) : Calls Tryz.prog 159 #[.int .i64 3] w (CntO w 3) := by
  go_enter Tryz.func159, Tryz.ntmps159
  go_wp2
  exact bodyPost_ret (v := .tuple #[.int .i64 2, .int .i64 1073741824, .int .i64 0, .int .i64 0]) (by simp [results, Tryz.results159, go_sem]) rfl ⟨rfl, rfl⟩
theorem uses_4 (w : World) : Calls Tryz.prog 93 #[.int .i64 4] w fun e w' => e = .returned (.string ⟨#[]⟩) ∧ w = w' := by
  have i1 : ∀ wx, (Instr.index 173 (.agg #[.string ⟨#[]⟩, .string ⟨#[]⟩, .string ⟨#[]⟩, .string ⟨#[]⟩, .string ⟨#[]⟩, .string ⟨#[]⟩, .string ⟨#[110]⟩, .string ⟨#[110, 115]⟩, .string ⟨#[110]⟩, .string ⟨#[110]⟩, .string ⟨#[110]⟩, .string ⟨#[110, 115, 119, 105, 109]⟩, .string ⟨#[110, 102, 115, 119, 105, 109]⟩, .string ⟨#[110, 115, 119, 109]⟩, .string ⟨#[110, 102, 105]⟩]) (.int .i64 4)).run Tryz.prog wx = .ok (.string ⟨#[]⟩) wx := fun _ => by kernel_rfl
  go_enter Tryz.func93, Tryz.ntmps93
  go_wp2
  go_ret
  exact ⟨rfl, rfl⟩
theorem counts_4 (w : World) : Calls Tryz.prog 159 #[.int .i64 4] w (CntO w 4) := by
  go_enter Tryz.func159, Tryz.ntmps159
  go_wp2
  exact bodyPost_ret (v := .tuple #[.int .i64 2, .int .i64 1073741824, .int .i64 0, .int .i64 0]) (by simp [results, Tryz.results159, go_sem]) rfl ⟨rfl, rfl⟩
theorem uses_5 (w : World) : Calls Tryz.prog 93 #[.int .i64 5] w fun e w' => e = .returned (.string ⟨#[]⟩) ∧ w = w' := by
  have i1 : ∀ wx, (Instr.index 173 (.agg #[.string ⟨#[]⟩, .string ⟨#[]⟩, .string ⟨#[]⟩, .string ⟨#[]⟩, .string ⟨#[]⟩, .string ⟨#[]⟩, .string ⟨#[110]⟩, .string ⟨#[110, 115]⟩, .string ⟨#[110]⟩, .string ⟨#[110]⟩, .string ⟨#[110]⟩, .string ⟨#[110, 115, 119, 105, 109]⟩, .string ⟨#[110, 102, 115, 119, 105, 109]⟩, .string ⟨#[110, 115, 119, 109]⟩, .string ⟨#[110, 102, 105]⟩]) (.int .i64 5)).run Tryz.prog wx = .ok (.string ⟨#[]⟩) wx := fun _ => by kernel_rfl
  go_enter Tryz.func93, Tryz.ntmps93
  go_wp2
  go_ret
  exact ⟨rfl, rfl⟩
theorem counts_5 (w : World) : Calls Tryz.prog 159 #[.int .i64 5] w (CntO w 5) := by
  go_enter Tryz.func159, Tryz.ntmps159
  go_wp2
  exact bodyPost_ret (v := .tuple #[.int .i64 1, .int .i64 1, .int .i64 0, .int .i64 0]) (by simp [results, Tryz.results159, go_sem]) rfl ⟨rfl, rfl⟩
theorem uses_6 (w : World) : Calls Tryz.prog 93 #[.int .i64 6] w fun e w' => e = .returned (.string ⟨#[110]⟩) ∧ w = w' := by
  have i1 : ∀ wx, (Instr.index 173 (.agg #[.string ⟨#[]⟩, .string ⟨#[]⟩, .string ⟨#[]⟩, .string ⟨#[]⟩, .string ⟨#[]⟩, .string ⟨#[]⟩, .string ⟨#[110]⟩, .string ⟨#[110, 115]⟩, .string ⟨#[110]⟩, .string ⟨#[110]⟩, .string ⟨#[110]⟩, .string ⟨#[110, 115, 119, 105, 109]⟩, .string ⟨#[110, 102, 115, 119, 105, 109]⟩, .string ⟨#[110, 115, 119, 109]⟩, .string ⟨#[110, 102, 105]⟩]) (.int .i64 6)).run Tryz.prog wx = .ok (.string ⟨#[110]⟩) wx := fun _ => by kernel_rfl
  go_enter Tryz.func93, Tryz.ntmps93
  go_wp2
  go_ret
  exact ⟨rfl, rfl⟩
theorem counts_6 (w : World) : Calls Tryz.prog 159 #[.int .i64 6] w (CntO w 6) := by
  go_enter Tryz.func159, Tryz.ntmps159
  go_wp2
  exact bodyPost_ret (v := .tuple #[.int .i64 0, .int .i64 0, .int .i64 0, .int .i64 0]) (by simp [results, Tryz.results159, go_sem]) rfl ⟨rfl, rfl⟩
theorem uses_7 (w : World) : Calls Tryz.prog 93 #[.int .i64 7] w fun e w' => e = .returned (.string ⟨#[110, 115]⟩) ∧ w = w' := by
  have i1 : ∀ wx, (Instr.index 173 (.agg #[.string ⟨#[]⟩, .string ⟨#[]⟩, .string ⟨#[]⟩, .string ⟨#[]⟩, .string ⟨#[]⟩, .string ⟨#[]⟩, .string ⟨#[110]⟩, .string ⟨#[110, 115]⟩, .string ⟨#[110]⟩, .string ⟨#[110]⟩, .string ⟨#[110]⟩, .string ⟨#[110, 115, 119, 105, 109]⟩, .string ⟨#[110, 102, 115, 119, 105, 109]⟩, .string ⟨#[110, 115, 119, 109]⟩, .string ⟨#[110, 102, 105]⟩]) (.int .i64 7)).run Tryz.prog wx = .ok (.string ⟨#[110, 115]⟩) wx := fun _ => by kernel_rfl
  go_enter Tryz.func93, Tryz.ntmps93
  go_wp2
  go_ret
  exact ⟨rfl, rfl⟩
theorem counts_7 (w : World) : Calls Tryz.prog 159 #[.int .i64 7] w (CntO w 7) := by
  go_enter Tryz.func159, Tryz.ntmps159
  go_wp2
  exact bodyPost_ret (v := .tuple #[.int .i64 0, .int .i64 0, .int .i64 1, .int .i64 1]) (by simp [results, Tryz.results159, go_sem]) rfl ⟨rfl, rfl⟩
theorem uses_8 (w : World) : Calls Tryz.prog 93 #[.int .i64 8] w fun e w' => e = .returned (.string ⟨#[110]⟩) ∧ w = w' := by
  have i1 : ∀ wx, (Instr.index 173 (.agg #[.string ⟨#[]⟩, .string ⟨#[]⟩, .string ⟨#[]⟩, .string ⟨#[]⟩, .string ⟨#[]⟩, .string ⟨#[]⟩, .string ⟨#[110]⟩, .string ⟨#[110, 115]⟩, .string ⟨#[110]⟩, .string ⟨#[110]⟩, .string ⟨#[110]⟩, .string ⟨#[110, 115, 119, 105, 109]⟩, .string ⟨#[110, 102, 115, 119, 105, 109]⟩, .string ⟨#[110, 115, 119, 109]⟩, .string ⟨#[110, 102, 105]⟩]) (.int .i64 8)).run Tryz.prog wx = .ok (.string ⟨#[110]⟩) wx := fun _ => by kernel_rfl
  go_enter Tryz.func93, Tryz.ntmps93
  go_wp2
  go_ret
  exact ⟨rfl, rfl⟩
theorem counts_8 (w : World) : Calls Tryz.prog 159 #[.int .i64 8] w (CntO w 8) := by
  go_enter Tryz.func159, Tryz.ntmps159
  go_wp2
  exact bodyPost_ret (v := .tuple #[.int .i64 0, .int .i64 0, .int .i64 1, .int .i64 50]) (by simp [results, Tryz.results159, go_sem]) rfl ⟨rfl, rfl⟩
theorem uses_9 (w : World) : Calls Tryz.prog 93 #[.int .i64 9] w fun e w' => e = .returned (.string ⟨#[110]⟩) ∧ w = w' := by
  have i1 : ∀ wx, (Instr.index 173 (.agg #[.string ⟨#[]⟩, .string ⟨#[]⟩, .string ⟨#[]⟩, .string ⟨#[]⟩, .string ⟨#[]⟩, .string ⟨#[]⟩, .string ⟨#[110]⟩, .string ⟨#[110, 115]⟩, .string ⟨#[110]⟩, .string ⟨#[110]⟩, .string ⟨#[110]⟩, .string ⟨#[110, 115, 119, 105, 109]⟩, .string ⟨#[110, 102, 115, 119, 105, 109]⟩, .string ⟨#[110, 115, 119, 109]⟩, .string ⟨#[110, 102, 105]⟩]) (.int .i64 9)).run Tryz.prog wx = .ok (.string ⟨#[110]⟩) wx := fun _ => by kernel_rfl
  go_enter Tryz.func93, Tryz.ntmps93
  go_wp2
  go_ret
  exact ⟨rfl, rfl⟩
theorem counts_9 (w : World) : Calls Tryz.prog 159 #[.int .i64 9] w (CntO w 9) := by
  go_enter Tryz.func159, Tryz.ntmps159
  go_wp2
  exact bodyPost_ret (v := .tuple #[.int .i64 0, .int .i64 0, .int .i64 1, .int .i64 1]) (by simp [results, Tryz.results159, go_sem]) rfl ⟨rfl, rfl⟩
theorem uses_10 (w : World) : Calls Tryz.prog 93 #[.int .i64 10] w fun e w' => e = .returned (.string ⟨#[110]⟩) ∧ w = w' := by
  have i1 : ∀ wx, (Instr.index 173 (.agg #[.string ⟨#[]⟩, .string ⟨#[]⟩, .string ⟨#[]⟩, .string ⟨#[]⟩, .string ⟨#[]⟩, .string ⟨#[]⟩, .string ⟨#[110]⟩, .string ⟨#[110, 115]⟩, .string ⟨#[110]⟩, .string ⟨#[110]⟩, .string ⟨#[110]⟩, .string ⟨#[110, 115, 119, 105, 109]⟩, .string ⟨#[110, 102, 115, 119, 105, 109]⟩, .string ⟨#[110, 115, 119, 109]⟩, .string ⟨#[110, 102, 105]⟩]) (.int .i64 10)).run Tryz.prog wx = .ok (.string ⟨#[110]⟩) wx := fun _ => by kernel_rfl
  go_enter Tryz.func93, Tryz.ntmps93
  go_wp2
  go_ret
  exact ⟨rfl, rfl⟩
theorem counts_10 (w : World) : Calls Tryz.prog 159 #[.int .i64 10] w (CntO w 10) := by
  go_enter Tryz.func159, Tryz.ntmps159
  go_wp2
  exact bodyPost_ret (v := .tuple #[.int .i64 0, .int .i64 0, .int .i64 1, .int .i64 1]) (by simp [results, Tryz.results159, go_sem]) rfl ⟨rfl, rfl⟩
theorem uses_11 (w : World) : Calls Tryz.prog 93 #[.int .i64 11] w fun e w' => e = .returned (.string ⟨#[110, 115, 119, 105, 109]⟩) ∧ w = w' := by
  have i1 : ∀ wx, (Instr.index 173 (.agg #[.string ⟨#[]⟩, .string ⟨#[]⟩, .string ⟨#[]⟩, .string ⟨#[]⟩, .string ⟨#[]⟩, .string ⟨#[]⟩, .string ⟨#[110]⟩, .string ⟨#[110, 115]⟩, .string ⟨#[110]⟩, .string ⟨#[110]⟩, .string ⟨#[110]⟩, .string ⟨#[110, 115, 119, 105, 109]⟩, .string ⟨#[110, 102, 115, 119, 105, 109]⟩, .string ⟨#[110, 115, 119, 109]⟩, .string ⟨#[110, 102, 105]⟩]) (.int .i64 11)).run Tryz.prog wx = .ok (.string ⟨#[110, 115, 119, 105, 109]⟩) wx := fun _ => by kernel_rfl
  go_enter Tryz.func93, Tryz.ntmps93
  go_wp2
  go_ret
  exact ⟨rfl, rfl⟩
theorem counts_11 (w : World) : Calls Tryz.prog 159 #[.int .i64 11] w (CntO w 11) := by
  go_enter Tryz.func159, Tryz.ntmps159
  go_wp2
  exact bodyPost_ret (v := .tuple #[.int .i64 0, .int .i64 0, .int .i64 0, .int .i64 0]) (by simp [results, Tryz.results159, go_sem]) rfl ⟨rfl, rfl⟩
theorem uses_12 (w : World) : Calls Tryz.prog 93 #[.int .i64 12] w fun e w' => e = .returned (.string ⟨#[110, 102, 115, 119, 105, 109]⟩) ∧ w = w' := by
  have i1 : ∀ wx, (Instr.index 173 (.agg #[.string ⟨#[]⟩, .string ⟨#[]⟩, .string ⟨#[]⟩, .string ⟨#[]⟩, .string ⟨#[]⟩, .string ⟨#[]⟩, .string ⟨#[110]⟩, .string ⟨#[110, 115]⟩, .string ⟨#[110]⟩, .string ⟨#[110]⟩, .string ⟨#[110]⟩, .string ⟨#[110, 115, 119, 105, 109]⟩, .string ⟨#[110, 102, 115, 119, 105, 109]⟩, .string ⟨#[110, 115, 119, 109]⟩, .string ⟨#[110, 102, 105]⟩]) (.int .i64 12)).run Tryz.prog wx = .ok (.string ⟨#[110, 102, 115, 119, 105, 109]⟩) wx := fun _ => by kernel_rfl
  go_enter Tryz.func93, Tryz.ntmps93
  go_wp2
  go_ret
  exact ⟨rfl, rfl⟩
theorem counts_12 (w : World) : Calls Tryz.prog 159 #[.int .i64 12] w (CntO w 12) := by
  go_enter Tryz.func159, Tryz.ntmps159
  go_wp2
  exact bodyPost_ret (v := .tuple #[.int .i64 0, .int .i64 0, .int .i64 0, .int .i64 0]) (by simp [results, Tryz.results159, go_sem]) rfl ⟨rfl, rfl⟩
theorem uses_13 (w : World) : Calls Tryz.prog 93 #[.int .i64 13] w fun e w' => e = .returned (.string ⟨#[110, 115, 119, 109]⟩) ∧ w = w' := by
  have i1 : ∀ wx, (Instr.index 173 (.agg #[.string ⟨#[]⟩, .string ⟨#[]⟩, .string ⟨#[]⟩, .string ⟨#[]⟩, .string ⟨#[]⟩, .string ⟨#[]⟩, .string ⟨#[110]⟩, .string ⟨#[110, 115]⟩, .string ⟨#[110]⟩, .string ⟨#[110]⟩, .string ⟨#[110]⟩, .string ⟨#[110, 115, 119, 105, 109]⟩, .string ⟨#[110, 102, 115, 119, 105, 109]⟩, .string ⟨#[110, 115, 119, 109]⟩, .string ⟨#[110, 102, 105]⟩]) (.int .i64 13)).run Tryz.prog wx = .ok (.string ⟨#[110, 115, 119, 109]⟩) wx := fun _ => by kernel_rfl
  go_enter Tryz.func93, Tryz.ntmps93
  go_wp2
  go_ret
  exact ⟨rfl, rfl⟩
theorem counts_13 (w : World) : Calls Tryz.prog 159 #[.int .i64 13] w (CntO w 13) := by
  go_enter Tryz.func159, Tryz.ntmps159
  go_wp2
  exact bodyPost_ret (v := .tuple #[.int .i64 0, .int .i64 0, .int .i64 0, .int .i64 0]) (by simp [results, Tryz.results159, go_sem]) rfl ⟨rfl, rfl⟩
theorem uses_14 (w : World) : Calls Tryz.prog 93 #[.int .i64 14] w fun e w' => e = .returned (.string ⟨#[110, 102, 105]⟩) ∧ w = w' := by
  have i1 : ∀ wx, (Instr.index 173 (.agg #[.string ⟨#[]⟩, .string ⟨#[]⟩, .string ⟨#[]⟩, .string ⟨#[]⟩, .string ⟨#[]⟩, .string ⟨#[]⟩, .string ⟨#[110]⟩, .string ⟨#[110, 115]⟩, .string ⟨#[110]⟩, .string ⟨#[110]⟩, .string ⟨#[110]⟩, .string ⟨#[110, 115, 119, 105, 109]⟩, .string ⟨#[110, 102, 115, 119, 105, 109]⟩, .string ⟨#[110, 115, 119, 109]⟩, .string ⟨#[110, 102, 105]⟩]) (.int .i64 14)).run Tryz.prog wx = .ok (.string ⟨#[110, 102, 105]⟩) wx := fun _ => by kernel_rfl
  go_enter Tryz.func93, Tryz.ntmps93
  go_wp2
  go_ret
  exact ⟨rfl, rfl⟩
theorem counts_14 (w : World) : Calls Tryz.prog 159 #[.int .i64 14] w (CntO w 14) := by
  go_enter Tryz.func159, Tryz.ntmps159
  go_wp2
  exact bodyPost_ret (v := .tuple #[.int .i64 0, .int .i64 0, .int .i64 0, .int .i64 0]) (by simp [results, Tryz.results159, go_sem]) rfl ⟨rfl, rfl⟩
theorem uses_any (k : Int) (w : World) (h1 : 1 ≤ k) (h2 : k ≤ 14) : Calls Tryz.prog 93 #[.int .i64 k] w fun e w' => e = .returned (.string (usS k)) ∧ w = w' := by
  have : k = 1 ∨ k = 2 ∨ k = 3 ∨ k = 4 ∨ k = 5 ∨ k = 6 ∨ k = 7 ∨ k = 8 ∨ k = 9 ∨ k = 10 ∨ k = 11 ∨ k = 12 ∨ k = 13 ∨ k = 14 := by omega
  rcases this with rfl | rfl | rfl | rfl | rfl | rfl | rfl | rfl | rfl | rfl | rfl | rfl | rfl | rfl
  · exact uses_1 w
  · exact uses_2 w
  · exact uses_3 w
  · exact uses_4 w
  · exact uses_5 w
  · exact uses_6 w
  · exact uses_7 w
  · exact uses_8 w
  · exact uses_9 w
  · exact uses_10 w
  · exact uses_11 w
  · exact uses_12 w
  · exact uses_13 w
  · exact uses_14 w
end Go.Proofs.YtfdpfkdfglombaaGreatDoor
/- handref1.formFault (printed by gen_rfn.py). -/
set_option linter.unusedVariables false
namespace Go.Proofs.YtfdpfkdfglombaaGreatDoor
open Go.RowKit

theorem contains_one' (s : ByteArray) (c : UInt8) (b : Bool) (hb : decide (0 ≤ Lib.indexByte s.data.toList c) = b) (w : World) : Calls Tryz.prog 95 #[.string s, .string ⟨#[c]⟩] w fun e w' => e = .returned (.bool b) ∧ w = w' :=
  (Tryz.strings_Contains_one s c w).mono fun e w' h => ⟨by rw [h.1, hb], h.2.symm⟩
theorem lens_spell (nv na nw lo hi al ah hw : Nat) : (decide (lo ≤ nv ∧ nv ≤ hi) && decide (al ≤ na ∧ na ≤ ah) && decide (nw ≤ hw)) = !((((decide ((na : Int) < (al : Int)) || decide ((ah : Int) < (na : Int))) || decide ((nv : Int) < (lo : Int))) || decide ((hi : Int) < (nv : Int))) || decide ((hw : Int) < (nw : Int))) := by
  rw [Bool.eq_iff_iff]
  simp
  omega
set_option maxRecDepth 100000 in
set_option maxHeartbeats 4000000 in
theorem formF_1 (x : Nd) (na : Nat) (w : World) (hk : x.kind = 1) (hw : x.whs.length ≤ 1000) (hvn : x.vals.length ≤ 1000) (hna : na ≤ 1000) : Calls Tryz.prog 94 #[.agg #[.int .i64 x.kind, .string x.name, .string x.field, .string x.sign, .slice x.va x.vals.length x.vc, .slice x.wa x.whs.length x.wc, .int .i64 x.within, .int .i64 x.number, .slice x.aa na x.ac]] w (BoolO w (!frmB x na)) := by
  have HE := Lib.hid (show frmB x na = (!((!false && !x.name.toList.isEmpty) || (!false && !x.field.toList.isEmpty) || (!false && !x.sign.toList.isEmpty) || (!false && (x.within != 0)) || (!false && (x.number != 0))) && (decide (0 ≤ x.vals.length ∧ x.vals.length ≤ 0) && decide (0 ≤ na ∧ na ≤ 0) && decide (x.whs.length ≤ 0))) by rw [frm_spell, hk]; simp only [Bool.and_assoc]; rfl)
  rw [lens_spell] at HE
  generalize frmB x na = r at *
  have Cn := Lib.hid (fun w => contains_one' ⟨#[]⟩ 110 false (by decide +kernel) w)
  have Cf := Lib.hid (fun w => contains_one' ⟨#[]⟩ 102 false (by decide +kernel) w)
  have Cs := Lib.hid (fun w => contains_one' ⟨#[]⟩ 115 false (by decide +kernel) w)
  have Ci := Lib.hid (fun w => contains_one' ⟨#[]⟩ 105 false (by decide +kernel) w)
  have Cm := Lib.hid (fun w => contains_one' ⟨#[]⟩ 109 false (by decide +kernel) w)
  have Cw := Lib.hid (fun w => contains_one' ⟨#[]⟩ 119 false (by decide +kernel) w)
  have CU := Lib.hid (fun w => uses_1 w)
  have CC := Lib.hid (fun w => counts_1 w)
  unfold CntO at CC
  simp only [show loAs 1 = 0 from rfl, show hiAs 1 = 0 from rfl, show loVs 1 = 0 from rfl, show hiVs 1 = 0 from rfl] at CC
  obtain ⟨kind, name, field, sign, va, vc, vals, wa, wc, whs, within, number, aa, ac⟩ := x
  simp only at *
  generalize whs.length = nw at *
  generalize vals.length = nv at *
  subst hk
  have HB := Lib.hid ((Below.refl w.heap.size w).alloc (Nat.le_refl _) (.cells #[.int .i64 1, .string name, .string field, .string sign, .slice va nv vc, .slice wa nw wc, .int .i64 within, .int .i64 number, .slice aa na ac] 30))
  go_enter Tryz.func94, Tryz.ntmps94
  go_wp2_with fail
  with_reducible refine (CU.out _).mono ?_
  rintro e w1 ⟨rfl, rfl⟩
  go_wp2_with fail
  with_reducible refine (CC.out _).mono ?_
  rintro e w1 ⟨rfl, rfl⟩
  go_wp2_with fail
  iterate 6 (all_goals first | (with_reducible refine (Cn.out _).mono ?_; rintro e w1 ⟨rfl, rfl⟩; go_wp2_with fail) | (with_reducible refine (Cf.out _).mono ?_; rintro e w1 ⟨rfl, rfl⟩; go_wp2_with fail) | (with_reducible refine (Cs.out _).mono ?_; rintro e w1 ⟨rfl, rfl⟩; go_wp2_with fail) | (with_reducible refine (Ci.out _).mono ?_; rintro e w1 ⟨rfl, rfl⟩; go_wp2_with fail) | (with_reducible refine (Cm.out _).mono ?_; rintro e w1 ⟨rfl, rfl⟩; go_wp2_with fail) | (with_reducible refine (Cw.out _).mono ?_; rintro e w1 ⟨rfl, rfl⟩; go_wp2_with fail) | skip)
  all_goals
    go_ret
    refine ⟨ret_bool ?_, (Below.refl _ _).alloc (Nat.le_refl _) _⟩
    rw [HE.out]
    clear HE HB
    first | (simp [*]; done) | (simp [*]; omega) | skip
set_option maxRecDepth 100000 in
set_option maxHeartbeats 4000000 in
theorem formF_2 (x : Nd) (na : Nat) (w : World) (hk : x.kind = 2) (hw : x.whs.length ≤ 1000) (hvn : x.vals.length ≤ 1000) (hna : na ≤ 1000) : Calls Tryz.prog 94 #[.agg #[.int .i64 x.kind, .string x.name, .string x.field, .string x.sign, .slice x.va x.vals.length x.vc, .slice x.wa x.whs.length x.wc, .int .i64 x.within, .int .i64 x.number, .slice x.aa na x.ac]] w (BoolO w (!frmB x na)) := by
  have HE := Lib.hid (show frmB x na = (!((!false && !x.name.toList.isEmpty) || (!false && !x.field.toList.isEmpty) || (!false && !x.sign.toList.isEmpty) || (!false && (x.within != 0)) || (!false && (x.number != 0))) && (decide (0 ≤ x.vals.length ∧ x.vals.length ≤ 0) && decide (0 ≤ na ∧ na ≤ 0) && decide (x.whs.length ≤ 0))) by rw [frm_spell, hk]; simp only [Bool.and_assoc]; rfl)
  rw [lens_spell] at HE
  generalize frmB x na = r at *
  have Cn := Lib.hid (fun w => contains_one' ⟨#[]⟩ 110 false (by decide +kernel) w)
  have Cf := Lib.hid (fun w => contains_one' ⟨#[]⟩ 102 false (by decide +kernel) w)
  have Cs := Lib.hid (fun w => contains_one' ⟨#[]⟩ 115 false (by decide +kernel) w)
  have Ci := Lib.hid (fun w => contains_one' ⟨#[]⟩ 105 false (by decide +kernel) w)
  have Cm := Lib.hid (fun w => contains_one' ⟨#[]⟩ 109 false (by decide +kernel) w)
  have Cw := Lib.hid (fun w => contains_one' ⟨#[]⟩ 119 false (by decide +kernel) w)
  have CU := Lib.hid (fun w => uses_2 w)
  have CC := Lib.hid (fun w => counts_2 w)
  unfold CntO at CC
  simp only [show loAs 2 = 0 from rfl, show hiAs 2 = 0 from rfl, show loVs 2 = 0 from rfl, show hiVs 2 = 0 from rfl] at CC
  obtain ⟨kind, name, field, sign, va, vc, vals, wa, wc, whs, within, number, aa, ac⟩ := x
  simp only at *
  generalize whs.length = nw at *
  generalize vals.length = nv at *
  subst hk
  have HB := Lib.hid ((Below.refl w.heap.size w).alloc (Nat.le_refl _) (.cells #[.int .i64 2, .string name, .string field, .string sign, .slice va nv vc, .slice wa nw wc, .int .i64 within, .int .i64 number, .slice aa na ac] 30))
  go_enter Tryz.func94, Tryz.ntmps94
  go_wp2_with fail
  with_reducible refine (CU.out _).mono ?_
  rintro e w1 ⟨rfl, rfl⟩
  go_wp2_with fail
  with_reducible refine (CC.out _).mono ?_
  rintro e w1 ⟨rfl, rfl⟩
  go_wp2_with fail
  iterate 6 (all_goals first | (with_reducible refine (Cn.out _).mono ?_; rintro e w1 ⟨rfl, rfl⟩; go_wp2_with fail) | (with_reducible refine (Cf.out _).mono ?_; rintro e w1 ⟨rfl, rfl⟩; go_wp2_with fail) | (with_reducible refine (Cs.out _).mono ?_; rintro e w1 ⟨rfl, rfl⟩; go_wp2_with fail) | (with_reducible refine (Ci.out _).mono ?_; rintro e w1 ⟨rfl, rfl⟩; go_wp2_with fail) | (with_reducible refine (Cm.out _).mono ?_; rintro e w1 ⟨rfl, rfl⟩; go_wp2_with fail) | (with_reducible refine (Cw.out _).mono ?_; rintro e w1 ⟨rfl, rfl⟩; go_wp2_with fail) | skip)
  all_goals
    go_ret
    refine ⟨ret_bool ?_, (Below.refl _ _).alloc (Nat.le_refl _) _⟩
    rw [HE.out]
    clear HE HB
    first | (simp [*]; done) | (simp [*]; omega) | skip
set_option maxRecDepth 100000 in
set_option maxHeartbeats 4000000 in
theorem formF_3 (x : Nd) (na : Nat) (w : World) (hk : x.kind = 3) (hw : x.whs.length ≤ 1000) (hvn : x.vals.length ≤ 1000) (hna : na ≤ 1000) : Calls Tryz.prog 94 #[.agg #[.int .i64 x.kind, .string x.name, .string x.field, .string x.sign, .slice x.va x.vals.length x.vc, .slice x.wa x.whs.length x.wc, .int .i64 x.within, .int .i64 x.number, .slice x.aa na x.ac]] w (BoolO w (!frmB x na)) := by
  have HE := Lib.hid (show frmB x na = (!((!false && !x.name.toList.isEmpty) || (!false && !x.field.toList.isEmpty) || (!false && !x.sign.toList.isEmpty) || (!false && (x.within != 0)) || (!false && (x.number != 0))) && (decide (0 ≤ x.vals.length ∧ x.vals.length ≤ 0) && decide (2 ≤ na ∧ na ≤ 1073741824) && decide (x.whs.length ≤ 0))) by rw [frm_spell, hk]; simp only [Bool.and_assoc]; rfl)
  rw [lens_spell] at HE
  generalize frmB x na = r at *
  have Cn := Lib.hid (fun w => contains_one' ⟨#[]⟩ 110 false (by decide +kernel) w)
  have Cf := Lib.hid (fun w => contains_one' ⟨#[]⟩ 102 false (by decide +kernel) w)
  have Cs := Lib.hid (fun w => contains_one' ⟨#[]⟩ 115 false (by decide +kernel) w)
  have Ci := Lib.hid (fun w => contains_one' ⟨#[]⟩ 105 false (by decide +kernel) w)
  have Cm := Lib.hid (fun w => contains_one' ⟨#[]⟩ 109 false (by decide +kernel) w)
  have Cw := Lib.hid (fun w => contains_one' ⟨#[]⟩ 119 false (by decide +kernel) w)
  have CU := Lib.hid (fun w => uses_3 w)
  have CC := Lib.hid (fun w => counts_3 w)
  unfold CntO at CC
  simp only [show loAs 3 = 2 from rfl, show hiAs 3 = 1073741824 from rfl, show loVs 3 = 0 from rfl, show hiVs 3 = 0 from rfl] at CC
  obtain ⟨kind, name, field, sign, va, vc, vals, wa, wc, whs, within, number, aa, ac⟩ := x
  simp only at *
  generalize whs.length = nw at *
  generalize vals.length = nv at *
  subst hk
  have HB := Lib.hid ((Below.refl w.heap.size w).alloc (Nat.le_refl _) (.cells #[.int .i64 3, .string name, .string field, .string sign, .slice va nv vc, .slice wa nw wc, .int .i64 within, .int .i64 number, .slice aa na ac] 30))
  go_enter Tryz.func94, Tryz.ntmps94
  go_wp2_with fail
  with_reducible refine (CU.out _).mono ?_
  rintro e w1 ⟨rfl, rfl⟩
  go_wp2_with fail
  with_reducible refine (CC.out _).mono ?_
  rintro e w1 ⟨rfl, rfl⟩
  go_wp2_with fail
  iterate 6 (all_goals first | (with_reducible refine (Cn.out _).mono ?_; rintro e w1 ⟨rfl, rfl⟩; go_wp2_with fail) | (with_reducible refine (Cf.out _).mono ?_; rintro e w1 ⟨rfl, rfl⟩; go_wp2_with fail) | (with_reducible refine (Cs.out _).mono ?_; rintro e w1 ⟨rfl, rfl⟩; go_wp2_with fail) | (with_reducible refine (Ci.out _).mono ?_; rintro e w1 ⟨rfl, rfl⟩; go_wp2_with fail) | (with_reducible refine (Cm.out _).mono ?_; rintro e w1 ⟨rfl, rfl⟩; go_wp2_with fail) | (with_reducible refine (Cw.out _).mono ?_; rintro e w1 ⟨rfl, rfl⟩; go_wp2_with fail) | skip)
  all_goals
    go_ret
    refine ⟨ret_bool ?_, (Below.refl _ _).alloc (Nat.le_refl _) _⟩
    rw [HE.out]
    clear HE HB
    first | (simp [*]; done) | (simp [*]; omega) | skip
set_option maxRecDepth 100000 in
set_option maxHeartbeats 4000000 in
theorem formF_4 (x : Nd) (na : Nat) (w : World) (hk : x.kind = 4) (hw : x.whs.length ≤ 1000) (hvn : x.vals.length ≤ 1000) (hna : na ≤ 1000) : Calls Tryz.prog 94 #[.agg #[.int .i64 x.kind, .string x.name, .string x.field, .string x.sign, .slice x.va x.vals.length x.vc, .slice x.wa x.whs.length x.wc, .int .i64 x.within, .int .i64 x.number, .slice x.aa na x.ac]] w (BoolO w (!frmB x na)) := by
  have HE := Lib.hid (show frmB x na = (!((!false && !x.name.toList.isEmpty) || (!false && !x.field.toList.isEmpty) || (!false && !x.sign.toList.isEmpty) || (!false && (x.within != 0)) || (!false && (x.number != 0))) && (decide (0 ≤ x.vals.length ∧ x.vals.length ≤ 0) && decide (2 ≤ na ∧ na ≤ 1073741824) && decide (x.whs.length ≤ 0))) by rw [frm_spell, hk]; simp only [Bool.and_assoc]; rfl)
  rw [lens_spell] at HE
  generalize frmB x na = r at *
  have Cn := Lib.hid (fun w => contains_one' ⟨#[]⟩ 110 false (by decide +kernel) w)
  have Cf := Lib.hid (fun w => contains_one' ⟨#[]⟩ 102 false (by decide +kernel) w)
  have Cs := Lib.hid (fun w => contains_one' ⟨#[]⟩ 115 false (by decide +kernel) w)
  have Ci := Lib.hid (fun w => contains_one' ⟨#[]⟩ 105 false (by decide +kernel) w)
  have Cm := Lib.hid (fun w => contains_one' ⟨#[]⟩ 109 false (by decide +kernel) w)
  have Cw := Lib.hid (fun w => contains_one' ⟨#[]⟩ 119 false (by decide +kernel) w)
  have CU := Lib.hid (fun w => uses_4 w)
  have CC := Lib.hid (fun w => counts_4 w)
  unfold CntO at CC
  simp only [show loAs 4 = 2 from rfl, show hiAs 4 = 1073741824 from rfl, show loVs 4 = 0 from rfl, show hiVs 4 = 0 from rfl] at CC
  obtain ⟨kind, name, field, sign, va, vc, vals, wa, wc, whs, within, number, aa, ac⟩ := x
  simp only at *
  generalize whs.length = nw at *
  generalize vals.length = nv at *
  subst hk
  have HB := Lib.hid ((Below.refl w.heap.size w).alloc (Nat.le_refl _) (.cells #[.int .i64 4, .string name, .string field, .string sign, .slice va nv vc, .slice wa nw wc, .int .i64 within, .int .i64 number, .slice aa na ac] 30))
  go_enter Tryz.func94, Tryz.ntmps94
  go_wp2_with fail
  with_reducible refine (CU.out _).mono ?_
  rintro e w1 ⟨rfl, rfl⟩
  go_wp2_with fail
  with_reducible refine (CC.out _).mono ?_
  rintro e w1 ⟨rfl, rfl⟩
  go_wp2_with fail
  iterate 6 (all_goals first | (with_reducible refine (Cn.out _).mono ?_; rintro e w1 ⟨rfl, rfl⟩; go_wp2_with fail) | (with_reducible refine (Cf.out _).mono ?_; rintro e w1 ⟨rfl, rfl⟩; go_wp2_with fail) | (with_reducible refine (Cs.out _).mono ?_; rintro e w1 ⟨rfl, rfl⟩; go_wp2_with fail) | (with_reducible refine (Ci.out _).mono ?_; rintro e w1 ⟨rfl, rfl⟩; go_wp2_with fail) | (with_reducible refine (Cm.out _).mono ?_; rintro e w1 ⟨rfl, rfl⟩; go_wp2_with fail) | (with_reducible refine (Cw.out _).mono ?_; rintro e w1 ⟨rfl, rfl⟩; go_wp2_with fail) | skip)
  all_goals
    go_ret
    refine ⟨ret_bool ?_, (Below.refl _ _).alloc (Nat.le_refl _) _⟩
    rw [HE.out]
    clear HE HB
    first | (simp [*]; done) | (simp [*]; omega) | skip
set_option maxRecDepth 100000 in
set_option maxHeartbeats 4000000 in
theorem formF_5 (x : Nd) (na : Nat) (w : World) (hk : x.kind = 5) (hw : x.whs.length ≤ 1000) (hvn : x.vals.length ≤ 1000) (hna : na ≤ 1000) : Calls Tryz.prog 94 #[.agg #[.int .i64 x.kind, .string x.name, .string x.field, .string x.sign, .slice x.va x.vals.length x.vc, .slice x.wa x.whs.length x.wc, .int .i64 x.within, .int .i64 x.number, .slice x.aa na x.ac]] w (BoolO w (!frmB x na)) := by
  have HE := Lib.hid (show frmB x na = (!((!false && !x.name.toList.isEmpty) || (!false && !x.field.toList.isEmpty) || (!false && !x.sign.toList.isEmpty) || (!false && (x.within != 0)) || (!false && (x.number != 0))) && (decide (0 ≤ x.vals.length ∧ x.vals.length ≤ 0) && decide (1 ≤ na ∧ na ≤ 1) && decide (x.whs.length ≤ 0))) by rw [frm_spell, hk]; simp only [Bool.and_assoc]; rfl)
  rw [lens_spell] at HE
  generalize frmB x na = r at *
  have Cn := Lib.hid (fun w => contains_one' ⟨#[]⟩ 110 false (by decide +kernel) w)
  have Cf := Lib.hid (fun w => contains_one' ⟨#[]⟩ 102 false (by decide +kernel) w)
  have Cs := Lib.hid (fun w => contains_one' ⟨#[]⟩ 115 false (by decide +kernel) w)
  have Ci := Lib.hid (fun w => contains_one' ⟨#[]⟩ 105 false (by decide +kernel) w)
  have Cm := Lib.hid (fun w => contains_one' ⟨#[]⟩ 109 false (by decide +kernel) w)
  have Cw := Lib.hid (fun w => contains_one' ⟨#[]⟩ 119 false (by decide +kernel) w)
  have CU := Lib.hid (fun w => uses_5 w)
  have CC := Lib.hid (fun w => counts_5 w)
  unfold CntO at CC
  simp only [show loAs 5 = 1 from rfl, show hiAs 5 = 1 from rfl, show loVs 5 = 0 from rfl, show hiVs 5 = 0 from rfl] at CC
  obtain ⟨kind, name, field, sign, va, vc, vals, wa, wc, whs, within, number, aa, ac⟩ := x
  simp only at *
  generalize whs.length = nw at *
  generalize vals.length = nv at *
  subst hk
  have HB := Lib.hid ((Below.refl w.heap.size w).alloc (Nat.le_refl _) (.cells #[.int .i64 5, .string name, .string field, .string sign, .slice va nv vc, .slice wa nw wc, .int .i64 within, .int .i64 number, .slice aa na ac] 30))
  go_enter Tryz.func94, Tryz.ntmps94
  go_wp2_with fail
  with_reducible refine (CU.out _).mono ?_
  rintro e w1 ⟨rfl, rfl⟩
  go_wp2_with fail
  with_reducible refine (CC.out _).mono ?_
  rintro e w1 ⟨rfl, rfl⟩
  go_wp2_with fail
  iterate 6 (all_goals first | (with_reducible refine (Cn.out _).mono ?_; rintro e w1 ⟨rfl, rfl⟩; go_wp2_with fail) | (with_reducible refine (Cf.out _).mono ?_; rintro e w1 ⟨rfl, rfl⟩; go_wp2_with fail) | (with_reducible refine (Cs.out _).mono ?_; rintro e w1 ⟨rfl, rfl⟩; go_wp2_with fail) | (with_reducible refine (Ci.out _).mono ?_; rintro e w1 ⟨rfl, rfl⟩; go_wp2_with fail) | (with_reducible refine (Cm.out _).mono ?_; rintro e w1 ⟨rfl, rfl⟩; go_wp2_with fail) | (with_reducible refine (Cw.out _).mono ?_; rintro e w1 ⟨rfl, rfl⟩; go_wp2_with fail) | skip)
  all_goals
    go_ret
    refine ⟨ret_bool ?_, (Below.refl _ _).alloc (Nat.le_refl _) _⟩
    rw [HE.out]
    clear HE HB
    first | (simp [*]; done) | (simp [*]; omega) | skip
set_option maxRecDepth 100000 in
set_option maxHeartbeats 4000000 in
theorem formF_6 (x : Nd) (na : Nat) (w : World) (hk : x.kind = 6) (hw : x.whs.length ≤ 1000) (hvn : x.vals.length ≤ 1000) (hna : na ≤ 1000) : Calls Tryz.prog 94 #[.agg #[.int .i64 x.kind, .string x.name, .string x.field, .string x.sign, .slice x.va x.vals.length x.vc, .slice x.wa x.whs.length x.wc, .int .i64 x.within, .int .i64 x.number, .slice x.aa na x.ac]] w (BoolO w (!frmB x na)) := by
  have HE := Lib.hid (show frmB x na = (!((!true && !x.name.toList.isEmpty) || (!false && !x.field.toList.isEmpty) || (!false && !x.sign.toList.isEmpty) || (!false && (x.within != 0)) || (!false && (x.number != 0))) && (decide (0 ≤ x.vals.length ∧ x.vals.length ≤ 0) && decide (0 ≤ na ∧ na ≤ 0) && decide (x.whs.length ≤ 0))) by rw [frm_spell, hk]; simp only [Bool.and_assoc]; rfl)
  rw [lens_spell] at HE
  generalize frmB x na = r at *
  have Cn := Lib.hid (fun w => contains_one' ⟨#[110]⟩ 110 true (by decide +kernel) w)
  have Cf := Lib.hid (fun w => contains_one' ⟨#[110]⟩ 102 false (by decide +kernel) w)
  have Cs := Lib.hid (fun w => contains_one' ⟨#[110]⟩ 115 false (by decide +kernel) w)
  have Ci := Lib.hid (fun w => contains_one' ⟨#[110]⟩ 105 false (by decide +kernel) w)
  have Cm := Lib.hid (fun w => contains_one' ⟨#[110]⟩ 109 false (by decide +kernel) w)
  have Cw := Lib.hid (fun w => contains_one' ⟨#[110]⟩ 119 false (by decide +kernel) w)
  have CU := Lib.hid (fun w => uses_6 w)
  have CC := Lib.hid (fun w => counts_6 w)
  unfold CntO at CC
  simp only [show loAs 6 = 0 from rfl, show hiAs 6 = 0 from rfl, show loVs 6 = 0 from rfl, show hiVs 6 = 0 from rfl] at CC
  obtain ⟨kind, name, field, sign, va, vc, vals, wa, wc, whs, within, number, aa, ac⟩ := x
  simp only at *
  generalize whs.length = nw at *
  generalize vals.length = nv at *
  subst hk
  have HB := Lib.hid ((Below.refl w.heap.size w).alloc (Nat.le_refl _) (.cells #[.int .i64 6, .string name, .string field, .string sign, .slice va nv vc, .slice wa nw wc, .int .i64 within, .int .i64 number, .slice aa na ac] 30))
  go_enter Tryz.func94, Tryz.ntmps94
  go_wp2_with fail
  with_reducible refine (CU.out _).mono ?_
  rintro e w1 ⟨rfl, rfl⟩
  go_wp2_with fail
  with_reducible refine (CC.out _).mono ?_
  rintro e w1 ⟨rfl, rfl⟩
  go_wp2_with fail
  iterate 6 (all_goals first | (with_reducible refine (Cn.out _).mono ?_; rintro e w1 ⟨rfl, rfl⟩; go_wp2_with fail) | (with_reducible refine (Cf.out _).mono ?_; rintro e w1 ⟨rfl, rfl⟩; go_wp2_with fail) | (with_reducible refine (Cs.out _).mono ?_; rintro e w1 ⟨rfl, rfl⟩; go_wp2_with fail) | (with_reducible refine (Ci.out _).mono ?_; rintro e w1 ⟨rfl, rfl⟩; go_wp2_with fail) | (with_reducible refine (Cm.out _).mono ?_; rintro e w1 ⟨rfl, rfl⟩; go_wp2_with fail) | (with_reducible refine (Cw.out _).mono ?_; rintro e w1 ⟨rfl, rfl⟩; go_wp2_with fail) | skip)
  all_goals
    go_ret
    refine ⟨ret_bool ?_, (Below.refl _ _).alloc (Nat.le_refl _) _⟩
    rw [HE.out]
    clear HE HB
    first | (simp [*]; done) | (simp [*]; omega) | skip
set_option maxRecDepth 100000 in
set_option maxHeartbeats 4000000 in
theorem formF_7 (x : Nd) (na : Nat) (w : World) (hk : x.kind = 7) (hw : x.whs.length ≤ 1000) (hvn : x.vals.length ≤ 1000) (hna : na ≤ 1000) : Calls Tryz.prog 94 #[.agg #[.int .i64 x.kind, .string x.name, .string x.field, .string x.sign, .slice x.va x.vals.length x.vc, .slice x.wa x.whs.length x.wc, .int .i64 x.within, .int .i64 x.number, .slice x.aa na x.ac]] w (BoolO w (!frmB x na)) := by
  have HE := Lib.hid (show frmB x na = (!((!true && !x.name.toList.isEmpty) || (!false && !x.field.toList.isEmpty) || (!true && !x.sign.toList.isEmpty) || (!false && (x.within != 0)) || (!false && (x.number != 0))) && (decide (1 ≤ x.vals.length ∧ x.vals.length ≤ 1) && decide (0 ≤ na ∧ na ≤ 0) && decide (x.whs.length ≤ 0))) by rw [frm_spell, hk]; simp only [Bool.and_assoc]; rfl)
  rw [lens_spell] at HE
  generalize frmB x na = r at *
  have Cn := Lib.hid (fun w => contains_one' ⟨#[110, 115]⟩ 110 true (by decide +kernel) w)
  have Cf := Lib.hid (fun w => contains_one' ⟨#[110, 115]⟩ 102 false (by decide +kernel) w)
  have Cs := Lib.hid (fun w => contains_one' ⟨#[110, 115]⟩ 115 true (by decide +kernel) w)
  have Ci := Lib.hid (fun w => contains_one' ⟨#[110, 115]⟩ 105 false (by decide +kernel) w)
  have Cm := Lib.hid (fun w => contains_one' ⟨#[110, 115]⟩ 109 false (by decide +kernel) w)
  have Cw := Lib.hid (fun w => contains_one' ⟨#[110, 115]⟩ 119 false (by decide +kernel) w)
  have CU := Lib.hid (fun w => uses_7 w)
  have CC := Lib.hid (fun w => counts_7 w)
  unfold CntO at CC
  simp only [show loAs 7 = 0 from rfl, show hiAs 7 = 0 from rfl, show loVs 7 = 1 from rfl, show hiVs 7 = 1 from rfl] at CC
  obtain ⟨kind, name, field, sign, va, vc, vals, wa, wc, whs, within, number, aa, ac⟩ := x
  simp only at *
  generalize whs.length = nw at *
  generalize vals.length = nv at *
  subst hk
  have HB := Lib.hid ((Below.refl w.heap.size w).alloc (Nat.le_refl _) (.cells #[.int .i64 7, .string name, .string field, .string sign, .slice va nv vc, .slice wa nw wc, .int .i64 within, .int .i64 number, .slice aa na ac] 30))
  go_enter Tryz.func94, Tryz.ntmps94
  go_wp2_with fail
  with_reducible refine (CU.out _).mono ?_
  rintro e w1 ⟨rfl, rfl⟩
  go_wp2_with fail
  with_reducible refine (CC.out _).mono ?_
  rintro e w1 ⟨rfl, rfl⟩
  go_wp2_with fail
  iterate 6 (all_goals first | (with_reducible refine (Cn.out _).mono ?_; rintro e w1 ⟨rfl, rfl⟩; go_wp2_with fail) | (with_reducible refine (Cf.out _).mono ?_; rintro e w1 ⟨rfl, rfl⟩; go_wp2_with fail) | (with_reducible refine (Cs.out _).mono ?_; rintro e w1 ⟨rfl, rfl⟩; go_wp2_with fail) | (with_reducible refine (Ci.out _).mono ?_; rintro e w1 ⟨rfl, rfl⟩; go_wp2_with fail) | (with_reducible refine (Cm.out _).mono ?_; rintro e w1 ⟨rfl, rfl⟩; go_wp2_with fail) | (with_reducible refine (Cw.out _).mono ?_; rintro e w1 ⟨rfl, rfl⟩; go_wp2_with fail) | skip)
  all_goals
    go_ret
    refine ⟨ret_bool ?_, (Below.refl _ _).alloc (Nat.le_refl _) _⟩
    rw [HE.out]
    clear HE HB
    first | (simp [*]; done) | (simp [*]; omega) | skip
end Go.Proofs.YtfdpfkdfglombaaGreatDoor
/- handref1.formFault (printed by gen_rfn.py). -/
set_option linter.unusedVariables false
namespace Go.Proofs.YtfdpfkdfglombaaGreatDoor
open Go.RowKit

set_option maxRecDepth 100000 in
set_option maxHeartbeats 4000000 in
theorem formF_8 (x : Nd) (na : Nat) (w : World) (hk : x.kind = 8) (hw : x.whs.length ≤ 1000) (hvn : x.vals.length ≤ 1000) (hna : na ≤ 1000) : Calls Tryz.prog 94 #[.agg #[.int .i64 x.kind, .string x.name, .string x.field, .string x.sign, .slice x.va x.vals.length x.vc, .slice x.wa x.whs.length x.wc, .int .i64 x.within, .int .i64 x.number, .slice x.aa na x.ac]] w (BoolO w (!frmB x na)) := by
  have HE := Lib.hid (show frmB x na = (!((!true && !x.name.toList.isEmpty) || (!false && !x.field.toList.isEmpty) || (!false && !x.sign.toList.isEmpty) || (!false && (x.within != 0)) || (!false && (x.number != 0))) && (decide (1 ≤ x.vals.length ∧ x.vals.length ≤ 50) && decide (0 ≤ na ∧ na ≤ 0) && decide (x.whs.length ≤ 0))) by rw [frm_spell, hk]; simp only [Bool.and_assoc]; rfl)
  rw [lens_spell] at HE
  generalize frmB x na = r at *
  have Cn := Lib.hid (fun w => contains_one' ⟨#[110]⟩ 110 true (by decide +kernel) w)
  have Cf := Lib.hid (fun w => contains_one' ⟨#[110]⟩ 102 false (by decide +kernel) w)
  have Cs := Lib.hid (fun w => contains_one' ⟨#[110]⟩ 115 false (by decide +kernel) w)
  have Ci := Lib.hid (fun w => contains_one' ⟨#[110]⟩ 105 false (by decide +kernel) w)
  have Cm := Lib.hid (fun w => contains_one' ⟨#[110]⟩ 109 false (by decide +kernel) w)
  have Cw := Lib.hid (fun w => contains_one' ⟨#[110]⟩ 119 false (by decide +kernel) w)
  have CU := Lib.hid (fun w => uses_8 w)
  have CC := Lib.hid (fun w => counts_8 w)
  unfold CntO at CC
  simp only [show loAs 8 = 0 from rfl, show hiAs 8 = 0 from rfl, show loVs 8 = 1 from rfl, show hiVs 8 = 50 from rfl] at CC
  obtain ⟨kind, name, field, sign, va, vc, vals, wa, wc, whs, within, number, aa, ac⟩ := x
  simp only at *
  generalize whs.length = nw at *
  generalize vals.length = nv at *
  subst hk
  have HB := Lib.hid ((Below.refl w.heap.size w).alloc (Nat.le_refl _) (.cells #[.int .i64 8, .string name, .string field, .string sign, .slice va nv vc, .slice wa nw wc, .int .i64 within, .int .i64 number, .slice aa na ac] 30))
  go_enter Tryz.func94, Tryz.ntmps94
  go_wp2_with fail
  with_reducible refine (CU.out _).mono ?_
  rintro e w1 ⟨rfl, rfl⟩
  go_wp2_with fail
  with_reducible refine (CC.out _).mono ?_
  rintro e w1 ⟨rfl, rfl⟩
  go_wp2_with fail
  iterate 6 (all_goals first | (with_reducible refine (Cn.out _).mono ?_; rintro e w1 ⟨rfl, rfl⟩; go_wp2_with fail) | (with_reducible refine (Cf.out _).mono ?_; rintro e w1 ⟨rfl, rfl⟩; go_wp2_with fail) | (with_reducible refine (Cs.out _).mono ?_; rintro e w1 ⟨rfl, rfl⟩; go_wp2_with fail) | (with_reducible refine (Ci.out _).mono ?_; rintro e w1 ⟨rfl, rfl⟩; go_wp2_with fail) | (with_reducible refine (Cm.out _).mono ?_; rintro e w1 ⟨rfl, rfl⟩; go_wp2_with fail) | (with_reducible refine (Cw.out _).mono ?_; rintro e w1 ⟨rfl, rfl⟩; go_wp2_with fail) | skip)
  all_goals
    go_ret
    refine ⟨ret_bool ?_, (Below.refl _ _).alloc (Nat.le_refl _) _⟩
    rw [HE.out]
    clear HE HB
    first | (simp [*]; done) | (simp [*]; omega) | skip
set_option maxRecDepth 100000 in
set_option maxHeartbeats 4000000 in
theorem formF_9 (x : Nd) (na : Nat) (w : World) (hk : x.kind = 9) (hw : x.whs.length ≤ 1000) (hvn : x.vals.length ≤ 1000) (hna : na ≤ 1000) : Calls Tryz.prog 94 #[.agg #[.int .i64 x.kind, .string x.name, .string x.field, .string x.sign, .slice x.va x.vals.length x.vc, .slice x.wa x.whs.length x.wc, .int .i64 x.within, .int .i64 x.number, .slice x.aa na x.ac]] w (BoolO w (!frmB x na)) := by
  have HE := Lib.hid (show frmB x na = (!((!true && !x.name.toList.isEmpty) || (!false && !x.field.toList.isEmpty) || (!false && !x.sign.toList.isEmpty) || (!false && (x.within != 0)) || (!false && (x.number != 0))) && (decide (1 ≤ x.vals.length ∧ x.vals.length ≤ 1) && decide (0 ≤ na ∧ na ≤ 0) && decide (x.whs.length ≤ 0))) by rw [frm_spell, hk]; simp only [Bool.and_assoc]; rfl)
  rw [lens_spell] at HE
  generalize frmB x na = r at *
  have Cn := Lib.hid (fun w => contains_one' ⟨#[110]⟩ 110 true (by decide +kernel) w)
  have Cf := Lib.hid (fun w => contains_one' ⟨#[110]⟩ 102 false (by decide +kernel) w)
  have Cs := Lib.hid (fun w => contains_one' ⟨#[110]⟩ 115 false (by decide +kernel) w)
  have Ci := Lib.hid (fun w => contains_one' ⟨#[110]⟩ 105 false (by decide +kernel) w)
  have Cm := Lib.hid (fun w => contains_one' ⟨#[110]⟩ 109 false (by decide +kernel) w)
  have Cw := Lib.hid (fun w => contains_one' ⟨#[110]⟩ 119 false (by decide +kernel) w)
  have CU := Lib.hid (fun w => uses_9 w)
  have CC := Lib.hid (fun w => counts_9 w)
  unfold CntO at CC
  simp only [show loAs 9 = 0 from rfl, show hiAs 9 = 0 from rfl, show loVs 9 = 1 from rfl, show hiVs 9 = 1 from rfl] at CC
  obtain ⟨kind, name, field, sign, va, vc, vals, wa, wc, whs, within, number, aa, ac⟩ := x
  simp only at *
  generalize whs.length = nw at *
  generalize vals.length = nv at *
  subst hk
  have HB := Lib.hid ((Below.refl w.heap.size w).alloc (Nat.le_refl _) (.cells #[.int .i64 9, .string name, .string field, .string sign, .slice va nv vc, .slice wa nw wc, .int .i64 within, .int .i64 number, .slice aa na ac] 30))
  go_enter Tryz.func94, Tryz.ntmps94
  go_wp2_with fail
  with_reducible refine (CU.out _).mono ?_
  rintro e w1 ⟨rfl, rfl⟩
  go_wp2_with fail
  with_reducible refine (CC.out _).mono ?_
  rintro e w1 ⟨rfl, rfl⟩
  go_wp2_with fail
  iterate 6 (all_goals first | (with_reducible refine (Cn.out _).mono ?_; rintro e w1 ⟨rfl, rfl⟩; go_wp2_with fail) | (with_reducible refine (Cf.out _).mono ?_; rintro e w1 ⟨rfl, rfl⟩; go_wp2_with fail) | (with_reducible refine (Cs.out _).mono ?_; rintro e w1 ⟨rfl, rfl⟩; go_wp2_with fail) | (with_reducible refine (Ci.out _).mono ?_; rintro e w1 ⟨rfl, rfl⟩; go_wp2_with fail) | (with_reducible refine (Cm.out _).mono ?_; rintro e w1 ⟨rfl, rfl⟩; go_wp2_with fail) | (with_reducible refine (Cw.out _).mono ?_; rintro e w1 ⟨rfl, rfl⟩; go_wp2_with fail) | skip)
  all_goals
    go_ret
    refine ⟨ret_bool ?_, (Below.refl _ _).alloc (Nat.le_refl _) _⟩
    rw [HE.out]
    clear HE HB
    first | (simp [*]; done) | (simp [*]; omega) | skip
set_option maxRecDepth 100000 in
set_option maxHeartbeats 4000000 in
theorem formF_10 (x : Nd) (na : Nat) (w : World) (hk : x.kind = 10) (hw : x.whs.length ≤ 1000) (hvn : x.vals.length ≤ 1000) (hna : na ≤ 1000) : Calls Tryz.prog 94 #[.agg #[.int .i64 x.kind, .string x.name, .string x.field, .string x.sign, .slice x.va x.vals.length x.vc, .slice x.wa x.whs.length x.wc, .int .i64 x.within, .int .i64 x.number, .slice x.aa na x.ac]] w (BoolO w (!frmB x na)) := by
  have HE := Lib.hid (show frmB x na = (!((!true && !x.name.toList.isEmpty) || (!false && !x.field.toList.isEmpty) || (!false && !x.sign.toList.isEmpty) || (!false && (x.within != 0)) || (!false && (x.number != 0))) && (decide (1 ≤ x.vals.length ∧ x.vals.length ≤ 1) && decide (0 ≤ na ∧ na ≤ 0) && decide (x.whs.length ≤ 0))) by rw [frm_spell, hk]; simp only [Bool.and_assoc]; rfl)
  rw [lens_spell] at HE
  generalize frmB x na = r at *
  have Cn := Lib.hid (fun w => contains_one' ⟨#[110]⟩ 110 true (by decide +kernel) w)
  have Cf := Lib.hid (fun w => contains_one' ⟨#[110]⟩ 102 false (by decide +kernel) w)
  have Cs := Lib.hid (fun w => contains_one' ⟨#[110]⟩ 115 false (by decide +kernel) w)
  have Ci := Lib.hid (fun w => contains_one' ⟨#[110]⟩ 105 false (by decide +kernel) w)
  have Cm := Lib.hid (fun w => contains_one' ⟨#[110]⟩ 109 false (by decide +kernel) w)
  have Cw := Lib.hid (fun w => contains_one' ⟨#[110]⟩ 119 false (by decide +kernel) w)
  have CU := Lib.hid (fun w => uses_10 w)
  have CC := Lib.hid (fun w => counts_10 w)
  unfold CntO at CC
  simp only [show loAs 10 = 0 from rfl, show hiAs 10 = 0 from rfl, show loVs 10 = 1 from rfl, show hiVs 10 = 1 from rfl] at CC
  obtain ⟨kind, name, field, sign, va, vc, vals, wa, wc, whs, within, number, aa, ac⟩ := x
  simp only at *
  generalize whs.length = nw at *
  generalize vals.length = nv at *
  subst hk
  have HB := Lib.hid ((Below.refl w.heap.size w).alloc (Nat.le_refl _) (.cells #[.int .i64 10, .string name, .string field, .string sign, .slice va nv vc, .slice wa nw wc, .int .i64 within, .int .i64 number, .slice aa na ac] 30))
  go_enter Tryz.func94, Tryz.ntmps94
  go_wp2_with fail
  with_reducible refine (CU.out _).mono ?_
  rintro e w1 ⟨rfl, rfl⟩
  go_wp2_with fail
  with_reducible refine (CC.out _).mono ?_
  rintro e w1 ⟨rfl, rfl⟩
  go_wp2_with fail
  iterate 6 (all_goals first | (with_reducible refine (Cn.out _).mono ?_; rintro e w1 ⟨rfl, rfl⟩; go_wp2_with fail) | (with_reducible refine (Cf.out _).mono ?_; rintro e w1 ⟨rfl, rfl⟩; go_wp2_with fail) | (with_reducible refine (Cs.out _).mono ?_; rintro e w1 ⟨rfl, rfl⟩; go_wp2_with fail) | (with_reducible refine (Ci.out _).mono ?_; rintro e w1 ⟨rfl, rfl⟩; go_wp2_with fail) | (with_reducible refine (Cm.out _).mono ?_; rintro e w1 ⟨rfl, rfl⟩; go_wp2_with fail) | (with_reducible refine (Cw.out _).mono ?_; rintro e w1 ⟨rfl, rfl⟩; go_wp2_with fail) | skip)
  all_goals
    go_ret
    refine ⟨ret_bool ?_, (Below.refl _ _).alloc (Nat.le_refl _) _⟩
    rw [HE.out]
    clear HE HB
    first | (simp [*]; done) | (simp [*]; omega) | skip
set_option maxRecDepth 100000 in
set_option maxHeartbeats 4000000 in
theorem formF_11 (x : Nd) (na : Nat) (w : World) (hk : x.kind = 11) (hw : x.whs.length ≤ 1000) (hvn : x.vals.length ≤ 1000) (hna : na ≤ 1000) : Calls Tryz.prog 94 #[.agg #[.int .i64 x.kind, .string x.name, .string x.field, .string x.sign, .slice x.va x.vals.length x.vc, .slice x.wa x.whs.length x.wc, .int .i64 x.within, .int .i64 x.number, .slice x.aa na x.ac]] w (BoolO w (!frmB x na)) := by
  have HE := Lib.hid (show frmB x na = (!((!true && !x.name.toList.isEmpty) || (!false && !x.field.toList.isEmpty) || (!true && !x.sign.toList.isEmpty) || (!true && (x.within != 0)) || (!true && (x.number != 0))) && (decide (0 ≤ x.vals.length ∧ x.vals.length ≤ 0) && decide (0 ≤ na ∧ na ≤ 0) && decide (x.whs.length ≤ 5))) by rw [frm_spell, hk]; simp only [Bool.and_assoc]; rfl)
  rw [lens_spell] at HE
  generalize frmB x na = r at *
  have Cn := Lib.hid (fun w => contains_one' ⟨#[110, 115, 119, 105, 109]⟩ 110 true (by decide +kernel) w)
  have Cf := Lib.hid (fun w => contains_one' ⟨#[110, 115, 119, 105, 109]⟩ 102 false (by decide +kernel) w)
  have Cs := Lib.hid (fun w => contains_one' ⟨#[110, 115, 119, 105, 109]⟩ 115 true (by decide +kernel) w)
  have Ci := Lib.hid (fun w => contains_one' ⟨#[110, 115, 119, 105, 109]⟩ 105 true (by decide +kernel) w)
  have Cm := Lib.hid (fun w => contains_one' ⟨#[110, 115, 119, 105, 109]⟩ 109 true (by decide +kernel) w)
  have Cw := Lib.hid (fun w => contains_one' ⟨#[110, 115, 119, 105, 109]⟩ 119 true (by decide +kernel) w)
  have CU := Lib.hid (fun w => uses_11 w)
  have CC := Lib.hid (fun w => counts_11 w)
  unfold CntO at CC
  simp only [show loAs 11 = 0 from rfl, show hiAs 11 = 0 from rfl, show loVs 11 = 0 from rfl, show hiVs 11 = 0 from rfl] at CC
  obtain ⟨kind, name, field, sign, va, vc, vals, wa, wc, whs, within, number, aa, ac⟩ := x
  simp only at *
  generalize whs.length = nw at *
  generalize vals.length = nv at *
  subst hk
  have HB := Lib.hid ((Below.refl w.heap.size w).alloc (Nat.le_refl _) (.cells #[.int .i64 11, .string name, .string field, .string sign, .slice va nv vc, .slice wa nw wc, .int .i64 within, .int .i64 number, .slice aa na ac] 30))
  go_enter Tryz.func94, Tryz.ntmps94
  go_wp2_with fail
  with_reducible refine (CU.out _).mono ?_
  rintro e w1 ⟨rfl, rfl⟩
  go_wp2_with fail
  with_reducible refine (CC.out _).mono ?_
  rintro e w1 ⟨rfl, rfl⟩
  go_wp2_with fail
  iterate 6 (all_goals first | (with_reducible refine (Cn.out _).mono ?_; rintro e w1 ⟨rfl, rfl⟩; go_wp2_with fail) | (with_reducible refine (Cf.out _).mono ?_; rintro e w1 ⟨rfl, rfl⟩; go_wp2_with fail) | (with_reducible refine (Cs.out _).mono ?_; rintro e w1 ⟨rfl, rfl⟩; go_wp2_with fail) | (with_reducible refine (Ci.out _).mono ?_; rintro e w1 ⟨rfl, rfl⟩; go_wp2_with fail) | (with_reducible refine (Cm.out _).mono ?_; rintro e w1 ⟨rfl, rfl⟩; go_wp2_with fail) | (with_reducible refine (Cw.out _).mono ?_; rintro e w1 ⟨rfl, rfl⟩; go_wp2_with fail) | skip)
  all_goals
    go_ret
    refine ⟨ret_bool ?_, (Below.refl _ _).alloc (Nat.le_refl _) _⟩
    rw [HE.out]
    clear HE HB
    first | (simp [*]; done) | (simp [*]; omega) | skip
set_option maxRecDepth 100000 in
set_option maxHeartbeats 4000000 in
theorem formF_12 (x : Nd) (na : Nat) (w : World) (hk : x.kind = 12) (hw : x.whs.length ≤ 1000) (hvn : x.vals.length ≤ 1000) (hna : na ≤ 1000) : Calls Tryz.prog 94 #[.agg #[.int .i64 x.kind, .string x.name, .string x.field, .string x.sign, .slice x.va x.vals.length x.vc, .slice x.wa x.whs.length x.wc, .int .i64 x.within, .int .i64 x.number, .slice x.aa na x.ac]] w (BoolO w (!frmB x na)) := by
  have HE := Lib.hid (show frmB x na = (!((!true && !x.name.toList.isEmpty) || (!true && !x.field.toList.isEmpty) || (!true && !x.sign.toList.isEmpty) || (!true && (x.within != 0)) || (!true && (x.number != 0))) && (decide (0 ≤ x.vals.length ∧ x.vals.length ≤ 0) && decide (0 ≤ na ∧ na ≤ 0) && decide (x.whs.length ≤ 5))) by rw [frm_spell, hk]; simp only [Bool.and_assoc]; rfl)
  rw [lens_spell] at HE
  generalize frmB x na = r at *
  have Cn := Lib.hid (fun w => contains_one' ⟨#[110, 102, 115, 119, 105, 109]⟩ 110 true (by decide +kernel) w)
  have Cf := Lib.hid (fun w => contains_one' ⟨#[110, 102, 115, 119, 105, 109]⟩ 102 true (by decide +kernel) w)
  have Cs := Lib.hid (fun w => contains_one' ⟨#[110, 102, 115, 119, 105, 109]⟩ 115 true (by decide +kernel) w)
  have Ci := Lib.hid (fun w => contains_one' ⟨#[110, 102, 115, 119, 105, 109]⟩ 105 true (by decide +kernel) w)
  have Cm := Lib.hid (fun w => contains_one' ⟨#[110, 102, 115, 119, 105, 109]⟩ 109 true (by decide +kernel) w)
  have Cw := Lib.hid (fun w => contains_one' ⟨#[110, 102, 115, 119, 105, 109]⟩ 119 true (by decide +kernel) w)
  have CU := Lib.hid (fun w => uses_12 w)
  have CC := Lib.hid (fun w => counts_12 w)
  unfold CntO at CC
  simp only [show loAs 12 = 0 from rfl, show hiAs 12 = 0 from rfl, show loVs 12 = 0 from rfl, show hiVs 12 = 0 from rfl] at CC
  obtain ⟨kind, name, field, sign, va, vc, vals, wa, wc, whs, within, number, aa, ac⟩ := x
  simp only at *
  generalize whs.length = nw at *
  generalize vals.length = nv at *
  subst hk
  have HB := Lib.hid ((Below.refl w.heap.size w).alloc (Nat.le_refl _) (.cells #[.int .i64 12, .string name, .string field, .string sign, .slice va nv vc, .slice wa nw wc, .int .i64 within, .int .i64 number, .slice aa na ac] 30))
  go_enter Tryz.func94, Tryz.ntmps94
  go_wp2_with fail
  with_reducible refine (CU.out _).mono ?_
  rintro e w1 ⟨rfl, rfl⟩
  go_wp2_with fail
  with_reducible refine (CC.out _).mono ?_
  rintro e w1 ⟨rfl, rfl⟩
  go_wp2_with fail
  iterate 6 (all_goals first | (with_reducible refine (Cn.out _).mono ?_; rintro e w1 ⟨rfl, rfl⟩; go_wp2_with fail) | (with_reducible refine (Cf.out _).mono ?_; rintro e w1 ⟨rfl, rfl⟩; go_wp2_with fail) | (with_reducible refine (Cs.out _).mono ?_; rintro e w1 ⟨rfl, rfl⟩; go_wp2_with fail) | (with_reducible refine (Ci.out _).mono ?_; rintro e w1 ⟨rfl, rfl⟩; go_wp2_with fail) | (with_reducible refine (Cm.out _).mono ?_; rintro e w1 ⟨rfl, rfl⟩; go_wp2_with fail) | (with_reducible refine (Cw.out _).mono ?_; rintro e w1 ⟨rfl, rfl⟩; go_wp2_with fail) | skip)
  all_goals
    go_ret
    refine ⟨ret_bool ?_, (Below.refl _ _).alloc (Nat.le_refl _) _⟩
    rw [HE.out]
    clear HE HB
    first | (simp [*]; done) | (simp [*]; omega) | skip
set_option maxRecDepth 100000 in
set_option maxHeartbeats 4000000 in
theorem formF_13 (x : Nd) (na : Nat) (w : World) (hk : x.kind = 13) (hw : x.whs.length ≤ 1000) (hvn : x.vals.length ≤ 1000) (hna : na ≤ 1000) : Calls Tryz.prog 94 #[.agg #[.int .i64 x.kind, .string x.name, .string x.field, .string x.sign, .slice x.va x.vals.length x.vc, .slice x.wa x.whs.length x.wc, .int .i64 x.within, .int .i64 x.number, .slice x.aa na x.ac]] w (BoolO w (!frmB x na)) := by
  have HE := Lib.hid (show frmB x na = (!((!true && !x.name.toList.isEmpty) || (!false && !x.field.toList.isEmpty) || (!true && !x.sign.toList.isEmpty) || (!false && (x.within != 0)) || (!true && (x.number != 0))) && (decide (0 ≤ x.vals.length ∧ x.vals.length ≤ 0) && decide (0 ≤ na ∧ na ≤ 0) && decide (x.whs.length ≤ 5))) by rw [frm_spell, hk]; simp only [Bool.and_assoc]; rfl)
  rw [lens_spell] at HE
  generalize frmB x na = r at *
  have Cn := Lib.hid (fun w => contains_one' ⟨#[110, 115, 119, 109]⟩ 110 true (by decide +kernel) w)
  have Cf := Lib.hid (fun w => contains_one' ⟨#[110, 115, 119, 109]⟩ 102 false (by decide +kernel) w)
  have Cs := Lib.hid (fun w => contains_one' ⟨#[110, 115, 119, 109]⟩ 115 true (by decide +kernel) w)
  have Ci := Lib.hid (fun w => contains_one' ⟨#[110, 115, 119, 109]⟩ 105 false (by decide +kernel) w)
  have Cm := Lib.hid (fun w => contains_one' ⟨#[110, 115, 119, 109]⟩ 109 true (by decide +kernel) w)
  have Cw := Lib.hid (fun w => contains_one' ⟨#[110, 115, 119, 109]⟩ 119 true (by decide +kernel) w)
  have CU := Lib.hid (fun w => uses_13 w)
  have CC := Lib.hid (fun w => counts_13 w)
  unfold CntO at CC
  simp only [show loAs 13 = 0 from rfl, show hiAs 13 = 0 from rfl, show loVs 13 = 0 from rfl, show hiVs 13 = 0 from rfl] at CC
  obtain ⟨kind, name, field, sign, va, vc, vals, wa, wc, whs, within, number, aa, ac⟩ := x
  simp only at *
  generalize whs.length = nw at *
  generalize vals.length = nv at *
  subst hk
  have HB := Lib.hid ((Below.refl w.heap.size w).alloc (Nat.le_refl _) (.cells #[.int .i64 13, .string name, .string field, .string sign, .slice va nv vc, .slice wa nw wc, .int .i64 within, .int .i64 number, .slice aa na ac] 30))
  go_enter Tryz.func94, Tryz.ntmps94
  go_wp2_with fail
  with_reducible refine (CU.out _).mono ?_
  rintro e w1 ⟨rfl, rfl⟩
  go_wp2_with fail
  with_reducible refine (CC.out _).mono ?_
  rintro e w1 ⟨rfl, rfl⟩
  go_wp2_with fail
  iterate 6 (all_goals first | (with_reducible refine (Cn.out _).mono ?_; rintro e w1 ⟨rfl, rfl⟩; go_wp2_with fail) | (with_reducible refine (Cf.out _).mono ?_; rintro e w1 ⟨rfl, rfl⟩; go_wp2_with fail) | (with_reducible refine (Cs.out _).mono ?_; rintro e w1 ⟨rfl, rfl⟩; go_wp2_with fail) | (with_reducible refine (Ci.out _).mono ?_; rintro e w1 ⟨rfl, rfl⟩; go_wp2_with fail) | (with_reducible refine (Cm.out _).mono ?_; rintro e w1 ⟨rfl, rfl⟩; go_wp2_with fail) | (with_reducible refine (Cw.out _).mono ?_; rintro e w1 ⟨rfl, rfl⟩; go_wp2_with fail) | skip)
  all_goals
    go_ret
    refine ⟨ret_bool ?_, (Below.refl _ _).alloc (Nat.le_refl _) _⟩
    rw [HE.out]
    clear HE HB
    first | (simp [*]; done) | (simp [*]; omega) | skip
set_option maxRecDepth 100000 in
set_option maxHeartbeats 4000000 in
theorem formF_14 (x : Nd) (na : Nat) (w : World) (hk : x.kind = 14) (hw : x.whs.length ≤ 1000) (hvn : x.vals.length ≤ 1000) (hna : na ≤ 1000) : Calls Tryz.prog 94 #[.agg #[.int .i64 x.kind, .string x.name, .string x.field, .string x.sign, .slice x.va x.vals.length x.vc, .slice x.wa x.whs.length x.wc, .int .i64 x.within, .int .i64 x.number, .slice x.aa na x.ac]] w (BoolO w (!frmB x na)) := by
  have HE := Lib.hid (show frmB x na = (!((!true && !x.name.toList.isEmpty) || (!true && !x.field.toList.isEmpty) || (!false && !x.sign.toList.isEmpty) || (!true && (x.within != 0)) || (!false && (x.number != 0))) && (decide (0 ≤ x.vals.length ∧ x.vals.length ≤ 0) && decide (0 ≤ na ∧ na ≤ 0) && decide (x.whs.length ≤ 0))) by rw [frm_spell, hk]; simp only [Bool.and_assoc]; rfl)
  rw [lens_spell] at HE
  generalize frmB x na = r at *
  have Cn := Lib.hid (fun w => contains_one' ⟨#[110, 102, 105]⟩ 110 true (by decide +kernel) w)
  have Cf := Lib.hid (fun w => contains_one' ⟨#[110, 102, 105]⟩ 102 true (by decide +kernel) w)
  have Cs := Lib.hid (fun w => contains_one' ⟨#[110, 102, 105]⟩ 115 false (by decide +kernel) w)
  have Ci := Lib.hid (fun w => contains_one' ⟨#[110, 102, 105]⟩ 105 true (by decide +kernel) w)
  have Cm := Lib.hid (fun w => contains_one' ⟨#[110, 102, 105]⟩ 109 false (by decide +kernel) w)
  have Cw := Lib.hid (fun w => contains_one' ⟨#[110, 102, 105]⟩ 119 false (by decide +kernel) w)
  have CU := Lib.hid (fun w => uses_14 w)
  have CC := Lib.hid (fun w => counts_14 w)
  unfold CntO at CC
  simp only [show loAs 14 = 0 from rfl, show hiAs 14 = 0 from rfl, show loVs 14 = 0 from rfl, show hiVs 14 = 0 from rfl] at CC
  obtain ⟨kind, name, field, sign, va, vc, vals, wa, wc, whs, within, number, aa, ac⟩ := x
  simp only at *
  generalize whs.length = nw at *
  generalize vals.length = nv at *
  subst hk
  have HB := Lib.hid ((Below.refl w.heap.size w).alloc (Nat.le_refl _) (.cells #[.int .i64 14, .string name, .string field, .string sign, .slice va nv vc, .slice wa nw wc, .int .i64 within, .int .i64 number, .slice aa na ac] 30))
  go_enter Tryz.func94, Tryz.ntmps94
  go_wp2_with fail
  with_reducible refine (CU.out _).mono ?_
  rintro e w1 ⟨rfl, rfl⟩
  go_wp2_with fail
  with_reducible refine (CC.out _).mono ?_
  rintro e w1 ⟨rfl, rfl⟩
  go_wp2_with fail
  iterate 6 (all_goals first | (with_reducible refine (Cn.out _).mono ?_; rintro e w1 ⟨rfl, rfl⟩; go_wp2_with fail) | (with_reducible refine (Cf.out _).mono ?_; rintro e w1 ⟨rfl, rfl⟩; go_wp2_with fail) | (with_reducible refine (Cs.out _).mono ?_; rintro e w1 ⟨rfl, rfl⟩; go_wp2_with fail) | (with_reducible refine (Ci.out _).mono ?_; rintro e w1 ⟨rfl, rfl⟩; go_wp2_with fail) | (with_reducible refine (Cm.out _).mono ?_; rintro e w1 ⟨rfl, rfl⟩; go_wp2_with fail) | (with_reducible refine (Cw.out _).mono ?_; rintro e w1 ⟨rfl, rfl⟩; go_wp2_with fail) | skip)
  all_goals
    go_ret
    refine ⟨ret_bool ?_, (Below.refl _ _).alloc (Nat.le_refl _) _⟩
    rw [HE.out]
    clear HE HB
    first | (simp [*]; done) | (simp [*]; omega) | skip
theorem formFault_any (x : Nd) (na : Nat) (w : World) (h1 : 1 ≤ x.kind) (h2 : x.kind ≤ 14) (hw : x.whs.length ≤ 1000) (hvn : x.vals.length ≤ 1000) (hna : na ≤ 1000) : Calls Tryz.prog 94 #[.agg #[.int .i64 x.kind, .string x.name, .string x.field, .string x.sign, .slice x.va x.vals.length x.vc, .slice x.wa x.whs.length x.wc, .int .i64 x.within, .int .i64 x.number, .slice x.aa na x.ac]] w (BoolO w (!frmB x na)) := by
  have : x.kind = 1 ∨ x.kind = 2 ∨ x.kind = 3 ∨ x.kind = 4 ∨ x.kind = 5 ∨ x.kind = 6 ∨ x.kind = 7 ∨ x.kind = 8 ∨ x.kind = 9 ∨ x.kind = 10 ∨ x.kind = 11 ∨ x.kind = 12 ∨ x.kind = 13 ∨ x.kind = 14 := by omega
  rcases this with h | h | h | h | h | h | h | h | h | h | h | h | h | h
  · exact formF_1 x na w h hw hvn hna
  · exact formF_2 x na w h hw hvn hna
  · exact formF_3 x na w h hw hvn hna
  · exact formF_4 x na w h hw hvn hna
  · exact formF_5 x na w h hw hvn hna
  · exact formF_6 x na w h hw hvn hna
  · exact formF_7 x na w h hw hvn hna
  · exact formF_8 x na w h hw hvn hna
  · exact formF_9 x na w h hw hvn hna
  · exact formF_10 x na w h hw hvn hna
  · exact formF_11 x na w h hw hvn hna
  · exact formF_12 x na w h hw hvn hna
  · exact formF_13 x na w h hw hvn hna
  · exact formF_14 x na w h hw hvn hna
end Go.Proofs.YtfdpfkdfglombaaGreatDoor
/- handref1.size and handref1.condFault (printed by gen_rfc.py). -/
set_option linter.unusedVariables false
namespace Go.Proofs.YtfdpfkdfglombaaGreatDoor
open Go.RowKit

theorem signs_eq (w : World) : Calls Tryz.prog 98 #[] w fun e w' => e = .returned (.slice (some ⟨w.heap.size, 0, none⟩) 6 6) ∧ w.alloc (.cells #[.string ⟨#[61]⟩, .string ⟨#[33, 61]⟩, .string ⟨#[60]⟩, .string ⟨#[60, 61]⟩, .string ⟨#[62]⟩, .string ⟨#[62, 61]⟩] 9) = w' :=
  (signs_any' w).mono fun e w' h => ⟨h.1, h.2.symm⟩
theorem signs_bl (w : World) : Calls Tryz.prog 98 #[] w fun e w' => ∃ p, e = .returned (.slice (some ⟨p, 0, none⟩) 6 6) ∧ RAt w' (some ⟨p, 0, none⟩) 1 strC sgnL ∧ Below w.heap.size w w' :=
  (signs_any' w).mono fun e w' h => ⟨w.heap.size, h.1, by rw [h.2]; exact strs_new w sgnL _ 9 rfl, by rw [h.2]; exact (Below.refl _ _).alloc (Nat.le_refl _) _⟩
theorem sgn_new (w : World) : RAt (w.alloc (.cells #[.string ⟨#[61]⟩, .string ⟨#[33, 61]⟩, .string ⟨#[60]⟩, .string ⟨#[60, 61]⟩, .string ⟨#[62]⟩, .string ⟨#[62, 61]⟩] 9)) (some ⟨w.heap.size, 0, none⟩) 1 strC sgnL := strs_new w sgnL _ 9 rfl
/-- slices.Contains at a list of strings that lies somewhere -/
theorem contains_at (a : Option Addr) (l : List ByteArray) (n c : Nat) (s : ByteArray) (b : Bool) (w : World) (hb : hasS l s = b) (hl : l.length = n) (hn : n ≤ 1000) (h0 : 0 < n) (h : RAt w a 1 strC l) :
    Calls Tryz.prog 97 #[.slice a n c, .string s] w fun e w' => e = .returned (.bool b) ∧ w = w' := by
  subst hb
  obtain ⟨p, off, rfl, _, _⟩ := h 0 (by omega)
  refine (Tryz.slices_Contains_string p off n c l s w (by omega) (by omega) ?_).mono ?_
  · intro j hj
    obtain ⟨p', off', h1, h2, h3⟩ := h j hj
    injection h1 with h1
    injection h1 with e1 e2
    subst e1 e2
    have := h3 0 _ rfl
    rw [Nat.mul_one, Nat.add_zero] at this
    rw [this, List.getD_eq_getElem?_getD, List.getElem?_eq_getElem hj]
    rfl
  · rintro e w' ⟨rfl, hw⟩
    rw [List.take_of_length_le (by omega), containsS_has]
    exact ⟨rfl, hw.symm⟩
theorem quiet_leftC {P : Program} {f : FuncId} {args : Array Value} {w : World} {n : Nat} {v : Value}
    (h : Calls P f args (w.drewN n) fun e w' => e = .returned v ∧ w.drewN n = w') : Calls P f args (w.drewN n) fun e w'' => e = .returned v ∧ ∃ m, w'' = w.drewN m :=
  h.mono fun _ _ ⟨he, hm⟩ => ⟨he, n, hm.symm⟩
theorem us_has (k : Int) (h1 : 1 ≤ k) (h2 : k ≤ 14) : decide (0 ≤ Lib.indexByte (usS k).data.toList 110) = uNm k ∧ decide (0 ≤ Lib.indexByte (usS k).data.toList 102) = uFd k ∧ decide (0 ≤ Lib.indexByte (usS k).data.toList 115) = uSg k := by
  have : k = 1 ∨ k = 2 ∨ k = 3 ∨ k = 4 ∨ k = 5 ∨ k = 6 ∨ k = 7 ∨ k = 8 ∨ k = 9 ∨ k = 10 ∨ k = 11 ∨ k = 12 ∨ k = 13 ∨ k = 14 := by omega
  rcases this with rfl | rfl | rfl | rfl | rfl | rfl | rfl | rfl | rfl | rfl | rfl | rfl | rfl | rfl <;> decide +kernel
set_option maxRecDepth 100000 in
set_option maxHeartbeats 4000000 in
theorem condFault_no (d : Nat) (c : Cn) (w : World) (h : c.nd.kind < 1 ∨ 14 < c.nd.kind) :
    Calls Tryz.prog 46 #[c.agg] w (IntO w (trE (d + 1) c)) := by
  have e0 : ndE c.nd c.args.length = 4 := by unfold ndE; rw [if_pos h]
  have e1 : trE (d + 1) c = 4 := by
    show (if ndE c.nd c.args.length ≠ 0 then ndE c.nd c.args.length else fstE (trE d) c.args) = 4
    rw [e0]; rfl
  rw [e1]
  unfold Cn.agg
  obtain ⟨n, args⟩ := c
  obtain ⟨kind, name, field, sign, va, vc, vals, wa, wc, whs, within, number, aa, ac⟩ := n
  simp only [Cn.nd, Cn.args] at *
  clear e0 e1
  by_cases h1 : kind < 1
  · clear h
    go_enter Tryz.func46, Tryz.ntmps46
    go_wp2
    go_ret
    exact ⟨rfl, (Below.refl _ _).alloc (Nat.le_refl _) _⟩
  · have h2 : 14 < kind := by omega
    clear h
    go_enter Tryz.func46, Tryz.ntmps46
    go_wp2
    go_ret
    exact ⟨rfl, (Below.refl _ _).alloc (Nat.le_refl _) _⟩
/-- what the head finds -/
theorem head_eq (x : Nd) (na : Nat) (d : Nat) (args : List Cn) (c : Cn) (hc : c = .mk x args) (hna : args.length = na) (h1 : 1 ≤ x.kind) (h2 : x.kind ≤ 14) :
    trE (d + 1) c = if hdE x na ≠ 0 then hdE x na else if fstE vlE x.vals ≠ 0 then fstE vlE x.vals else if (tkB x.kind && ((x.vals.getD 0 default).kind != 1)) = true then 10 else if fstE whE x.whs ≠ 0 then fstE whE x.whs else
    if (!decide (0 ≤ x.within ∧ x.within ≤ 4321440) || !decide (loNu x.kind ≤ x.number ∧ x.number ≤ hiNu x.kind)) = true then 1 else fstE (trE d) args := by
  subst hc
  show (if ndE x args.length ≠ 0 then ndE x args.length else fstE (trE d) args) = _
  rw [hna, ndE_spell x na h1 h2]
  by_cases hh : hdE x na = 0
  · have hf : frmB x na = true := by
      cases hf : frmB x na with
      | true => rfl
      | false => unfold hdE at hh; rw [hf] at hh; simp at hh
    rw [vtE_list (tkB x.kind) x.vals (fun ht => frm_one hf ht)]
    simp only [hh]
    generalize fstE vlE x.vals = F
    generalize fstE whE x.whs = W
    generalize (tkB x.kind && ((x.vals.getD 0 default).kind != 1)) = T
    generalize (!decide (0 ≤ x.within ∧ x.within ≤ 4321440) || !decide (loNu x.kind ≤ x.number ∧ x.number ≤ hiNu x.kind)) = Q
    generalize fstE (trE d) args = A
    by_cases hF : F = 0 <;> by_cases hW : W = 0 <;> cases T <;> cases Q <;> simp [hF, hW]
  · simp [hh]
set_option maxRecDepth 100000 in
set_option maxHeartbeats 16000000 in
theorem condFault_yes (d : Nat) (IH : ∀ (c : Cn) (w : World), TAt d w c → Tbs w → Calls Tryz.prog 46 #[c.agg] w (IntO w (trE d c))) (c : Cn) (w : World) (hc : TAt (d + 1) w c) (hT : Tbs w) (h1 : 1 ≤ c.nd.kind) (h2 : c.nd.kind ≤ 14) :
    Calls Tryz.prog 46 #[c.agg] w (IntO w (trE (d + 1) c)) := by
  obtain ⟨hok, ⟨ha1, ha2, ha3'⟩, hV, hW, hA, hC⟩ := hc
  have ha3 := wdM_le ha3'
  clear ha3'
  obtain ⟨o1, o2, o3, o4, ⟨o5, o6, o7⟩, ⟨o8, o9, o10⟩, o11, o12, o13, o14⟩ := hok
  have HE := Lib.hid (head_eq c.nd c.args.length d c.args c (by cases c; rfl) rfl h1 h2)
  have HH := Lib.hid (show hdE c.nd c.args.length = if frmB c.nd c.args.length = false then 3 else if ((uNm c.nd.kind && !nmB c.nd.name) || (uFd c.nd.kind && !nmB c.nd.field)) = true then 5 else if (uSg c.nd.kind && !hasS sgnL c.nd.sign) = true then 4 else 0 from rfl)
  have HF1 := Lib.hid (fun ht => frm_one (x := c.nd) (na := c.args.length) ht)
  have HTK := Lib.hid (show tkB c.nd.kind = (c.nd.kind == 9 || c.nd.kind == 10) from rfl)
  have HVO := Lib.hid o13
  have HWO := Lib.hid o14
  have HV := Lib.hid hV
  have HW := Lib.hid hW
  have HA := Lib.hid hA
  have HC := Lib.hid hC
  have HT := Lib.hid hT
  have HI := Lib.hid IH
  have CU := Lib.hid (fun w => uses_any c.nd.kind w h1 h2)
  have CF := Lib.hid (fun w => formFault_any c.nd c.args.length w h1 h2 o10 (Nat.le_trans o7 (by decide)) ha3)
  obtain ⟨p1, p2, p3⟩ := us_has c.nd.kind h1 h2
  have CN := Lib.hid (fun w => contains_one' (usS c.nd.kind) 110 _ p1 w)
  have CG := Lib.hid (fun w => contains_one' (usS c.nd.kind) 102 _ p2 w)
  have CH := Lib.hid (fun w => contains_one' (usS c.nd.kind) 115 _ p3 w)
  have C1 := Lib.hid (fun w h => nameOf_any c.nd.name w (by unfold maxLen; omega) h)
  have C2 := Lib.hid (fun w h => nameOf_any c.nd.field w (by unfold maxLen; omega) h)
  obtain ⟨sg, hsg⟩ : ∃ b, hasS sgnL c.nd.sign = b := ⟨_, rfl⟩
  have CS := Lib.hid (fun a w h => contains_at a sgnL 6 6 c.nd.sign sg w hsg rfl (by decide) (by decide) h)
  rw [hsg] at HH
  obtain ⟨d1, hd1⟩ : ∃ b, decide (0 ≤ c.nd.within ∧ c.nd.within ≤ 4321440) = b := ⟨_, rfl⟩
  obtain ⟨d2, hd2⟩ : ∃ b, decide (loNu c.nd.kind ≤ c.nd.number ∧ c.nd.number ≤ hiNu c.nd.kind) = b := ⟨_, rfl⟩
  rw [hd1, hd2] at HE
  have HD1 := Lib.hid hd1
  have HD2 := Lib.hid hd2
  have HLO := Lib.hid (show loNu c.nd.kind = if c.nd.kind = 13 then 0 else -5000000000000000 from rfl)
  have HHI := Lib.hid (show hiNu c.nd.kind = if c.nd.kind = 13 then 4321440 else 5000000000000000 from rfl)
  obtain ⟨H, hH⟩ : ∃ z, hdE c.nd c.args.length = z := ⟨_, rfl⟩
  obtain ⟨fr, hfr⟩ : ∃ z, frmB c.nd c.args.length = z := ⟨_, rfl⟩
  rw [hH] at HE HH
  rw [hfr] at HH HF1 CF
  obtain ⟨n1, hn1⟩ : ∃ z, nmB c.nd.name = z := ⟨_, rfl⟩
  obtain ⟨n2, hn2⟩ : ∃ z, nmB c.nd.field = z := ⟨_, rfl⟩
  obtain ⟨tk, htk⟩ : ∃ z, tkB c.nd.kind = z := ⟨_, rfl⟩
  obtain ⟨lo, hlo⟩ : ∃ z, loNu c.nd.kind = z := ⟨_, rfl⟩
  obtain ⟨hi, hhi⟩ : ∃ z, hiNu c.nd.kind = z := ⟨_, rfl⟩
  obtain ⟨b0, hb0⟩ : ∃ z, uNm c.nd.kind = z := ⟨_, rfl⟩
  obtain ⟨b1, hb1⟩ : ∃ z, uFd c.nd.kind = z := ⟨_, rfl⟩
  obtain ⟨b2, hb2⟩ : ∃ z, uSg c.nd.kind = z := ⟨_, rfl⟩
  obtain ⟨us, hus⟩ : ∃ z, usS c.nd.kind = z := ⟨_, rfl⟩
  rw [hb0, hn1, hb1, hn2, hb2] at HH
  rw [hn1] at C1
  rw [hn2] at C2
  rw [htk] at HE HF1 HTK
  rw [hlo] at HLO HD2
  rw [hhi] at HHI HD2
  rw [hus] at CU CN CG CH
  rw [hb0] at CN
  rw [hb1] at CG
  rw [hb2] at CH
  unfold Cn.agg
  clear hH hfr hn1 hn2 htk hlo hhi hb0 hb1 hb2 hus hd1 hd2 hsg p1 p2 p3 hV hW hA hC hT IH o13 o14
  obtain ⟨R, hR⟩ : ∃ z, trE (d + 1) c = z := ⟨_, rfl⟩
  rw [hR] at HE ⊢
  clear hR
  obtain ⟨n, args⟩ := c
  obtain ⟨kind, name, field, sign, va, vc, vals, wa, wc, whs, within, number, aa, ac⟩ := n
  simp only [Cn.nd, Cn.args] at *
  obtain ⟨na, hna⟩ : ∃ z, args.length = z := ⟨_, rfl⟩
  rw [hna] at CF ha1 ha3 ⊢
  have HNA := Lib.hid hna
  obtain ⟨nv, hnv⟩ : ∃ z, vals.length = z := ⟨_, rfl⟩
  obtain ⟨nw, hnw⟩ : ∃ z, whs.length = z := ⟨_, rfl⟩
  rw [hnv] at o5 o7 CF HF1
  rw [hnw] at o8 o10 CF
  rw [hnv, hnw]
  have HNV := Lib.hid hnv
  have HNW := Lib.hid hnw
  clear hna hnv hnw o1 o2 o3 o4
  have k1 : ¬ kind < 1 := by omega
  have k2 : ¬ 14 < kind := by omega
  clear h1 h2
  have HX := Lib.hid (XB.new w [.int .i64 kind, .string name, .string field, .string sign, .slice va nv vc, .slice wa nw wc, .int .i64 within, .int .i64 number, .slice aa na ac] 30)
  have HB := Lib.hid ((Below.refl w.heap.size w).alloc (Nat.le_refl _) (.cells #[.int .i64 kind, .string name, .string field, .string sign, .slice va nv vc, .slice wa nw wc, .int .i64 within, .int .i64 number, .slice aa na ac] 30))
  go_enter Tryz.func46, Tryz.ntmps46
  go_wp2_with fail
  with_reducible refine (CU.out _).mono ?_
  rintro e w1 ⟨rfl, rfl⟩
  go_upto_block 0 with (fail)
  generalize w.alloc (.cells _ 30) = w2 at *
  obtain ⟨q0, hq0⟩ : ∃ z, w.heap.size = z := ⟨_, rfl⟩
  rw [hq0] at HX ⊢
  clear hq0
  have HT2 := Lib.hid (HT.out.below HB.out)
  have HV2 := Lib.hid (HV.out.below HB.out)
  have HW2 := Lib.hid (HW.out.below HB.out)
  have HA2 := Lib.hid (HA.out.below HB.out)
  have HC2 := Lib.hid (fun x hx => (HC.out x hx).below HB.out)
  clear HT HV HW HA HC CU
  go_cut [] (fun wx => Below w2.heap.size w2 wx ∧ Hid (H = 0 ∧ fr = true))
  case first =>
    have x0 := HX.out.2 0 _ rfl
    have x1 := HX.out.2 1 _ rfl
    have x2 := HX.out.2 2 _ rfl
    have x3 := HX.out.2 3 _ rfl
    have x4 := HX.out.2 4 _ rfl
    have x5 := HX.out.2 5 _ rfl
    have x6 := HX.out.2 6 _ rfl
    have x7 := HX.out.2 7 _ rfl
    have x8 := HX.out.2 8 _ rfl
    have xl := HX.out.1
    go_wp2_with fail
    ((with_reducible refine (CF.out _).mono ?_); rintro e w3 ⟨rfl, hb3⟩)
    have HX3 := Lib.hid (HX.out.below hb3)
    have HB3 := Lib.hid hb3
    clear hb3 x0 x1 x2 x3 x4 x5 x6 x7 x8 xl
    cases fr with
    | false =>
      go_wp2_with fail
      go_ret
      exact ⟨ret_int (by rw [HE.out, HH.out]; rfl), HB.out.trans (HB3.out.mono HB.out.size)⟩
    | true =>
      have y1 := HX3.out.2 1 _ rfl
      have HT3 := Lib.hid (HT2.out.below HB3.out)
      go_wp2_with fail
      with_reducible refine (CN.out _).mono ?_
      rintro e w4 ⟨rfl, rfl⟩
      cases b0 with
      | false =>
        have z2 := HX3.out.2 2 _ rfl
        go_wp2_with fail
        with_reducible refine (CG.out _).mono ?_
        rintro e w6 ⟨rfl, rfl⟩
        cases b1 with
        | false =>
          have u3 := HX3.out.2 3 _ rfl
          have ul := HX3.out.1
          go_wp2_with fail
          cases b2 with
          | false =>
            go_quiet ((go_at_call 95; exact quiet_leftC (CH.out _)))
            go_wp2_with fail
            go_meet
            exact ⟨below_drewNv HB3.out _, Lib.hid ⟨by rw [HH.out]; rfl, by trivial⟩⟩
          | true =>
            go_region_held3 (fun w' => w'.cell? ⟨q0, 3, none⟩ = some (.string sign))
              (first | go_keep | (refine (hb.cell (by first | (simp; done) | (simp; omega))).trans ?_; go_simp))
              (first | (go_at_call 95; refine (CH.out _).mono ?_; rintro e w' ⟨rfl, rfl⟩) | (go_at_call 98; refine (signs_bl _).mono ?_; rintro e w' ⟨p, rfl, hR, hb⟩) | (go_at_call 97; refine (CS.out _ _ hR).mono ?_; rintro e w' ⟨rfl, rfl⟩))
            all_goals
              have HBz := Lib.hid (HB3.out.drew.trans (hb.mono (by have := HB3.out.size; exact this)))
              clear hb hR
              cases sg with
              | false =>
                go_wp2_with fail
                go_ret
                exact ⟨ret_int (by rw [HE.out, HH.out]; rfl), HB.out.trans (HBz.out.mono HB.out.size)⟩
              | true =>
                go_wp2_with fail
                go_meet
                exact ⟨HBz.out, Lib.hid ⟨by rw [HH.out]; rfl, by trivial⟩⟩
        | true =>
          go_wp2_with fail
          ((with_reducible refine (C2.out _ HT3.out).mono ?_); rintro e w7 ⟨rfl, hb7⟩)
          have HB7 := Lib.hid (HB3.out.trans (hb7.mono HB3.out.size))
          have HX7 := Lib.hid (HX3.out.below hb7)
          clear hb7 HX3 HB3 HT3 z2
          cases n2 with
          | false =>
            go_wp2_with fail
            go_ret
            exact ⟨ret_int (by rw [HE.out, HH.out]; rfl), HB.out.trans (HB7.out.mono HB.out.size)⟩
          | true =>
            have u3 := HX7.out.2 3 _ rfl
            have ul := HX7.out.1
            go_wp2_with fail
            cases b2 with
            | false =>
              go_quiet ((go_at_call 95; exact quiet_leftC (CH.out _)))
              go_wp2_with fail
              go_meet
              exact ⟨below_drewNv HB7.out _, Lib.hid ⟨by rw [HH.out]; rfl, by trivial⟩⟩
            | true =>
              go_region_held3 (fun w' => w'.cell? ⟨q0, 3, none⟩ = some (.string sign))
                (first | go_keep | (refine (hb.cell (by first | (simp; done) | (simp; omega))).trans ?_; go_simp))
                (first | (go_at_call 95; refine (CH.out _).mono ?_; rintro e w' ⟨rfl, rfl⟩) | (go_at_call 98; refine (signs_bl _).mono ?_; rintro e w' ⟨p, rfl, hR, hb⟩) | (go_at_call 97; refine (CS.out _ _ hR).mono ?_; rintro e w' ⟨rfl, rfl⟩))
              all_goals
                have HBz := Lib.hid (HB7.out.drew.trans (hb.mono (by have := HB7.out.size; exact this)))
                clear hb hR
                cases sg with
                | false =>
                  go_wp2_with fail
                  go_ret
                  exact ⟨ret_int (by rw [HE.out, HH.out]; rfl), HB.out.trans (HBz.out.mono HB.out.size)⟩
                | true =>
                  go_wp2_with fail
                  go_meet
                  exact ⟨HBz.out, Lib.hid ⟨by rw [HH.out]; rfl, by trivial⟩⟩
      | true =>
        go_wp2_with fail
        ((with_reducible refine (C1.out _ HT3.out).mono ?_); rintro e w5 ⟨rfl, hb5⟩)
        have HB5 := Lib.hid (HB3.out.trans (hb5.mono HB3.out.size))
        have HX5 := Lib.hid (HX3.out.below hb5)
        have HT5 := Lib.hid (HT3.out.below hb5)
        clear hb5 HB3 HX3 HT3 y1
        cases n1 with
        | false =>
          go_wp2_with fail
          go_ret
          exact ⟨ret_int (by rw [HE.out, HH.out]; rfl), HB.out.trans (HB5.out.mono HB.out.size)⟩
        | true =>
          have z2 := HX5.out.2 2 _ rfl
          go_wp2_with fail
          with_reducible refine (CG.out _).mono ?_
          rintro e w6 ⟨rfl, rfl⟩
          cases b1 with
          | false =>
            have u3 := HX5.out.2 3 _ rfl
            have ul := HX5.out.1
            go_wp2_with fail
            cases b2 with
            | false =>
              go_quiet ((go_at_call 95; exact quiet_leftC (CH.out _)))
              go_wp2_with fail
              go_meet
              exact ⟨below_drewNv HB5.out _, Lib.hid ⟨by rw [HH.out]; rfl, by trivial⟩⟩
            | true =>
              go_region_held3 (fun w' => w'.cell? ⟨q0, 3, none⟩ = some (.string sign))
                (first | go_keep | (refine (hb.cell (by first | (simp; done) | (simp; omega))).trans ?_; go_simp))
                (first | (go_at_call 95; refine (CH.out _).mono ?_; rintro e w' ⟨rfl, rfl⟩) | (go_at_call 98; refine (signs_bl _).mono ?_; rintro e w' ⟨p, rfl, hR, hb⟩) | (go_at_call 97; refine (CS.out _ _ hR).mono ?_; rintro e w' ⟨rfl, rfl⟩))
              all_goals
                have HBz := Lib.hid (HB5.out.drew.trans (hb.mono (by have := HB5.out.size; exact this)))
                clear hb hR
                cases sg with
                | false =>
                  go_wp2_with fail
                  go_ret
                  exact ⟨ret_int (by rw [HE.out, HH.out]; rfl), HB.out.trans (HBz.out.mono HB.out.size)⟩
                | true =>
                  go_wp2_with fail
                  go_meet
                  exact ⟨HBz.out, Lib.hid ⟨by rw [HH.out]; rfl, by trivial⟩⟩
          | true =>
            go_wp2_with fail
            ((with_reducible refine (C2.out _ HT5.out).mono ?_); rintro e w7 ⟨rfl, hb7⟩)
            have HB7 := Lib.hid (HB5.out.trans (hb7.mono HB5.out.size))
            have HX7 := Lib.hid (HX5.out.below hb7)
            clear hb7 HX5 HB5 HT5 z2
            cases n2 with
            | false =>
              go_wp2_with fail
              go_ret
              exact ⟨ret_int (by rw [HE.out, HH.out]; rfl), HB.out.trans (HB7.out.mono HB.out.size)⟩
            | true =>
              have u3 := HX7.out.2 3 _ rfl
              have ul := HX7.out.1
              go_wp2_with fail
              cases b2 with
              | false =>
                go_quiet ((go_at_call 95; exact quiet_leftC (CH.out _)))
                go_wp2_with fail
                go_meet
                exact ⟨below_drewNv HB7.out _, Lib.hid ⟨by rw [HH.out]; rfl, by trivial⟩⟩
              | true =>
                go_region_held3 (fun w' => w'.cell? ⟨q0, 3, none⟩ = some (.string sign))
                  (first | go_keep | (refine (hb.cell (by first | (simp; done) | (simp; omega))).trans ?_; go_simp))
                  (first | (go_at_call 95; refine (CH.out _).mono ?_; rintro e w' ⟨rfl, rfl⟩) | (go_at_call 98; refine (signs_bl _).mono ?_; rintro e w' ⟨p, rfl, hR, hb⟩) | (go_at_call 97; refine (CS.out _ _ hR).mono ?_; rintro e w' ⟨rfl, rfl⟩))
                all_goals
                  have HBz := Lib.hid (HB7.out.drew.trans (hb.mono (by have := HB7.out.size; exact this)))
                  clear hb hR
                  cases sg with
                  | false =>
                    go_wp2_with fail
                    go_ret
                    exact ⟨ret_int (by rw [HE.out, HH.out]; rfl), HB.out.trans (HBz.out.mono HB.out.size)⟩
                  | true =>
                    go_wp2_with fail
                    go_meet
                    exact ⟨HBz.out, Lib.hid ⟨by rw [HH.out]; rfl, by trivial⟩⟩
  case rest =>
  obtain ⟨hbx, H0⟩ := hcut
  have HBX := Lib.hid (HB.out.trans (hbx.mono HB.out.size))
  have HXX := Lib.hid (HX.out.below hbx)
  have HTX := Lib.hid (HT2.out.below hbx)
  have HVX := Lib.hid (HV2.out.below hbx)
  have HWX := Lib.hid (HW2.out.below hbx)
  have HAX := Lib.hid (HA2.out.below hbx)
  have HCX := Lib.hid (fun x hx => (HC2.out x hx).below hbx)
  clear hbx HX HT2 HV2 HW2 HA2 HC2 HB CF C1 C2 CS CN CG CH HH
  have HN1 := Lib.hid (HF1.out H0.out.2)
  have HE1 : Hid (R = if fstE vlE vals ≠ 0 then fstE vlE vals else if (tk && ((vals.getD 0 default).kind != 1)) = true then 10 else if fstE whE whs ≠ 0 then fstE whE whs else if (!d1 || !d2) = true then 1 else fstE (trE d) args) := Lib.hid (HE.out.trans (if_neg (fun h => h H0.out.1)))
  clear HE H0 HF1
  obtain ⟨T, hT⟩ : ∃ b, (tk && ((vals.getD 0 default).kind != 1)) = b := ⟨_, rfl⟩
  rw [hT] at HE1
  have HTT := Lib.hid hT
  clear hT
  have x4 := HXX.out.2 4 _ rfl
  have xl := HXX.out.1
  go_wp2_with fail
  clear x4 xl
  go_loopw [59] (fun i wr => ∃ k : Nat, k ≤ nv ∧ i = .int .i64 k ∧ Below wc.heap.size wc wr ∧ Hid (fstE vlE vals = fstE vlE (vals.drop k))) (fun i _ => nv - (intOf i).toNat)
  case atStart => exact ⟨0, Nat.zero_le _, rfl, Below.refl _ _, Lib.hid rfl⟩
  case round =>
    obtain ⟨k, hk, rfl, hBr, HF⟩ := hrel
    have HBr := Lib.hid (HBX.out.trans (hBr.mono HBX.out.size))
    have HXr := Lib.hid (HXX.out.below hBr)
    have HTr := Lib.hid (HTX.out.below hBr)
    have HBr0 := Lib.hid hBr
    by_cases hlt : k < nv
    · have hkl : k < vals.length := by have := HNV.out; omega
      obtain ⟨p, off, rfl, hp, c0, c1, c2⟩ := (HVX.out.below hBr).at3v hkl
      have HD := Lib.hid (fstE_drop vlE vals k hkl)
      have HO := Lib.hid (HVO.out vals[k] (List.getElem_mem hkl))
      clear hBr
      have C3 := Lib.hid (fun w h => valueFault_any vals[k] w HO.out h)
      obtain ⟨e3, he3⟩ : ∃ z, vlE vals[k] = z := ⟨_, rfl⟩
      rw [he3] at HD C3
      clear he3 HO
      generalize vals[k] = v at *
      obtain ⟨vk, vt, vn⟩ := v
      simp only at c0 c1 c2 C3
      have HTa := Lib.hid (HTr.out.alloc (.cells #[.int .i64 vk, .string vt, .int .i64 vn] 72))
      have HBa := Lib.hid (HBr.out.alloc HBr.out.size (.cells #[.int .i64 vk, .string vt, .int .i64 vn] 72))
      have HBa0 := Lib.hid (HBr0.out.alloc HBr0.out.size (.cells #[.int .i64 vk, .string vt, .int .i64 vn] 72))
      clear HTr HXr HBr HBr0
      go_wp2_with fail
      ((with_reducible refine (C3.out _ HTa.out).mono ?_); rintro e w5 ⟨rfl, hb5⟩)
      have HB5 := Lib.hid (HBa.out.trans (hb5.mono HBa.out.size))
      have HB50 := Lib.hid (HBa0.out.trans (hb5.mono HBa0.out.size))
      clear hb5 HTa HBa HBa0 c0 c1 c2 hp
      by_cases h3 : e3 = 0
      · subst h3
        go_wp2_with fail
        go_roundw
        case rel => exact ⟨k + 1, by omega, by go_num, HB50.out, Lib.hid (by rw [HF.out, HD.out]; rfl)⟩
        case measure => simp [intOf]; omega
      · have h4 : (e3 != 0) = true := by simpa using h3
        have H3 := Lib.hid h3
        clear h3
        go_wp2_with fail
        go_ret
        exact ⟨ret_int (by
          have e2 : fstE vlE vals = e3 := by rw [HF.out, HD.out, if_neg H3.out]
          rw [HE1.out, e2, if_pos H3.out]), HB5.out⟩
    · have HZ : Hid (fstE vlE vals = 0) := Lib.hid (by rw [HF.out, List.drop_eq_nil_of_le (by have := HNV.out; omega)]; rfl)
      have HVr := Lib.hid (HVX.out.below hBr)
      clear hBr
      have HE2 : Hid (R = if T = true then 10 else if fstE whE whs ≠ 0 then fstE whE whs else if (!d1 || !d2) = true then 1 else fstE (trE d) args) := Lib.hid (HE1.out.trans (if_neg (fun h => h HZ.out)))
      clear HE1 HZ HF HVX HXX HTX
      go_upto_region 18 with (fail)
      go_cut [84] (fun u wx => u = .bool T ∧ wr = wx)
      case first =>
        have x0 := HXr.out.2 0 _ rfl
        have x4 := HXr.out.2 4 _ rfl
        have xl := HXr.out.1
        obtain ⟨x9, hx9⟩ : ∃ b, (kind == 9) = b := ⟨_, rfl⟩
        obtain ⟨x10, hx10⟩ : ∃ b, (kind == 10) = b := ⟨_, rfl⟩
        have HT9 : Hid (tk = (x9 || x10)) := Lib.hid (by rw [HTK.out, hx9, hx10])
        have one : (x9 || x10) = true → ∃ p off vk, va = some ⟨p, off, none⟩ ∧ p < wr.heap.size ∧ nv = 1 ∧ wr.cell? ⟨p, off, none⟩ = some (.int .i64 vk) ∧ T = (vk != 1) := fun h => by
          have h1 := HN1.out (by rw [HT9.out]; exact h)
          have hl : 0 < vals.length := by have := HNV.out; omega
          obtain ⟨p, off, e, hp, c0, -, -⟩ := HVr.out.at3v hl
          refine ⟨p, off, vals[0].kind, e, hp, h1, by simpa using c0, ?_⟩
          rw [← HTT.out, HT9.out, h, List.getD_eq_getElem?_getD, List.getElem?_eq_getElem hl]
          rfl
        have ONE := Lib.hid one
        clear one
        cases x9 with
        | true =>
          obtain ⟨p, off, vk, rfl, hp, hn1', c0, hT⟩ := ONE.out rfl
          have HTv := Lib.hid hT
          subst hn1'
          obtain ⟨y, hy⟩ : ∃ b, (vk != 1) = b := ⟨_, rfl⟩
          rw [hy] at HTv
          clear hT
          go_wp2_with fail
          go_meet
          exact ⟨by rw [HTv.out], rfl⟩
        | false =>
          cases x10 with
          | true =>
            obtain ⟨p, off, vk, rfl, hp, hn1', c0, hT⟩ := ONE.out rfl
            have HTv := Lib.hid hT
            subst hn1'
            obtain ⟨y, hy⟩ : ∃ b, (vk != 1) = b := ⟨_, rfl⟩
            rw [hy] at HTv
            clear hT
            go_wp2_with fail
            go_meet
            exact ⟨by rw [HTv.out], rfl⟩
          | false =>
            have HTf : Hid (T = false) := Lib.hid (by rw [← HTT.out, HT9.out]; rfl)
            go_wp2_with fail
            go_meet
            exact ⟨by rw [HTf.out], rfl⟩
      case rest =>
      obtain ⟨rfl, rfl⟩ := hcut
      clear HTT HN1 HTK HVr HNV HVO
      cases T with
      | true =>
        go_wp2_with fail
        go_ret
        exact ⟨ret_int (by rw [HE2.out]; rfl), HBr.out⟩
      | false =>
      have HE3 : Hid (R = if fstE whE whs ≠ 0 then fstE whE whs else if (!d1 || !d2) = true then 1 else fstE (trE d) args) := Lib.hid (by rw [HE2.out]; rfl)
      clear HE2
      have x5 := HXr.out.2 5 _ rfl
      have xl := HXr.out.1
      go_wp2_with fail
      clear x5 xl
      have HWr := Lib.hid (HWX.out.below HBr0.out)
      have HAr := Lib.hid (HAX.out.below HBr0.out)
      have HCr := Lib.hid (fun x hx => (HCX.out x hx).below HBr0.out)
      clear HWX HAX HCX HBr0 HBX
      obtain ⟨wz, rfl⟩ : ∃ z, z = wr := ⟨_, rfl⟩
      go_loopw [88] (fun i ws => ∃ k : Nat, k ≤ nw ∧ i = .int .i64 k ∧ Below wz.heap.size wz ws ∧ Hid (fstE whE whs = fstE whE (whs.drop k))) (fun i _ => nw - (intOf i).toNat)
      case atStart => exact ⟨0, Nat.zero_le _, rfl, Below.refl _ _, Lib.hid rfl⟩
      case round =>
        obtain ⟨k, hk, rfl, hBs, HF⟩ := hrel
        have HBs := Lib.hid (HBr.out.trans (hBs.mono HBr.out.size))
        have HXs := Lib.hid (HXr.out.below hBs)
        have HTs := Lib.hid (HTr.out.below hBs)
        have HBs0 := Lib.hid hBs
        by_cases hlt : k < nw
        · --@w1
          have hkl : k < whs.length := by have := HNW.out; omega
          obtain ⟨p, off, rfl, hp, c0, c1, c2, c3, c4⟩ := (HWr.out.below hBs).at5w hkl
          have HD := Lib.hid (fstE_drop whE whs k hkl)
          have HO := Lib.hid (HWO.out whs[k] (List.getElem_mem hkl))
          clear hBs
          generalize whs[k] = v at *
          obtain ⟨f, s, v⟩ := v
          have HV := Lib.hid (show whE ⟨f, s, v⟩ = if nmB f = false then 5 else if hasS sgnL s = false then 4 else vlE v from rfl)
          obtain ⟨hf1, hs1, hv1⟩ := HO.out
          have HVO := Lib.hid hv1
          simp only at c0 c1 c2 c3 c4 hf1 hs1 HVO
          have C1 := Lib.hid (fun w h => nameOf_any f w (by unfold maxLen; omega) h)
          obtain ⟨b1, hb1⟩ : ∃ z, nmB f = z := ⟨_, rfl⟩
          obtain ⟨b2, hb2⟩ : ∃ z, hasS sgnL s = z := ⟨_, rfl⟩
          obtain ⟨e3, he3⟩ : ∃ z, vlE v = z := ⟨_, rfl⟩
          obtain ⟨r, hr⟩ : ∃ z, whE ⟨f, s, v⟩ = z := ⟨_, rfl⟩
          have CS := Lib.hid (fun a w h => contains_at a sgnL 6 6 s b2 w hb2 rfl (by decide) (by decide) h)
          have C3 := Lib.hid (fun w h => valueFault_any v w HVO.out h)
          rw [hr] at HD HV
          rw [hb1, hb2, he3] at HV
          rw [hb1] at C1
          rw [he3] at C3
          clear hb1 hb2 he3 hr HO hf1 hs1 hv1
          obtain ⟨vk, vt, vn⟩ := v
          simp only at c2 c3 c4 C3
          have HYa := Lib.hid (XB.new wr [.string f, .string s, .int .i64 vk, .string vt, .int .i64 vn] 98)
          have HTa := Lib.hid (HTs.out.alloc (.cells #[.string f, .string s, .int .i64 vk, .string vt, .int .i64 vn] 98))
          have HBa := Lib.hid (HBs.out.alloc HBs.out.size (.cells #[.string f, .string s, .int .i64 vk, .string vt, .int .i64 vn] 98))
          have HBa0 := Lib.hid (HBs0.out.alloc HBs0.out.size (.cells #[.string f, .string s, .int .i64 vk, .string vt, .int .i64 vn] 98))
          clear HTs HXs HBs HBs0
          go_wp2_with fail
          obtain ⟨q8, hq8⟩ : ∃ z, wr.heap.size = z := ⟨_, rfl⟩
          rw [hq8] at HYa ⊢
          clear hq8
          ((with_reducible refine (C1.out _ HTa.out).mono ?_); rintro e w5 ⟨rfl, hb5⟩)
          have HY5 := Lib.hid (HYa.out.below hb5)
          have HT5 := Lib.hid (HTa.out.below hb5)
          have HB5 := Lib.hid (HBa.out.trans (hb5.mono HBa.out.size))
          have HB50 := Lib.hid (HBa0.out.trans (hb5.mono HBa0.out.size))
          clear hb5 HTa HYa HBa HBa0 c0 c1 c2 c3 c4 hp
          cases b1 with
          | false =>
            go_wp2_with fail
            go_ret
            exact ⟨ret_int (by
              have e2 : fstE whE whs = 5 := by rw [HF.out, HD.out, HV.out]; rfl
              rw [HE3.out, e2]; rfl), HB5.out⟩
          | true =>
            have u1 := HY5.out.2 1 _ rfl
            have ul := HY5.out.1
            go_wp2_with fail
            go_region_held3 (fun w' => w'.cell? ⟨q8, 1, none⟩ = some (.string s))
              (first | go_keep | (refine (hb.cell (by first | (simp; done) | (simp; omega))).trans ?_; go_simp))
              (first | (go_at_call 98; refine (signs_bl _).mono ?_; rintro e w' ⟨p, rfl, hR, hb⟩) | (go_at_call 97; refine (CS.out _ _ hR).mono ?_; rintro e w' ⟨rfl, rfl⟩))
            all_goals
              have HY6 := Lib.hid (show XB w' q8 [.string f, .string s, .int .i64 vk, .string vt, .int .i64 vn] from XB.below (show XB w5.drew q8 [.string f, .string s, .int .i64 vk, .string vt, .int .i64 vn] from HY5.out) hb)
              have HT6 := Lib.hid (show Tbs w' from Tbs.below (show Tbs w5.drew from HT5.out) hb)
              have HB6 := Lib.hid (HB5.out.drew.trans (hb.mono (by have := HB5.out.size; exact this)))
              have HB60 := Lib.hid (HB50.out.drew.trans (hb.mono (by have := HB50.out.size; exact this)))
              clear hb hR u1 ul HY5 HT5 HB5 HB50
              cases b2 with
              | false =>
                go_wp2_with fail
                go_ret
                exact ⟨ret_int (by
                  have e2 : fstE whE whs = 4 := by rw [HF.out, HD.out, HV.out]; rfl
                  rw [HE3.out, e2]; rfl), HB6.out⟩
              | true =>
                have y2 := HY6.out.2 2 _ rfl
                have y3 := HY6.out.2 3 _ rfl
                have y4 := HY6.out.2 4 _ rfl
                have yl := HY6.out.1
                go_wp2_with fail
                ((with_reducible refine (C3.out _ HT6.out).mono ?_); rintro e w7 ⟨rfl, hb7⟩)
                have HB7 := Lib.hid (HB6.out.trans (hb7.mono HB6.out.size))
                have HB70 := Lib.hid (HB60.out.trans (hb7.mono HB60.out.size))
                clear hb7 y2 y3 y4 yl HY6 HT6 HB6 HB60
                by_cases h3 : e3 = 0
                · subst h3
                  go_wp2_with fail
                  go_roundw
                  case rel => exact ⟨k + 1, by omega, by go_num, HB70.out, Lib.hid (by rw [HF.out, HD.out, if_pos (by rw [HV.out]; rfl)])⟩
                  case measure => simp [intOf]; omega
                · have h4 : (e3 != 0) = true := by simpa using h3
                  have H3 := Lib.hid h3
                  clear h3
                  go_wp2_with fail
                  go_ret
                  exact ⟨ret_int (by
                    have e1 : r = e3 := by rw [HV.out]; rfl
                    have e2 : fstE whE whs = e3 := by rw [HF.out, HD.out, e1, if_neg H3.out]
                    rw [HE3.out, e2, if_pos H3.out]), HB7.out⟩
          --@end
        · have HZ : Hid (fstE whE whs = 0) := Lib.hid (by rw [HF.out, List.drop_eq_nil_of_le (by have := HNW.out; omega)]; rfl)
          have HAs := Lib.hid (HAr.out.below hBs)
          have HCs := Lib.hid (fun x hx => (HCr.out x hx).below hBs)
          clear hBs HAr HCr HWr HXr HTr HBr
          have HE4 : Hid (R = if (!d1 || !d2) = true then 1 else fstE (trE d) args) := Lib.hid (HE3.out.trans (if_neg (fun h => h HZ.out)))
          clear HE3 HZ HF HWO HNW HBs0
          obtain ⟨ws, rfl⟩ : ∃ z, z = wr := ⟨_, rfl⟩
          have x0 := HXs.out.2 0 _ rfl
          have xl := HXs.out.1
          go_upto_if 110 with (fail)
          go_cut [10, 11] (fun u v wx => u = .int .i64 lo ∧ v = .int .i64 hi ∧ ws = wx)
          case first =>
            by_cases h13 : kind = 13
            · subst h13
              have HLO' : Hid (lo = 0) := Lib.hid (HLO.out.trans (if_pos rfl))
              have HHI' : Hid (hi = 4321440) := Lib.hid (HHI.out.trans (if_pos rfl))
              go_wp2_with fail
              go_meet
              exact ⟨by rw [HLO'.out], by rw [HHI'.out], rfl⟩
            · have HLO' : Hid (lo = -5000000000000000) := Lib.hid (HLO.out.trans (if_neg h13))
              have HHI' : Hid (hi = 5000000000000000) := Lib.hid (HHI.out.trans (if_neg h13))
              have b13 : (kind == 13) = false := by simpa using h13
              clear h13
              go_wp2_with fail
              go_meet
              exact ⟨by rw [HLO'.out], by rw [HHI'.out], rfl⟩
          case rest =>
          obtain ⟨rfl, rfl, rfl⟩ := hcut
          clear HLO HHI x0
          have x6 := HXs.out.2 6 _ rfl
          have x7 := HXs.out.2 7 _ rfl
          by_cases t1 : within < 0
          · have e1 : d1 = false := by rw [← HD1.out]; exact decide_eq_false (by omega)
            subst e1
            clear HD1 HD2
            go_wp2_with fail
            go_ret
            exact ⟨ret_int (by rw [HE4.out]; rfl), HBs.out⟩
          · by_cases t2 : 4321440 < within
            · have e1 : d1 = false := by rw [← HD1.out]; exact decide_eq_false (by omega)
              subst e1
              clear HD1 HD2
              go_wp2_with fail
              go_ret
              exact ⟨ret_int (by rw [HE4.out]; rfl), HBs.out⟩
            · have e1 : d1 = true := by rw [← HD1.out]; exact decide_eq_true (by omega)
              by_cases t3 : number < lo
              · have e2 : d2 = false := by rw [← HD2.out]; exact decide_eq_false (by omega)
                subst e1 e2
                clear HD1 HD2
                go_wp2_with fail
                go_ret
                exact ⟨ret_int (by rw [HE4.out]; rfl), HBs.out⟩
              · by_cases t4 : hi < number
                · have e2 : d2 = false := by rw [← HD2.out]; exact decide_eq_false (by omega)
                  subst e1 e2
                  clear HD1 HD2
                  go_wp2_with fail
                  go_ret
                  exact ⟨ret_int (by rw [HE4.out]; rfl), HBs.out⟩
                · have e2 : d2 = true := by rw [← HD2.out]; exact decide_eq_true (by omega)
                  subst e1 e2
                  have HE5 : Hid (R = fstE (trE d) args) := Lib.hid (by rw [HE4.out]; rfl)
                  clear HD1 HD2 HE4
                  have x8 := HXs.out.2 8 _ rfl
                  go_wp2_with fail
                  clear x6 x7 x8 xl t1 t2 t3 t4
                  go_loopw [134] (fun i wr => ∃ k : Nat, k ≤ na ∧ i = .int .i64 k ∧ Below w.heap.size w wr ∧ Below ws.heap.size ws wr ∧ Hid (fstE (trE d) args = fstE (trE d) (args.drop k))) (fun i _ => na - (intOf i).toNat)
                  case atStart => exact ⟨0, Nat.zero_le _, rfl, HBs.out, Below.refl _ _, Lib.hid rfl⟩
                  case round =>
                    obtain ⟨k, hk, rfl, hBw, hBr, HF⟩ := hrel
                    have HBr := Lib.hid hBw
                    have HBr0 := Lib.hid hBr
                    have hTr := Lib.hid (HTs.out.below hBr)
                    by_cases hlt : k < na
                    · have hkl : k < args.length := by have := HNA.out; omega
                      obtain ⟨p, off, rfl, hp, c0, c1, c2, c3, c4, c5, c6, c7, c8⟩ := (HAs.out.below hBr).at9c hkl
                      have HD := Lib.hid (fstE_drop (trE d) args k hkl)
                      have HTx := Lib.hid ((HCs.out args[k] (List.getElem_mem hkl)).below hBr)
                      clear hBw hBr
                      have C1 := Lib.hid (HI.out args[k])
                      obtain ⟨r, hr⟩ : ∃ z, trE d args[k] = z := ⟨_, rfl⟩
                      rw [hr] at HD C1
                      clear hr
                      unfold Cn.agg at C1
                      generalize args[k] = x at *
                      obtain ⟨xn, xargs⟩ := x
                      obtain ⟨xkind, xname, xfield, xsign, xva, xvc, xvals, xwa, xwc, xwhs, xwithin, xnumber, xaa, xac⟩ := xn
                      simp only [Cn.nd, Cn.args] at *
                      have HTxa := Lib.hid (HTx.out.alloc (.cells #[.int .i64 xkind, .string xname, .string xfield, .string xsign, .slice xva xvals.length xvc, .slice xwa xwhs.length xwc, .int .i64 xwithin, .int .i64 xnumber, .slice xaa xargs.length xac] 30))
                      have HTra := Lib.hid (hTr.out.alloc (.cells #[.int .i64 xkind, .string xname, .string xfield, .string xsign, .slice xva xvals.length xvc, .slice xwa xwhs.length xwc, .int .i64 xwithin, .int .i64 xnumber, .slice xaa xargs.length xac] 30))
                      have HBa := Lib.hid (HBr.out.alloc HBr.out.size (.cells #[.int .i64 xkind, .string xname, .string xfield, .string xsign, .slice xva xvals.length xvc, .slice xwa xwhs.length xwc, .int .i64 xwithin, .int .i64 xnumber, .slice xaa xargs.length xac] 30))
                      have HBa0 := Lib.hid (HBr0.out.alloc HBr0.out.size (.cells #[.int .i64 xkind, .string xname, .string xfield, .string xsign, .slice xva xvals.length xvc, .slice xwa xwhs.length xwc, .int .i64 xwithin, .int .i64 xnumber, .slice xaa xargs.length xac] 30))
                      clear HTx hTr HBr HBr0
                      obtain ⟨xnv, hxnv⟩ : ∃ z, xvals.length = z := ⟨_, rfl⟩
                      obtain ⟨xnw, hxnw⟩ : ∃ z, xwhs.length = z := ⟨_, rfl⟩
                      obtain ⟨xna, hxna⟩ : ∃ z, xargs.length = z := ⟨_, rfl⟩
                      rw [hxnv] at c4 C1 HTxa HTra HBa HBa0
                      rw [hxnw] at c5 C1 HTxa HTra HBa HBa0
                      rw [hxna] at c8 C1 HTxa HTra HBa HBa0
                      clear hxnv hxnw hxna
                      go_wp2_with fail
                      ((with_reducible refine (C1.out _ HTxa.out HTra.out).mono ?_); rintro e w5 ⟨rfl, hb5⟩)
                      have HB5 := Lib.hid (HBa.out.trans (hb5.mono HBa.out.size))
                      have HB50 := Lib.hid (HBa0.out.trans (hb5.mono HBa0.out.size))
                      clear hb5 HTxa HTra HBa HBa0 c0 c1 c2 c3 c4 c5 c6 c7 c8 hp
                      by_cases h3 : r = 0
                      · subst h3
                        go_wp2_with fail
                        go_roundw
                        case rel => exact ⟨k + 1, by omega, by go_num, HB5.out, HB50.out, Lib.hid (by rw [HF.out, HD.out]; rfl)⟩
                        case measure => simp [intOf]; omega
                      · have h4 : (r != 0) = true := by simpa using h3
                        have H3 := Lib.hid h3
                        clear h3
                        go_wp2_with fail
                        go_ret
                        exact ⟨ret_int (by rw [HE5.out, HF.out, HD.out, if_neg H3.out]), HB5.out⟩
                    · have HZ : Hid (fstE (trE d) args = 0) := Lib.hid (by rw [HF.out, List.drop_eq_nil_of_le (by have := HNA.out; omega)]; rfl)
                      clear hBw hBr
                      go_wp2_with fail
                      go_ret
                      exact ⟨ret_int (by rw [HE5.out, HZ.out]), HBr.out⟩
theorem condFault_any : ∀ (d : Nat) (c : Cn) (w : World), TAt d w c → Tbs w → Calls Tryz.prog 46 #[c.agg] w (IntO w (trE d c))
  | 0, _, _, h, _ => h.elim
  | d + 1, c, w, h, hT => by
    by_cases hk : c.nd.kind < 1 ∨ 14 < c.nd.kind
    · exact condFault_no d c w hk
    · exact condFault_yes d (condFault_any d) c w h hT (by omega) (by omega)
end Go.Proofs.YtfdpfkdfglombaaGreatDoor
/- handref1.size and handref1.CondFault. -/
set_option linter.unusedVariables false
namespace Go.Proofs.YtfdpfkdfglombaaGreatDoor
open Go.RowKit

theorem foldl_max_app (l : List Nat) (x : Nat) : (l ++ [x]).foldl max 0 = max (l.foldl max 0) x := by
  rw [List.foldl_append]; rfl
theorem dpN_le : ∀ (d : Nat) (c : Cn), dpN d c ≤ d
  | 0, _ => Nat.le_refl _
  | d + 1, c => by
    have : (c.args.map (dpN d)).foldl max 0 ≤ d := foldl_max_lt _ _ _ (Nat.zero_le _) (fun x hx => by
      obtain ⟨y, _, rfl⟩ := List.mem_map.1 hx
      exact dpN_le d y)
    show 1 + _ ≤ d + 1
    omega
theorem sum_take_le (l : List Nat) (k : Nat) : (l.take k).sum ≤ l.sum := by
  conv => rhs; rw [← List.take_append_drop k l]
  rw [List.sum_append]
  omega
theorem mem_sum_le : ∀ (l : List Nat) (x : Nat), x ∈ l → x ≤ l.sum
  | [], _, h => by cases h
  | y :: r, x, h => by
    rw [List.sum_cons]
    rcases List.mem_cons.1 h with rfl | h
    · omega
    · have := mem_sum_le r x h; omega
def SzO (w : World) (m n : Nat) (e : Ending) (w' : World) : Prop := e = .returned (.tuple #[.int .i64 (m : Int), .int .i64 (n : Int)]) ∧ Below w.heap.size w w'
set_option maxRecDepth 100000 in
set_option maxHeartbeats 4000000 in
theorem size_any' : ∀ (d : Nat) (c : Cn) (w : World), TAt d w c → szN d c ≤ 1000000000 → d ≤ 100000 →
    Calls Tryz.prog 45 #[c.agg] w (SzO w (szN d c) (dpN d c))
  | 0, _, _, h, _, _ => h.elim
  | d + 1, c, w, ⟨hok, ⟨ha1, ha2, ha3'⟩, hV, hW, hA, hC⟩, hsz, hd => by
    have ha3 := wdM_le ha3'
    clear ha3'
    have HI := Lib.hid (fun c w h1 h2 => size_any' d c w h1 h2 (by omega))
    have e1 : szN (d + 1) c = 1 + (c.args.map (szN d)).sum := rfl
    have e2 : dpN (d + 1) c = 1 + (c.args.map (dpN d)).foldl max 0 := rfl
    have HS := Lib.hid e1
    have HD := Lib.hid e2
    have hsz2 : (c.args.map (szN d)).sum ≤ 1000000000 := by omega
    obtain ⟨R1, hR1⟩ : ∃ z, szN (d + 1) c = z := ⟨_, rfl⟩
    obtain ⟨R2, hR2⟩ : ∃ z, dpN (d + 1) c = z := ⟨_, rfl⟩
    rw [hR1] at HS
    rw [hR2] at HD
    rw [hR1, hR2]
    have HA := Lib.hid hA
    have HC := Lib.hid hC
    unfold Cn.agg
    clear hok hV hW hA hC ha1 ha2 e1 e2 hR1 hR2 hsz
    obtain ⟨n, args⟩ := c
    obtain ⟨kind, name, field, sign, va, vc, vals, wa, wc, whs, within, number, aa, ac⟩ := n
    simp only [Cn.nd, Cn.args] at *
    have HS2 := Lib.hid hsz2
    obtain ⟨nv, hnv⟩ : ∃ z, vals.length = z := ⟨_, rfl⟩
    obtain ⟨nw, hnw⟩ : ∃ z, whs.length = z := ⟨_, rfl⟩
    obtain ⟨na, hna⟩ : ∃ z, args.length = z := ⟨_, rfl⟩
    rw [hnv, hnw, hna]
    rw [hna] at ha3
    have HNA := Lib.hid hna
    clear hnv hnw hna hsz2
    have HX := Lib.hid (XB.new w [.int .i64 kind, .string name, .string field, .string sign, .slice va nv vc, .slice wa nw wc, .int .i64 within, .int .i64 number, .slice aa na ac] 30)
    have HB := Lib.hid ((Below.refl w.heap.size w).alloc (Nat.le_refl _) (.cells #[.int .i64 kind, .string name, .string field, .string sign, .slice va nv vc, .slice wa nw wc, .int .i64 within, .int .i64 number, .slice aa na ac] 30))
    go_enter Tryz.func45, Tryz.ntmps45
    go_wp2_with fail
    go_loopw [2, 3, 11] (fun u v i wr => ∃ k m x : Nat, k ≤ na ∧ i = .int .i64 k ∧ u = .int .i64 ((m : Int) + 1) ∧ v = .int .i64 ((x : Int) + 1) ∧ m ≤ 1000000000 ∧ x ≤ d ∧ Below w.heap.size w wr ∧ Hid (m = ((args.map (szN d)).take k).sum ∧ x = ((args.map (dpN d)).take k).foldl max 0)) (fun _ _ i _ => na - (intOf i).toNat)
    case atStart => exact ⟨0, 0, 0, Nat.zero_le _, rfl, rfl, rfl, Nat.zero_le _, Nat.zero_le _, HB.out, Lib.hid ⟨rfl, rfl⟩⟩
    case round =>
      obtain ⟨k, m, x, hk, rfl, rfl, rfl, hm, hx, hBr, HF⟩ := hrel
      have HBr := Lib.hid hBr
      by_cases hlt : k < na
      · have hkl : k < args.length := by have := HNA.out; omega
        obtain ⟨p, off, rfl, hp, c0, c1, c2, c3, c4, c5, c6, c7, c8⟩ := (HA.out.below HBr.out).at9c hkl
        have HTx := Lib.hid ((HC.out args[k] (List.getElem_mem hkl)).below HBr.out)
        have hle : szN d args[k] ≤ (args.map (szN d)).sum := mem_sum_le _ _ (List.mem_map.2 ⟨_, List.getElem_mem hkl, rfl⟩)
        have hdl := dpN_le d args[k]
        have C1 := Lib.hid (fun w (h : TAt d w args[k]) => HI.out args[k] w h (by have := HS2.out; omega))
        have t1 : (args.map (szN d)).take (k + 1) = (args.map (szN d)).take k ++ [szN d args[k]] := by
          rw [List.take_succ_eq_append_getElem (by simpa using hkl), List.getElem_map]
        have t2 : (args.map (dpN d)).take (k + 1) = (args.map (dpN d)).take k ++ [dpN d args[k]] := by
          rw [List.take_succ_eq_append_getElem (by simpa using hkl), List.getElem_map]
        have hs3 := sum_take_le (args.map (szN d)) (k + 1)
        rw [t1, List.sum_append, ← HF.out.1] at hs3
        obtain ⟨y, hy⟩ : ∃ z, szN d args[k] = z := ⟨_, rfl⟩
        obtain ⟨t, ht⟩ : ∃ z, dpN d args[k] = z := ⟨_, rfl⟩
        rw [hy] at t1 hs3 C1 hle
        rw [ht] at t2 hdl C1
        have hs4 : m + y ≤ 1000000000 := by have := HS2.out; simp at hs3; omega
        have T1 := Lib.hid t1
        have T2 := Lib.hid t2
        clear hy ht t1 t2 hs3 hBr
        have hyb : y ≤ 1000000000 := by omega
        clear hle
        unfold Cn.agg at C1
        generalize args[k] = x' at *
        obtain ⟨xn, xargs⟩ := x'
        obtain ⟨xkind, xname, xfield, xsign, xva, xvc, xvals, xwa, xwc, xwhs, xwithin, xnumber, xaa, xac⟩ := xn
        simp only [Cn.nd, Cn.args] at *
        have HTxa := Lib.hid (HTx.out.alloc (.cells #[.int .i64 xkind, .string xname, .string xfield, .string xsign, .slice xva xvals.length xvc, .slice xwa xwhs.length xwc, .int .i64 xwithin, .int .i64 xnumber, .slice xaa xargs.length xac] 30))
        have HBa := Lib.hid (HBr.out.alloc HBr.out.size (.cells #[.int .i64 xkind, .string xname, .string xfield, .string xsign, .slice xva xvals.length xvc, .slice xwa xwhs.length xwc, .int .i64 xwithin, .int .i64 xnumber, .slice xaa xargs.length xac] 30))
        clear HTx HBr
        obtain ⟨xnv, hxnv⟩ : ∃ z, xvals.length = z := ⟨_, rfl⟩
        obtain ⟨xnw, hxnw⟩ : ∃ z, xwhs.length = z := ⟨_, rfl⟩
        obtain ⟨xna, hxna⟩ : ∃ z, xargs.length = z := ⟨_, rfl⟩
        rw [hxnv] at c4 C1 HTxa HBa
        rw [hxnw] at c5 C1 HTxa HBa
        rw [hxna] at c8 C1 HTxa HBa
        clear hxnv hxnw hxna
        go_wp2_with fail
        ((with_reducible refine (C1.out _ HTxa.out).mono ?_); rintro e w5 ⟨rfl, hb5⟩)
        have HB5 := Lib.hid (HBa.out.trans (hb5.mono HBa.out.size))
        clear hb5 HTxa HBa c0 c1 c2 c3 c4 c5 c6 c7 c8 hp
        go_wp2_with fail
        go_roundw
        case rel => exact ⟨k + 1, m + y, max x t, by omega, by go_num, by congr 1; omega, by congr 1; omega, hs4, by omega, HB5.out, Lib.hid ⟨by rw [T1.out, List.sum_append, HF.out.1]; simp, by rw [T2.out, foldl_max_app, HF.out.2]⟩⟩
        case measure => simp [intOf]; omega
      · have HZ1 : Hid (R1 = m + 1) := Lib.hid (by rw [HS.out, HF.out.1, List.take_of_length_le (by rw [List.length_map]; have := HNA.out; omega)]; omega)
        have HZ2 : Hid (R2 = x + 1) := Lib.hid (by rw [HD.out, HF.out.2, List.take_of_length_le (by rw [List.length_map]; have := HNA.out; omega)]; omega)
        go_wp2_with fail
        go_ret2
        exact ⟨by rw [HZ1.out, HZ2.out]; rfl, HBr.out⟩
theorem CondFault_any (d : Nat) (c : Cn) (w : World) (hT : TAt d w c) (hB : Tbs w) (hsz : szN d c ≤ 1000000000) (hd : d ≤ 100000) :
    Calls Tryz.prog 13 #[c.agg] w (IntO w (cnE d c)) := by
  have HE := Lib.hid (show cnE d c = if 300 < szN d c ∨ 20 < dpN d c then 2 else trE d c from rfl)
  have CL := Lib.hid (fun w h => size_any' d c w h hsz hd)
  have CW := Lib.hid (fun w h1 h2 => condFault_any d c w h1 h2)
  have hdp := dpN_le d c
  obtain ⟨m, hm⟩ : ∃ z, szN d c = z := ⟨_, rfl⟩
  obtain ⟨x, hx⟩ : ∃ z, dpN d c = z := ⟨_, rfl⟩
  obtain ⟨t, ht⟩ : ∃ z, trE d c = z := ⟨_, rfl⟩
  obtain ⟨R, hR⟩ : ∃ z, cnE d c = z := ⟨_, rfl⟩
  rw [hm] at HE CL hsz
  rw [hx] at HE CL hdp
  rw [ht] at CW HE
  rw [hR] at HE ⊢
  clear hm hx ht hR
  have HT := Lib.hid hT
  have HB := Lib.hid hB
  clear hT hB
  unfold Cn.agg at *
  obtain ⟨n, args⟩ := c
  obtain ⟨kind, name, field, sign, va, vc, vals, wa, wc, whs, within, number, aa, ac⟩ := n
  simp only [Cn.nd, Cn.args] at *
  obtain ⟨nv, hnv⟩ : ∃ z, vals.length = z := ⟨_, rfl⟩
  obtain ⟨nw, hnw⟩ : ∃ z, whs.length = z := ⟨_, rfl⟩
  obtain ⟨na, hna⟩ : ∃ z, args.length = z := ⟨_, rfl⟩
  rw [hnv, hnw, hna] at CL CW ⊢
  clear hnv hnw hna
  have HX := Lib.hid (XB.new w [.int .i64 kind, .string name, .string field, .string sign, .slice va nv vc, .slice wa nw wc, .int .i64 within, .int .i64 number, .slice aa na ac] 30)
  have HTa := Lib.hid (HT.out.alloc (.cells #[.int .i64 kind, .string name, .string field, .string sign, .slice va nv vc, .slice wa nw wc, .int .i64 within, .int .i64 number, .slice aa na ac] 30))
  have HBa := Lib.hid (HB.out.alloc (.cells #[.int .i64 kind, .string name, .string field, .string sign, .slice va nv vc, .slice wa nw wc, .int .i64 within, .int .i64 number, .slice aa na ac] 30))
  have HL := Lib.hid ((Below.refl w.heap.size w).alloc (Nat.le_refl _) (.cells #[.int .i64 kind, .string name, .string field, .string sign, .slice va nv vc, .slice wa nw wc, .int .i64 within, .int .i64 number, .slice aa na ac] 30))
  clear HT HB
  go_enter Tryz.func13, Tryz.ntmps13
  go_wp2_with fail
  ((with_reducible refine (CL.out _ HTa.out).mono ?_); rintro e w1 ⟨rfl, hb1⟩)
  have HX1 := Lib.hid (HX.out.below hb1)
  have HT1 := Lib.hid (HTa.out.below hb1)
  have HB1 := Lib.hid (HBa.out.below hb1)
  have HL1 := Lib.hid (HL.out.trans (hb1.mono HL.out.size))
  clear hb1 HX HTa HBa HL
  by_cases h1 : 300 < m
  · have HR2 : Hid (R = 2) := Lib.hid (HE.out.trans (if_pos (.inl h1)))
    have h1' : (300 : Int) < (m : Int) := by omega
    clear h1
    go_wp2_with fail
    go_ret
    exact ⟨ret_int HR2.out.symm, HL1.out⟩
  · have h1' : ¬ (300 : Int) < (m : Int) := by omega
    by_cases h2 : 20 < x
    · have HR2 : Hid (R = 2) := Lib.hid (HE.out.trans (if_pos (.inr h2)))
      have h2' : (20 : Int) < (x : Int) := by omega
      clear h1 h2
      go_wp2_with fail
      go_ret
      exact ⟨ret_int HR2.out.symm, HL1.out⟩
    · have HR2 : Hid (R = t) := Lib.hid (HE.out.trans (if_neg (by omega)))
      have h2' : ¬ (20 : Int) < (x : Int) := by omega
      clear h1 h2
      have x0 := HX1.out.2 0 _ rfl
      have x1 := HX1.out.2 1 _ rfl
      have x2 := HX1.out.2 2 _ rfl
      have x3 := HX1.out.2 3 _ rfl
      have x4 := HX1.out.2 4 _ rfl
      have x5 := HX1.out.2 5 _ rfl
      have x6 := HX1.out.2 6 _ rfl
      have x7 := HX1.out.2 7 _ rfl
      have x8 := HX1.out.2 8 _ rfl
      have xl := HX1.out.1
      go_wp2_with fail
      ((with_reducible refine (CW.out _ HT1.out HB1.out).mono ?_); rintro e w2 ⟨rfl, hb2⟩)
      have HL2 := Lib.hid (HL1.out.trans (hb2.mono HL1.out.size))
      clear hb2
      go_wp2_with fail
      go_ret
      exact ⟨ret_int HR2.out.symm, HL2.out⟩
end Go.Proofs.YtfdpfkdfglombaaGreatDoor
