/- cmp.Compare at strings. -/
import Derived.Test.YtmhnnbffhciinaaDoorCeSpec
import Derived.Test.YtmhnnbffhciinaaDoorMeasure
import Derived.Test.YtmhnnbffhciinaaDoorLists
import Derived.WalkLawsBesides
import Derived.Test.YtmhnnbffhciinaaDoorKeyOf
import Derived.Deep.QuietTactic
import Derived.BigQuiet
import Derived.Test.YtmhnnbffhciinaaDoorOfSpec
set_option linter.unusedVariables false
namespace Go.Proofs.YtmhnnbffhciinaaDoor
open Go.RowKit

theorem cmpB_if2 (a b : ByteArray) : cmpB a b = if Op.bytesLess a.toList b.toList = true then -1 else if (a.toList == b.toList) = true then 0 else 1 := by
  have h1 := lexU_val a.toList b.toList
  have h2 := cmpB_tot.eq a b
  rw [less_lex]
  simp only [decide_eq_true_eq, beq_iff_eq]
  unfold cmpB at *
  by_cases h : a.toList = b.toList
  · have h3 := h2.2 (toList_inj h)
    rw [if_neg (by omega), if_pos h, h3]
  · have h3 : ¬ lexC cmpU a.toList b.toList = 0 := fun e => h (by rw [h2.1 e])
    rw [if_neg h]
    split <;> omega
theorem isNaN_str (s : ByteArray) (w : World) : Calls Tryd.prog 53 #[.string s] w fun e w' => e = .returned (.bool false) ∧ w = w' := by
  go_enter Tryd.func53, Tryd.ntmps53
  go_wp2
  go_ret
  exact ⟨rfl, rfl⟩
theorem compare_str (x y : ByteArray) (w : World) : Calls Tryd.prog 46 #[.string x, .string y] w fun e w' => e = .returned (.int .i64 (cmpB x y)) ∧ w = w' := by
  rw [cmpB_if2]
  obtain ⟨b1, h1⟩ : ∃ b, Op.bytesLess x.toList y.toList = b := ⟨_, rfl⟩
  obtain ⟨b3, h3⟩ : ∃ b, (x.toList == y.toList) = b := ⟨_, rfl⟩
  rw [h1, h3]
  cases b1 <;> cases b3 <;> (go_enter Tryd.func46, Tryd.ntmps46; go_wp2_with (go_at_call 53; refine (isNaN_str _ _).mono ?_; rintro e w' ⟨rfl, rfl⟩); go_ret; exact ⟨rfl, rfl⟩)
theorem cmpL_step (l m : List ByteArray) (k : Nat) (h1 : k < l.length) (h2 : k < m.length) : cmpL (l.drop k) (m.drop k) = if cmpB l[k] m[k] = 0 then cmpL (l.drop (k + 1)) (m.drop (k + 1)) else cmpB l[k] m[k] := by
  rw [List.drop_eq_getElem_cons h1, List.drop_eq_getElem_cons h2]
  rfl
theorem cmpL_end (l m : List ByteArray) (k : Nat) (h1 : k ≤ l.length) (h2 : k ≤ m.length) : (l.length = k → m.length = k → cmpL (l.drop k) (m.drop k) = 0) ∧ (l.length = k → k < m.length → cmpL (l.drop k) (m.drop k) = -1) ∧ (k < l.length → m.length = k → cmpL (l.drop k) (m.drop k) = 1) := by
  refine ⟨fun a b => ?_, fun a b => ?_, fun a b => ?_⟩
  · rw [List.drop_of_length_le (by omega), List.drop_of_length_le (by omega)]; rfl
  · rw [List.drop_of_length_le (l := l) (by omega), List.drop_eq_getElem_cons b]; rfl
  · rw [List.drop_of_length_le (l := m) (by omega), List.drop_eq_getElem_cons a]; rfl

set_option maxHeartbeats 4000000 in
/-- slices.Compare at strings -/
theorem compare_strs (a a' : Option Addr) (l l' : List ByteArray) (n n' c c' : Nat) (w : World) (hn : l.length = n) (hn' : l'.length = n') (hn1 : n ≤ 1000) (hn2 : n' ≤ 1000) (h : StrsAt w a l) (h' : StrsAt w a' l') :
    Calls Tryd.prog 22 #[.slice a n c, .slice a' n' c'] w fun e w' => e = .returned (.int .i64 (cmpL l l')) ∧ w = w' := by
  have HN := Lib.hid hn
  have HN' := Lib.hid hn'
  have HA := Lib.hid h
  have HA' := Lib.hid h'
  clear hn hn' h h'
  obtain ⟨R, hR⟩ : ∃ R, cmpL l l' = R := ⟨_, rfl⟩
  rw [hR]
  have HR0 : Hid (cmpL (l.drop 0) (l'.drop 0) = R) := Lib.hid (by simpa using hR)
  clear hR
  go_enter Tryd.func22, Tryd.ntmps22
  go_wp2_with fail
  go_loop [5, 6, 7, 8, 11] (fun _ _ _ _ i => ∃ k : Nat, k ≤ n ∧ k ≤ n' ∧ i = .int .i64 k ∧ Hid (cmpL (l.drop k) (l'.drop k) = R)) (fun _ _ _ _ i => n - (intOf i).toNat)
  case atStart => exact ⟨0, Nat.zero_le _, Nat.zero_le _, rfl, HR0⟩
  case round =>
    obtain ⟨k, hk, hk', rfl, HR⟩ := hrel
    by_cases hlt : k < n
    · have hkl : k < l.length := by have := HN.out; omega
      obtain ⟨p, off, rfl, hp, c0⟩ := HA.out k hkl
      by_cases hlt' : k < n'
      · have hkl' : k < l'.length := by have := HN'.out; omega
        obtain ⟨p', off', rfl, hp', c0'⟩ := HA'.out k hkl'
        have HS := Lib.hid (cmpL_step l l' k hkl hkl')
        generalize l[k] = x at *
        generalize l'[k] = y at *
        obtain ⟨v, hv⟩ : ∃ v, cmpB x y = v := ⟨_, rfl⟩
        have C := Lib.hid (fun w => compare_str x y w)
        rw [hv] at HS C
        clear hv
        by_cases hz : v = 0
        · have HR1 := Lib.hid ((HS.out.trans (if_pos hz)).symm.trans HR.out)
          subst hz
          go_wp2_with fail
          with_reducible refine (C.out _).mono ?_
          rintro e w1 ⟨rfl, rfl⟩
          go_wp2_with fail
          go_round
          case rel => exact ⟨k + 1, by omega, by omega, by go_num, HR1⟩
          case measure => simp [intOf]; omega
        · have HR1 := Lib.hid ((HS.out.trans (if_neg hz)).symm.trans HR.out)
          have hz1 : (v != 0) = true := by simpa using hz
          clear hz
          go_wp2_with fail
          with_reducible refine (C.out _).mono ?_
          rintro e w1 ⟨rfl, rfl⟩
          go_wp2_with fail
          go_ret
          exact ⟨ret_int HR1.out, rfl⟩
      · have HE := Lib.hid ((cmpL_end l l' k (by omega) (by have := HN'.out; omega)).2.2 hkl (by have := HN'.out; omega))
        go_wp2_with fail
        go_ret
        exact ⟨ret_int (HE.out.symm.trans HR.out), rfl⟩
    · obtain rfl : k = n := by omega
      clear hlt hk
      by_cases hlt' : k < n'
      · have HE := Lib.hid ((cmpL_end l l' k (by have := HN.out; omega) (by have := HN'.out; omega)).2.1 HN.out (by have := HN'.out; omega))
        go_wp2_with fail
        go_ret
        exact ⟨ret_int (HE.out.symm.trans HR.out), rfl⟩
      · have HE := Lib.hid ((cmpL_end l l' k (by have := HN.out; omega) (by have := HN'.out; omega)).1 HN.out (by have := HN'.out; omega))
        go_wp2_with fail
        go_ret
        exact ⟨ret_int (HE.out.symm.trans HR.out), rfl⟩
end Go.Proofs.YtmhnnbffhciinaaDoor
/- slices.ContainsFunc over strings: is one of them no key (printed by gen_keyhas.py). -/
set_option linter.unusedVariables false
namespace Go.Proofs.YtmhnnbffhciinaaDoor
open Go.RowKit

/-- one of the strings is no key -/
def badK (l : List ByteArray) : Bool := l.any fun s => !keyB s
theorem badK_snoc (l : List ByteArray) (k : Nat) (h : k < l.length) : badK (l.take (k + 1)) = (badK (l.take k) || !keyB l[k]) := by
  unfold badK
  rw [List.take_succ_eq_append_getElem h, List.any_append]
  simp
theorem badK_hit (l : List ByteArray) (k : Nat) (h : k < l.length) (hb : keyB l[k] = false) : badK l = true := by
  unfold badK
  rw [List.any_eq_true]
  exact ⟨l[k], List.getElem_mem h, by simp [hb]⟩
theorem badK_all (l : List ByteArray) : badK (l.take l.length) = badK l := by rw [List.take_length]

theorem keyNo1_any (s : ByteArray) (w : World) (hs : s.size ≤ maxLen) : Calls Tryd.prog 20 #[.string s] w fun e w' => e = .returned (.bool (!keyB s)) ∧ Below w.heap.size w w' := by
  have C := Lib.hid (isKey_any s w hs)
  clear hs
  generalize keyB s = b at *
  cases b <;> (go_enter Tryd.func20, Tryd.ntmps20; go_wp2_with fail; ((with_reducible refine C.out.mono ?_); rintro e w1 ⟨rfl, rfl⟩; go_wp2_with fail; go_ret; exact ⟨rfl, Below.refl _ _⟩))

set_option maxHeartbeats 4000000 in
theorem keyNoIdx_any (a : Option Addr) (l : List ByteArray) (n c : Nat) (w : World) (hn : l.length = n) (hn1 : n ≤ 1000) (hI : StrsAt w a l) (hs : ∀ s ∈ l, s.size ≤ 1000) :
    Calls Tryd.prog 40 #[.slice a n c, .func (.func 20) #[] #[]] w (IdxOut w (badK l)) := by
  have HN := Lib.hid hn
  have HI := Lib.hid hI
  have HS := Lib.hid hs
  clear hn hI hs
  go_enter Tryd.func40, Tryd.ntmps40
  go_wp2_with fail
  go_loopw [5, 8] (fun _ i wr => ∃ k : Nat, k ≤ n ∧ i = .int .i64 k ∧ Below w.heap.size w wr ∧ Hid (badK (l.take k) = false)) (fun _ i _ => n - (intOf i).toNat)
  case atStart => exact ⟨0, Nat.zero_le _, rfl, Below.refl _ _, Lib.hid rfl⟩
  case round =>
    obtain ⟨k, hk, rfl, hB, hH⟩ := hrel
    by_cases hlt : k < n
    · have hkl : k < l.length := by have := HN.out; omega
      obtain ⟨p, off, rfl, hp, c0⟩ := (HI.out.below hB) k hkl
      have C := Lib.hid (keyNo1_any l[k] wr (by have := HS.out l[k] (List.getElem_mem hkl); unfold maxLen; omega))
      have HH := Lib.hid (badK_hit l k hkl)
      have HT := Lib.hid (badK_snoc l k hkl)
      generalize l[k] = x at *
      generalize keyB x = b at *
      cases b with
      | false =>
        have HR := Lib.hid (HH.out rfl)
        go_wp2_with fail
        with_reducible refine C.out.mono ?_
        rintro e w1 ⟨rfl, b1⟩
        have HB1 := Lib.hid (hB.trans (b1.mono hB.size))
        go_wp2_with fail
        go_ret
        exact ⟨k, rfl, by rw [HR.out]; simp, HB1.out⟩
      | true =>
        have HR := Lib.hid (HT.out.trans (by rw [hH.out]))
        go_wp2_with fail
        with_reducible refine C.out.mono ?_
        rintro e w1 ⟨rfl, b1⟩
        have HB1 := Lib.hid (hB.trans (b1.mono hB.size))
        go_wp2_with fail
        go_roundw
        case rel => exact ⟨k + 1, by omega, by go_num, HB1.out, HR⟩
        case measure => simp [intOf]; omega
    · obtain rfl : k = n := by omega
      have HD := Lib.hid (show badK l = false by rw [← badK_all, HN.out]; exact hH.out)
      go_wp2_with fail
      go_ret
      exact ⟨-1, rfl, by rw [HD.out]; rfl, hB⟩

theorem keyNo_any (a : Option Addr) (l : List ByteArray) (n c : Nat) (w : World) (hn : l.length = n) (hn1 : n ≤ 1000) (hI : StrsAt w a l) (hs : ∀ s ∈ l, s.size ≤ 1000) :
    Calls Tryd.prog 19 #[.slice a n c, .func (.func 20) #[] #[]] w fun e w' => e = .returned (.bool (badK l)) ∧ Below w.heap.size w w' := by
  have C := Lib.hid (keyNoIdx_any a l n c w hn hn1 hI hs)
  clear hn hI hs
  generalize badK l = b at *
  go_enter Tryd.func19, Tryd.ntmps19
  go_wp2_with fail
  with_reducible refine C.out.mono ?_
  rintro e w1 ⟨r, rfl, hr, hb⟩
  have HR := Lib.hid hr
  clear hr
  go_wp2_with fail
  go_ret
  exact ⟨ret_bool HR.out, hb⟩

theorem keyNoR1_any (s : ByteArray) (w : World) (hs : s.size ≤ maxLen) : Calls Tryd.prog 24 #[.string s] w fun e w' => e = .returned (.bool (!keyB s)) ∧ Below w.heap.size w w' := by
  have C := Lib.hid (keyOf_any s w hs)
  clear hs
  generalize keyB s = b at *
  cases b <;> (go_enter Tryd.func24, Tryd.ntmps24; go_wp2_with fail; ((with_reducible refine C.out.mono ?_); rintro e w1 ⟨rfl, b1⟩; go_wp2_with fail; go_ret; exact ⟨rfl, b1⟩))

set_option maxHeartbeats 4000000 in
theorem keyNoRIdx_any (a : Option Addr) (l : List ByteArray) (n c : Nat) (w : World) (hn : l.length = n) (hn1 : n ≤ 1000) (hI : StrsAt w a l) (hs : ∀ s ∈ l, s.size ≤ 1000) :
    Calls Tryd.prog 40 #[.slice a n c, .func (.func 24) #[] #[]] w (IdxOut w (badK l)) := by
  have HN := Lib.hid hn
  have HI := Lib.hid hI
  have HS := Lib.hid hs
  clear hn hI hs
  go_enter Tryd.func40, Tryd.ntmps40
  go_wp2_with fail
  go_loopw [5, 8] (fun _ i wr => ∃ k : Nat, k ≤ n ∧ i = .int .i64 k ∧ Below w.heap.size w wr ∧ Hid (badK (l.take k) = false)) (fun _ i _ => n - (intOf i).toNat)
  case atStart => exact ⟨0, Nat.zero_le _, rfl, Below.refl _ _, Lib.hid rfl⟩
  case round =>
    obtain ⟨k, hk, rfl, hB, hH⟩ := hrel
    by_cases hlt : k < n
    · have hkl : k < l.length := by have := HN.out; omega
      obtain ⟨p, off, rfl, hp, c0⟩ := (HI.out.below hB) k hkl
      have C := Lib.hid (keyNoR1_any l[k] wr (by have := HS.out l[k] (List.getElem_mem hkl); unfold maxLen; omega))
      have HH := Lib.hid (badK_hit l k hkl)
      have HT := Lib.hid (badK_snoc l k hkl)
      generalize l[k] = x at *
      generalize keyB x = b at *
      cases b with
      | false =>
        have HR := Lib.hid (HH.out rfl)
        go_wp2_with fail
        with_reducible refine C.out.mono ?_
        rintro e w1 ⟨rfl, b1⟩
        have HB1 := Lib.hid (hB.trans (b1.mono hB.size))
        go_wp2_with fail
        go_ret
        exact ⟨k, rfl, by rw [HR.out]; simp, HB1.out⟩
      | true =>
        have HR := Lib.hid (HT.out.trans (by rw [hH.out]))
        go_wp2_with fail
        with_reducible refine C.out.mono ?_
        rintro e w1 ⟨rfl, b1⟩
        have HB1 := Lib.hid (hB.trans (b1.mono hB.size))
        go_wp2_with fail
        go_roundw
        case rel => exact ⟨k + 1, by omega, by go_num, HB1.out, HR⟩
        case measure => simp [intOf]; omega
    · obtain rfl : k = n := by omega
      have HD := Lib.hid (show badK l = false by rw [← badK_all, HN.out]; exact hH.out)
      go_wp2_with fail
      go_ret
      exact ⟨-1, rfl, by rw [HD.out]; rfl, hB⟩

theorem keyNoR_any (a : Option Addr) (l : List ByteArray) (n c : Nat) (w : World) (hn : l.length = n) (hn1 : n ≤ 1000) (hI : StrsAt w a l) (hs : ∀ s ∈ l, s.size ≤ 1000) :
    Calls Tryd.prog 19 #[.slice a n c, .func (.func 24) #[] #[]] w fun e w' => e = .returned (.bool (badK l)) ∧ Below w.heap.size w w' := by
  have C := Lib.hid (keyNoRIdx_any a l n c w hn hn1 hI hs)
  clear hn hI hs
  generalize badK l = b at *
  go_enter Tryd.func19, Tryd.ntmps19
  go_wp2_with fail
  with_reducible refine C.out.mono ?_
  rintro e w1 ⟨r, rfl, hr, hb⟩
  have HR := Lib.hid hr
  clear hr
  go_wp2_with fail
  go_ret
  exact ⟨ret_bool HR.out, hb⟩
end Go.Proofs.YtmhnnbffhciinaaDoor
/- measure.CheckCells, handref1.CellsFault, measure.full. -/
set_option linter.unusedVariables false
namespace Go.Proofs.YtmhnnbffhciinaaDoor
open Go.RowKit

theorem quiet_lf {P : Program} {f : FuncId} {args : Array Value} {w : World} {n : Nat} {v : Value}
    (h : Calls P f args (w.drewN n) fun e w' => e = .returned v ∧ w.drewN n = w') : Calls P f args (w.drewN n) fun e w'' => e = .returned v ∧ ∃ m, w'' = w.drewN m :=
  h.mono fun _ _ ⟨he, hm⟩ => ⟨he, n, hm.symm⟩
theorem RAt.at3 {α : Type} {w : World} {a : Option Addr} {C : Nat} {f : α → List Value} {l : List α} (h : RAt w a C f l) {j : Nat} (hj : j < l.length) {v0 v1 v2 : Value} (e : f l[j] = [v0, v1, v2]) :
    ∃ p off, a = some ⟨p, off, none⟩ ∧ p < w.heap.size ∧ w.cell? ⟨p, off + j * C, none⟩ = some v0 ∧ w.cell? ⟨p, off + j * C + 1, none⟩ = some v1 ∧ w.cell? ⟨p, off + j * C + 2, none⟩ = some v2 := by
  obtain ⟨p, off, h1, h2, h3⟩ := h j hj
  rw [e] at h3
  exact ⟨p, off, h1, h2, h3 0 v0 rfl, h3 1 v1 rfl, h3 2 v2 rfl⟩
theorem within_b (n lo hi : Int) (w : World) : Calls Tryd.prog 26 #[.int .i64 n, .int .i64 lo, .int .i64 hi] w fun e w' => e = .returned (.bool (decide (lo ≤ n) && decide (n ≤ hi))) ∧ w = w' := by
  by_cases h : lo ≤ n ∧ n ≤ hi
  · rw [decide_eq_true h.1, decide_eq_true h.2]
    exact within_yes n lo hi w h.1 h.2
  · rw [show (decide (lo ≤ n) && decide (n ≤ hi)) = false by simp; omega]
    exact within_no n lo hi w (by omega)
theorem full_any (v : Value) (many cents : Int) (w : World) : Calls Tryd.prog 23 #[.agg #[v, .int .i64 many, .int .i64 cents]] w fun e w' => e = .returned (.bool (fullB many cents)) ∧ Below w.heap.size w w' := by
  have C1 := Lib.hid (fun w => within_b many 0 1000000 w)
  have C2 := Lib.hid (fun w => within_b cents (-1000000000000) 1000000000000 w)
  unfold fullB
  generalize (decide (0 ≤ many) && decide (many ≤ 1000000)) = b1 at *
  generalize (decide (-1000000000000 ≤ cents) && decide (cents ≤ 1000000000000)) = b2 at *
  cases b1 with
  | false =>
    go_enter Tryd.func23, Tryd.ntmps23
    go_wp2_with fail
    with_reducible refine (C1.out _).mono ?_
    rintro e w1 ⟨rfl, rfl⟩
    go_wp2_with fail
    go_ret
    exact ⟨rfl, (Below.refl _ _).alloc (Nat.le_refl _) _⟩
  | true =>
    go_enter Tryd.func23, Tryd.ntmps23
    go_wp2_with fail
    with_reducible refine (C1.out _).mono ?_
    rintro e w1 ⟨rfl, rfl⟩
    go_wp2_with fail
    with_reducible refine (C2.out _).mono ?_
    rintro e w1 ⟨rfl, rfl⟩
    go_wp2_with fail
    go_ret
    exact ⟨rfl, (Below.refl _ _).alloc (Nat.le_refl _) _⟩
end Go.Proofs.YtmhnnbffhciinaaDoor
/- measure.CheckCells and handref1.CellsFault (printed by gen_checkce.py). -/
set_option linter.unusedVariables false
namespace Go.Proofs.YtmhnnbffhciinaaDoor
open Go.RowKit

theorem ceSt1 {b2 b3 b4 : Bool} : ceSt true b2 b3 b4 = 3 := rfl
theorem ceSt2 {b3 b4 : Bool} : ceSt false true b3 b4 = 5 := rfl
theorem ceSt3 {b4 : Bool} : ceSt false false true b4 = 7 := rfl
theorem ceSt4 : ceSt false false false false = 1 := rfl
theorem ceSt5 : ceSt false false false true = 0 := rfl
theorem ceStep_eq (l : List Ce) (k : Nat) (h : k < l.length) (h0 : 0 < l.length) : ceStep l k h = ceSt (!decide (l[k].keys.length = l[0].keys.length) || decide (6 < l[k].keys.length)) (badK l[k].keys) (decide (0 < k) && decide (cmpL l[k].keys (l[k - 1]'(by omega)).keys ≤ 0)) (fullB l[k].many l[k].cents) := rfl
theorem XB.at3 {w : World} {q : Nat} {v0 v1 v2 : Value} (h : XB w q [v0, v1, v2]) : w.cell? ⟨q, 0, none⟩ = some v0 ∧ w.cell? ⟨q, 1, none⟩ = some v1 ∧ w.cell? ⟨q, 2, none⟩ = some v2 :=
  ⟨h.2 0 _ rfl, h.2 1 _ rfl, h.2 2 _ rfl⟩
theorem fullB_no {many cents : Int} (h : many < 0 ∨ 1000000 < many ∨ cents < -1000000000000 ∨ 1000000000000 < cents) : fullB many cents = false := by
  unfold fullB
  rw [Bool.eq_false_iff]
  intro e
  simp only [Bool.and_eq_true, decide_eq_true_eq] at e
  omega
theorem fullB_yes {many cents : Int} (h1 : ¬ many < 0) (h2 : ¬ 1000000 < many) (h3 : ¬ cents < -1000000000000) (h4 : ¬ 1000000000000 < cents) : fullB many cents = true := by
  unfold fullB
  simp only [Bool.and_eq_true, decide_eq_true_eq]
  omega
theorem ce_pos {b1 b2 b3 b4 : Bool} {v g R : Int} (h : (if ceSt b1 b2 b3 b4 = 0 then g else ceSt b1 b2 b3 b4) = R) (e : ceSt b1 b2 b3 b4 = v) (hv : v ≠ 0) : v = R := by
  rw [e, if_neg hv] at h
  exact h
theorem ce_zero {b1 b2 b3 b4 : Bool} {g R : Int} (h : (if ceSt b1 b2 b3 b4 = 0 then g else ceSt b1 b2 b3 b4) = R) (e : ceSt b1 b2 b3 b4 = 0) : g = R := by
  rw [e, if_pos rfl] at h
  exact h
theorem ceE_go {l : List Ce} (h : l.length ≤ 1000) : ceE l = ceGo l l.length 0 := by
  unfold ceE
  rw [if_neg (by omega)]
theorem ceGo_end (l : List Ce) (k : Nat) (h : l.length ≤ k) : ceGo l (l.length - k) k = 0 := by
  rw [show l.length - k = 0 by omega]
  rfl

set_option maxRecDepth 100000 in
set_option maxHeartbeats 8000000 in
theorem CheckCells_any (a : Option Addr) (l : List Ce) (n c : Nat) (w : World) (hn : l.length = n) (hn1 : n ≤ 1000) (hI : RAt w a 3 Ce.cells l) (hT : TagsAt Ce.tv Ce.keys w l) (hok : ∀ x ∈ l, x.ok) :
    Calls Tryd.prog 6 #[.slice a n c] w fun e w' => e = .returned (.int .i64 (ceE l)) ∧ Below w.heap.size w w' := by
  have HN := Lib.hid hn
  have HI := Lib.hid hI
  have HT := Lib.hid hT
  have HOK := Lib.hid hok
  obtain ⟨R, hR⟩ : ∃ R, ceE l = R := ⟨_, rfl⟩
  have HR0 : Hid (ceGo l (l.length - 0) 0 = R) := Lib.hid ((ceE_go (by omega)).symm.trans hR)
  rw [hR]
  clear hn hI hT hok hR
  go_enter Tryd.func6, Tryd.ntmps6
  go_wp2_with fail
  go_loopw [3, 4, 10] (fun _ _ i wr => ∃ k : Nat, k ≤ n ∧ i = .int .i64 k ∧ Below w.heap.size w wr ∧ Hid (ceGo l (l.length - k) k = R)) (fun _ _ i _ => n - (intOf i).toNat)
  case atStart => exact ⟨0, Nat.zero_le _, rfl, Below.refl _ _, HR0⟩
  case round =>
    obtain ⟨k, hk, rfl, hB, HR⟩ := hrel
    by_cases hlt : k < n
    · have hkl : k < l.length := by have := HN.out; omega
      have hl0 : 0 < l.length := by omega
      obtain ⟨p, off, rfl, hp, c0, c1, c2⟩ := (HI.out.below hB).at3 hkl (v0 := .slice l[k].tv l[k].keys.length l[k].tc) (v1 := .int .i64 l[k].many) (v2 := .int .i64 l[k].cents) rfl
      obtain ⟨p', off', hpa, hp', z0, -, -⟩ := (HI.out.below hB).at3 hl0 (v0 := .slice l[0].tv l[0].keys.length l[0].tc) (v1 := .int .i64 l[0].many) (v2 := .int .i64 l[0].cents) rfl
      injection hpa with hpa
      injection hpa with e1 e2
      subst e1 e2
      simp only [Nat.zero_mul, Nat.add_zero] at z0
      have hcz := Lib.hid (And.intro c0 z0)
      obtain ⟨ok1, ok2, ok3, ok4, ok5, ok6⟩ := HOK.out l[k] (List.getElem_mem hkl)
      have ok0 := (HOK.out l[0] (List.getElem_mem hl0)).1
      have HT1 := Lib.hid (fun w' (hb : Below w.heap.size w w') => (HT.out.below hb) l[k] (List.getElem_mem hkl))
      have HST := Lib.hid ((ceGo_step l k hkl).symm.trans HR.out)
      rw [ceStep_eq l k hkl hl0] at HST
      have C8 := Lib.hid (fun w' (hb : Below w.heap.size w w') => keyNo_any l[k].tv l[k].keys l[k].keys.length l[k].tc w' rfl (by omega) (HT1.out w' hb) (fun s hs => by have := ok2 s hs; omega))
      have CF := Lib.hid (fun w => full_any (.slice l[k].tv l[k].keys.length l[k].tc) l[k].many l[k].cents w)
      have okp : ∀ h : k - 1 < l.length, l[k - 1].keys.length ≤ 20 := fun h => (HOK.out l[k - 1] (List.getElem_mem h)).1
      have hk1 : k - 1 < l.length := by omega
      have okp1 := okp hk1
      have HT2 := Lib.hid (fun w' (hb : Below w.heap.size w w') => (HT.out.below hb) l[k - 1] (List.getElem_mem hk1))
      have CC := Lib.hid (fun (w' : World) (hb : Below w.heap.size w w') => compare_strs l[k].tv l[k - 1].tv l[k].keys l[k - 1].keys l[k].keys.length l[k - 1].keys.length l[k].tc l[k - 1].tc w' rfl rfl (by omega) (by omega) (HT1.out w' hb) (HT2.out w' hb))
      have HP := Lib.hid (fun (w' : World) (hb : Below w.heap.size w w') => (HI.out.below hb).at3 hk1 (v0 := .slice l[k - 1].tv l[k - 1].keys.length l[k - 1].tc) (v1 := .int .i64 l[k - 1].many) (v2 := .int .i64 l[k - 1].cents) rfl)
      obtain ⟨v, hv⟩ : ∃ v, cmpL l[k].keys l[k - 1].keys = v := ⟨_, rfl⟩
      rw [show decide (cmpL l[k].keys l[k - 1].keys ≤ 0) = decide (v ≤ 0) by subst hv; exact rfl] at HST
      rw [hv] at CC
      clear hv okp ok2
      obtain ⟨b2, hb2⟩ : ∃ b, badK l[k].keys = b := ⟨_, rfl⟩
      rw [hb2] at HST C8
      clear hb2
      obtain ⟨b4, hfb⟩ : ∃ b, b = fullB l[k].many l[k].cents := ⟨_, rfl⟩
      rw [← hfb] at HST
      rw [← hfb] at CF
      clear hfb
      generalize l[k].tv = tv at *
      generalize l[k].tc = tc at *
      generalize l[k].many = many at *
      generalize l[k].cents = cents at *
      generalize l[k].keys = ks at *
      generalize l[k - 1].tv = tv' at *
      generalize l[k - 1].tc = tc' at *
      generalize l[k - 1].keys = ks' at *
      generalize l[k - 1].many = many' at *
      generalize l[k - 1].cents = cents' at *
      generalize l[0].tv = tv0 at *
      generalize l[0].tc = tc0 at *
      generalize l[0].keys.length = n0 at *
      generalize ks.length = n1 at *
      generalize ks'.length = n2 at *
      have X0 := Lib.hid (XB.new wr [.slice tv n1 tc, .int .i64 many, .int .i64 cents] 44)
      have HB := Lib.hid (hB.alloc hB.size (.cells #[.slice tv n1 tc, .int .i64 many, .int .i64 cents] 44))
      clear okp1 ok3 ok4 ok5 ok6 HOK HI HT HR HT1 HT2
      have hn0 : 0 < n := by omega
      have hn0' : (0 : Int) < (n : Int) := by omega
      by_cases h1 : n1 = n0
      · subst h1
        by_cases h6 : 6 < n1
        · rw [decide_eq_true h6, Bool.or_true] at HST
          have HR3 := Lib.hid (ce_pos HST.out ceSt1 (by omega))
          go_wp2_with fail
          go_quiet (fail)
          go_wp2_with fail
          go_ret
          exact ⟨ret_int HR3.out, below_drewN HB.out _⟩
        · rw [decide_eq_false h6, decide_eq_true rfl] at HST
          go_wp2_with fail
          go_quiet (fail)
          generalize hwq : (World.drewN _ _) = wq at *
          have HBq := Lib.hid (show Below w.heap.size w wq from hwq ▸ below_drewN HB.out _)
          have HXq := Lib.hid (show XB wq wr.heap.size [.slice tv n1 tc, .int .i64 many, .int .i64 cents] from hwq ▸ X0.out.drewN _)
          clear hwq HB X0 c0 z0 c1 c2
          generalize hqq : wr.heap.size = q at *
          have HQ := Lib.hid hqq
          clear hqq
          obtain ⟨x0, x1, x2⟩ := HXq.out.at3
          have hq := HXq.out.1
          go_wp2_with fail
          with_reducible refine (C8.out _ HBq.out).mono ?_
          rintro e w2 ⟨rfl, d2⟩
          have HB2 := Lib.hid (HBq.out.trans (d2.mono HBq.out.size))
          have HX2 := Lib.hid (HXq.out.below d2)
          clear d2 HBq HXq x0 x1 x2 hq C8
          cases b2 with
          | true =>
            have HR3 := Lib.hid (ce_pos HST.out ceSt2 (by omega))
            go_wp2_with fail
            go_ret
            exact ⟨ret_int HR3.out, HB2.out⟩
          | false =>
            obtain ⟨x0, x1, x2⟩ := HX2.out.at3
            have hq := HX2.out.1
            by_cases hk0 : 0 < k
            · obtain ⟨p', off', ha', hp', cp, -, -⟩ := HP.out _ HB2.out
              injection ha' with ha'
              injection ha' with e1 e2
              subst e1 e2
              have hd0 : decide (0 < (k : Int)) = true := by simp; omega
              clear HP
              by_cases hv : v ≤ 0
              · rw [decide_eq_true hv, decide_eq_true hk0] at HST
                have HR3 := Lib.hid (ce_pos HST.out ceSt3 (by omega))
                go_wp2_with fail
                go_quiet ((go_at_call 22; exact quiet_lf (CC.out _ (below_drewN HB2.out _))))
                go_wp2_with fail
                go_ret
                exact ⟨ret_int HR3.out, below_drewN HB2.out _⟩
              · rw [decide_eq_false hv, decide_eq_true hk0] at HST
                go_wp2_with fail
                go_quiet ((go_at_call 22; exact quiet_lf (CC.out _ (below_drewN HB2.out _))))
                generalize hwq : (World.drewN _ _) = w3 at *
                have HB3 := Lib.hid (show Below w.heap.size w w3 from hwq ▸ below_drewN HB2.out _)
                have HX3 := Lib.hid (show XB w3 q [.slice tv n1 tc, .int .i64 many, .int .i64 cents] from hwq ▸ HX2.out.drewN _)
                clear hwq HB2 HX2 x0 x1 x2 hq
                obtain ⟨x0, x1, x2⟩ := HX3.out.at3
                have hq := HX3.out.1
                go_wp2_with fail
                with_reducible refine (CF.out _).mono ?_
                rintro e w4 ⟨rfl, d4⟩
                have HB4 := Lib.hid (HB3.out.trans (d4.mono HB3.out.size))
                clear d4 HB3 x0 x1 x2 hq HX3
                cases b4 with
                | false =>
                  have HR4 := Lib.hid (ce_pos HST.out ceSt4 (by omega))
                  go_wp2_with fail
                  go_ret
                  exact ⟨ret_int HR4.out, HB4.out⟩
                | true =>
                  have HN1 := Lib.hid (ce_zero HST.out ceSt5)
                  go_wp2_with fail
                  go_roundw
                  case rel => exact ⟨k + 1, by omega, by go_num, HB4.out, HN1⟩
                  case measure => simp [intOf]; omega
            · have hd0 : decide (0 < (k : Int)) = false := by simp; omega
              rw [decide_eq_false hk0] at HST
              clear CC HP
              go_wp2_with fail
              go_quiet (fail)
              generalize hwq : (World.drewN _ _) = w3 at *
              have HB3 := Lib.hid (show Below w.heap.size w w3 from hwq ▸ below_drewN HB2.out _)
              have HX3 := Lib.hid (show XB w3 q [.slice tv n1 tc, .int .i64 many, .int .i64 cents] from hwq ▸ HX2.out.drewN _)
              clear hwq HB2 HX2 x0 x1 x2 hq
              obtain ⟨x0, x1, x2⟩ := HX3.out.at3
              have hq := HX3.out.1
              go_wp2_with fail
              with_reducible refine (CF.out _).mono ?_
              rintro e w4 ⟨rfl, d4⟩
              have HB4 := Lib.hid (HB3.out.trans (d4.mono HB3.out.size))
              clear d4 HB3 x0 x1 x2 hq HX3
              cases b4 with
              | false =>
                have HR4 := Lib.hid (ce_pos HST.out ceSt4 (by omega))
                go_wp2_with fail
                go_ret
                exact ⟨ret_int HR4.out, HB4.out⟩
              | true =>
                have HN1 := Lib.hid (ce_zero HST.out ceSt5)
                go_wp2_with fail
                go_roundw
                case rel => exact ⟨k + 1, by omega, by go_num, HB4.out, HN1⟩
                case measure => simp [intOf]; omega
      · rw [decide_eq_false h1] at HST
        have HR3 := Lib.hid (ce_pos HST.out ceSt1 (by omega))
        have hA : (n1 == n0) = false := by simpa using h1
        have hB : (n1 != n0) = true := by simpa using h1
        have hD : ((n1 : Int) == (n0 : Int)) = false := by simp; omega
        have hE : ((n1 : Int) != (n0 : Int)) = true := by simp; omega
        have hI : ¬ ((n1 : Int) = (n0 : Int)) := by omega
        go_wp2_with fail
        go_quiet (fail)
        go_wp2_with fail
        go_ret
        exact ⟨ret_int HR3.out, below_drewN HB.out _⟩
    · have HD := Lib.hid ((ceGo_end l k (by have := HN.out; omega)).symm.trans HR.out)
      go_wp2_with fail
      go_ret
      exact ⟨ret_int HD.out, hB⟩

set_option maxRecDepth 100000 in
set_option maxHeartbeats 8000000 in
theorem CellsFault_any (a : Option Addr) (l : List Ce) (n c : Nat) (w : World) (hn : l.length = n) (hn1 : n ≤ 1000) (hI : RAt w a 3 Ce.cells l) (hT : TagsAt Ce.tv Ce.keys w l) (hok : ∀ x ∈ l, x.ok) :
    Calls Tryd.prog 7 #[.slice a n c] w fun e w' => e = .returned (.int .i64 (ceE l)) ∧ Below w.heap.size w w' := by
  have HN := Lib.hid hn
  have HI := Lib.hid hI
  have HT := Lib.hid hT
  have HOK := Lib.hid hok
  obtain ⟨R, hR⟩ : ∃ R, ceE l = R := ⟨_, rfl⟩
  have HR0 : Hid (ceGo l (l.length - 0) 0 = R) := Lib.hid ((ceE_go (by omega)).symm.trans hR)
  rw [hR]
  clear hn hI hT hok hR
  go_enter Tryd.func7, Tryd.ntmps7
  go_wp2_with fail
  go_loopw [3, 4, 10] (fun _ _ i wr => ∃ k : Nat, k ≤ n ∧ i = .int .i64 k ∧ Below w.heap.size w wr ∧ Hid (ceGo l (l.length - k) k = R)) (fun _ _ i _ => n - (intOf i).toNat)
  case atStart => exact ⟨0, Nat.zero_le _, rfl, Below.refl _ _, HR0⟩
  case round =>
    obtain ⟨k, hk, rfl, hB, HR⟩ := hrel
    by_cases hlt : k < n
    · have hkl : k < l.length := by have := HN.out; omega
      have hl0 : 0 < l.length := by omega
      obtain ⟨p, off, rfl, hp, c0, c1, c2⟩ := (HI.out.below hB).at3 hkl (v0 := .slice l[k].tv l[k].keys.length l[k].tc) (v1 := .int .i64 l[k].many) (v2 := .int .i64 l[k].cents) rfl
      obtain ⟨p', off', hpa, hp', z0, -, -⟩ := (HI.out.below hB).at3 hl0 (v0 := .slice l[0].tv l[0].keys.length l[0].tc) (v1 := .int .i64 l[0].many) (v2 := .int .i64 l[0].cents) rfl
      injection hpa with hpa
      injection hpa with e1 e2
      subst e1 e2
      simp only [Nat.zero_mul, Nat.add_zero] at z0
      have hcz := Lib.hid (And.intro c0 z0)
      obtain ⟨ok1, ok2, ok3, ok4, ok5, ok6⟩ := HOK.out l[k] (List.getElem_mem hkl)
      have ok0 := (HOK.out l[0] (List.getElem_mem hl0)).1
      have HT1 := Lib.hid (fun w' (hb : Below w.heap.size w w') => (HT.out.below hb) l[k] (List.getElem_mem hkl))
      have HST := Lib.hid ((ceGo_step l k hkl).symm.trans HR.out)
      rw [ceStep_eq l k hkl hl0] at HST
      have C8 := Lib.hid (fun w' (hb : Below w.heap.size w w') => keyNoR_any l[k].tv l[k].keys l[k].keys.length l[k].tc w' rfl (by omega) (HT1.out w' hb) (fun s hs => by have := ok2 s hs; omega))
      have okp : ∀ h : k - 1 < l.length, l[k - 1].keys.length ≤ 20 := fun h => (HOK.out l[k - 1] (List.getElem_mem h)).1
      have hk1 : k - 1 < l.length := by omega
      have okp1 := okp hk1
      have HT2 := Lib.hid (fun w' (hb : Below w.heap.size w w') => (HT.out.below hb) l[k - 1] (List.getElem_mem hk1))
      have CC := Lib.hid (fun (w' : World) (hb : Below w.heap.size w w') => compare_strs l[k - 1].tv l[k].tv l[k - 1].keys l[k].keys l[k - 1].keys.length l[k].keys.length l[k - 1].tc l[k].tc w' rfl rfl (by omega) (by omega) (HT2.out w' hb) (HT1.out w' hb))
      have HP := Lib.hid (fun (w' : World) (hb : Below w.heap.size w w') => (HI.out.below hb).at3 hk1 (v0 := .slice l[k - 1].tv l[k - 1].keys.length l[k - 1].tc) (v1 := .int .i64 l[k - 1].many) (v2 := .int .i64 l[k - 1].cents) rfl)
      obtain ⟨v, hv⟩ : ∃ v, cmpL l[k - 1].keys l[k].keys = v := ⟨_, rfl⟩
      rw [show decide (cmpL l[k].keys l[k - 1].keys ≤ 0) = decide (0 ≤ v) by subst hv; exact (by rw [decide_eq_decide]; exact cmpL_tot.le_flip _ _)] at HST
      rw [hv] at CC
      clear hv okp ok2
      obtain ⟨b2, hb2⟩ : ∃ b, badK l[k].keys = b := ⟨_, rfl⟩
      rw [hb2] at HST C8
      clear hb2
      obtain ⟨b4, hfb⟩ : ∃ b, b = fullB l[k].many l[k].cents := ⟨_, rfl⟩
      rw [← hfb] at HST
      generalize l[k].tv = tv at *
      generalize l[k].tc = tc at *
      generalize l[k].many = many at *
      generalize l[k].cents = cents at *
      generalize l[k].keys = ks at *
      generalize l[k - 1].tv = tv' at *
      generalize l[k - 1].tc = tc' at *
      generalize l[k - 1].keys = ks' at *
      generalize l[k - 1].many = many' at *
      generalize l[k - 1].cents = cents' at *
      generalize l[0].tv = tv0 at *
      generalize l[0].tc = tc0 at *
      generalize l[0].keys.length = n0 at *
      generalize ks.length = n1 at *
      generalize ks'.length = n2 at *
      have X0 := Lib.hid (XB.new wr [.slice tv n1 tc, .int .i64 many, .int .i64 cents] 44)
      have HB := Lib.hid (hB.alloc hB.size (.cells #[.slice tv n1 tc, .int .i64 many, .int .i64 cents] 44))
      clear okp1 ok3 ok4 ok5 ok6 HOK HI HT HR HT1 HT2
      have hn0 : 0 < n := by omega
      have hn0' : (0 : Int) < (n : Int) := by omega
      by_cases h1 : n1 = n0
      · subst h1
        by_cases h6 : 6 < n1
        · rw [decide_eq_true h6, Bool.or_true] at HST
          have HR3 := Lib.hid (ce_pos HST.out ceSt1 (by omega))
          go_wp2_with fail
          go_quiet (fail)
          go_wp2_with fail
          go_ret
          exact ⟨ret_int HR3.out, below_drewN HB.out _⟩
        · rw [decide_eq_false h6, decide_eq_true rfl] at HST
          go_wp2_with fail
          go_quiet (fail)
          generalize hwq : (World.drewN _ _) = wq at *
          have HBq := Lib.hid (show Below w.heap.size w wq from hwq ▸ below_drewN HB.out _)
          have HXq := Lib.hid (show XB wq wr.heap.size [.slice tv n1 tc, .int .i64 many, .int .i64 cents] from hwq ▸ X0.out.drewN _)
          clear hwq HB X0 c0 z0 c1 c2
          generalize hqq : wr.heap.size = q at *
          have HQ := Lib.hid hqq
          clear hqq
          obtain ⟨x0, x1, x2⟩ := HXq.out.at3
          have hq := HXq.out.1
          go_wp2_with fail
          with_reducible refine (C8.out _ HBq.out).mono ?_
          rintro e w2 ⟨rfl, d2⟩
          have HB2 := Lib.hid (HBq.out.trans (d2.mono HBq.out.size))
          have HX2 := Lib.hid (HXq.out.below d2)
          clear d2 HBq HXq x0 x1 x2 hq C8
          cases b2 with
          | true =>
            have HR3 := Lib.hid (ce_pos HST.out ceSt2 (by omega))
            go_wp2_with fail
            go_ret
            exact ⟨ret_int HR3.out, HB2.out⟩
          | false =>
            obtain ⟨x0, x1, x2⟩ := HX2.out.at3
            have hq := HX2.out.1
            by_cases hk0 : 0 < k
            · obtain ⟨p', off', ha', hp', cp, -, -⟩ := HP.out _ HB2.out
              injection ha' with ha'
              injection ha' with e1 e2
              subst e1 e2
              have hd0 : decide (0 < (k : Int)) = true := by simp; omega
              clear HP
              by_cases hv : 0 ≤ v
              · rw [decide_eq_true hv, decide_eq_true hk0] at HST
                have HR3 := Lib.hid (ce_pos HST.out ceSt3 (by omega))
                go_wp2_with fail
                go_quiet ((go_at_call 22; exact quiet_lf (CC.out _ (below_drewN HB2.out _))))
                go_wp2_with fail
                go_ret
                exact ⟨ret_int HR3.out, below_drewN HB2.out _⟩
              · rw [decide_eq_false hv, decide_eq_true hk0] at HST
                go_wp2_with fail
                go_quiet ((go_at_call 22; exact quiet_lf (CC.out _ (below_drewN HB2.out _))))
                generalize hwq : (World.drewN _ _) = w3 at *
                have HB3 := Lib.hid (show Below w.heap.size w w3 from hwq ▸ below_drewN HB2.out _)
                have HX3 := Lib.hid (show XB w3 q [.slice tv n1 tc, .int .i64 many, .int .i64 cents] from hwq ▸ HX2.out.drewN _)
                clear hwq HB2 HX2 x0 x1 x2 hq
                obtain ⟨x0, x1, x2⟩ := HX3.out.at3
                have hq := HX3.out.1
                have HFB := Lib.hid hfb
                clear hfb
                by_cases m0 : many < 0
                · obtain rfl : b4 = false := HFB.out.trans (fullB_no (.inl m0))
                  have HR4 := Lib.hid (ce_pos HST.out ceSt4 (by omega))
                  go_wp2_with fail
                  go_ret
                  exact ⟨ret_int HR4.out, HB3.out⟩
                · skip
                  by_cases m1 : 1000000 < many
                  · obtain rfl : b4 = false := HFB.out.trans (fullB_no (.inr (.inl m1)))
                    have HR4 := Lib.hid (ce_pos HST.out ceSt4 (by omega))
                    go_wp2_with fail
                    go_ret
                    exact ⟨ret_int HR4.out, HB3.out⟩
                  · skip
                    by_cases m2 : cents < -1000000000000
                    · obtain rfl : b4 = false := HFB.out.trans (fullB_no (.inr (.inr (.inl m2))))
                      have HR4 := Lib.hid (ce_pos HST.out ceSt4 (by omega))
                      go_wp2_with fail
                      go_ret
                      exact ⟨ret_int HR4.out, HB3.out⟩
                    · skip
                      by_cases m3 : 1000000000000 < cents
                      · obtain rfl : b4 = false := HFB.out.trans (fullB_no (.inr (.inr (.inr m3))))
                        have HR4 := Lib.hid (ce_pos HST.out ceSt4 (by omega))
                        go_wp2_with fail
                        go_ret
                        exact ⟨ret_int HR4.out, HB3.out⟩
                      · skip
                        obtain rfl : b4 = true := HFB.out.trans (fullB_yes m0 m1 m2 m3)
                        have HN1 := Lib.hid (ce_zero HST.out ceSt5)
                        go_wp2_with fail
                        go_roundw
                        case rel => exact ⟨k + 1, by omega, by go_num, HB3.out, HN1⟩
                        case measure => simp [intOf]; omega
            · have hd0 : decide (0 < (k : Int)) = false := by simp; omega
              rw [decide_eq_false hk0] at HST
              clear CC HP
              go_wp2_with fail
              go_quiet (fail)
              generalize hwq : (World.drewN _ _) = w3 at *
              have HB3 := Lib.hid (show Below w.heap.size w w3 from hwq ▸ below_drewN HB2.out _)
              have HX3 := Lib.hid (show XB w3 q [.slice tv n1 tc, .int .i64 many, .int .i64 cents] from hwq ▸ HX2.out.drewN _)
              clear hwq HB2 HX2 x0 x1 x2 hq
              obtain ⟨x0, x1, x2⟩ := HX3.out.at3
              have hq := HX3.out.1
              have HFB := Lib.hid hfb
              clear hfb
              by_cases m0 : many < 0
              · obtain rfl : b4 = false := HFB.out.trans (fullB_no (.inl m0))
                have HR4 := Lib.hid (ce_pos HST.out ceSt4 (by omega))
                go_wp2_with fail
                go_ret
                exact ⟨ret_int HR4.out, HB3.out⟩
              · skip
                by_cases m1 : 1000000 < many
                · obtain rfl : b4 = false := HFB.out.trans (fullB_no (.inr (.inl m1)))
                  have HR4 := Lib.hid (ce_pos HST.out ceSt4 (by omega))
                  go_wp2_with fail
                  go_ret
                  exact ⟨ret_int HR4.out, HB3.out⟩
                · skip
                  by_cases m2 : cents < -1000000000000
                  · obtain rfl : b4 = false := HFB.out.trans (fullB_no (.inr (.inr (.inl m2))))
                    have HR4 := Lib.hid (ce_pos HST.out ceSt4 (by omega))
                    go_wp2_with fail
                    go_ret
                    exact ⟨ret_int HR4.out, HB3.out⟩
                  · skip
                    by_cases m3 : 1000000000000 < cents
                    · obtain rfl : b4 = false := HFB.out.trans (fullB_no (.inr (.inr (.inr m3))))
                      have HR4 := Lib.hid (ce_pos HST.out ceSt4 (by omega))
                      go_wp2_with fail
                      go_ret
                      exact ⟨ret_int HR4.out, HB3.out⟩
                    · skip
                      obtain rfl : b4 = true := HFB.out.trans (fullB_yes m0 m1 m2 m3)
                      have HN1 := Lib.hid (ce_zero HST.out ceSt5)
                      go_wp2_with fail
                      go_roundw
                      case rel => exact ⟨k + 1, by omega, by go_num, HB3.out, HN1⟩
                      case measure => simp [intOf]; omega
      · rw [decide_eq_false h1] at HST
        have HR3 := Lib.hid (ce_pos HST.out ceSt1 (by omega))
        have hA : (n1 == n0) = false := by simpa using h1
        have hB : (n1 != n0) = true := by simpa using h1
        have hD : ((n1 : Int) == (n0 : Int)) = false := by simp; omega
        have hE : ((n1 : Int) != (n0 : Int)) = true := by simp; omega
        have hI : ¬ ((n1 : Int) = (n0 : Int)) := by omega
        go_wp2_with fail
        go_quiet (fail)
        go_wp2_with fail
        go_ret
        exact ⟨ret_int HR3.out, below_drewN HB.out _⟩
    · have HD := Lib.hid ((ceGo_end l k (by have := HN.out; omega)).symm.trans HR.out)
      go_wp2_with fail
      go_ret
      exact ⟨ret_int HD.out, hB⟩
end Go.Proofs.YtmhnnbffhciinaaDoor
/- slices.ContainsFunc over cells: does one hold numbers out of their ranges. -/
set_option linter.unusedVariables false
namespace Go.Proofs.YtmhnnbffhciinaaDoor
open Go.RowKit

/-- one of the cells holds numbers out of their ranges -/
def badC (l : List Ce) : Bool := l.any fun x => !fullB x.many x.cents
theorem badC_snoc (l : List Ce) (k : Nat) (h : k < l.length) : badC (l.take (k + 1)) = (badC (l.take k) || !fullB l[k].many l[k].cents) := by
  unfold badC
  rw [List.take_succ_eq_append_getElem h, List.any_append]
  simp
theorem badC_hit (l : List Ce) (k : Nat) (h : k < l.length) (hb : fullB l[k].many l[k].cents = false) : badC l = true := by
  unfold badC
  rw [List.any_eq_true]
  exact ⟨l[k], List.getElem_mem h, by simp [hb]⟩
theorem badC_all (l : List Ce) : badC (l.take l.length) = badC l := by rw [List.take_length]
theorem badC_el (l : List Ce) : badC l = (l.map Ce.el).any fun x => !fullB x.2.1 x.2.2 := by
  unfold badC
  rw [List.any_map]
  rfl
theorem notFull_any (v : Value) (many cents : Int) (w : World) : Calls Tryd.prog 31 #[.agg #[v, .int .i64 many, .int .i64 cents]] w fun e w' => e = .returned (.bool (!fullB many cents)) ∧ Below w.heap.size w w' := by
  have C := Lib.hid (fun w => full_any v many cents w)
  generalize fullB many cents = b at *
  cases b <;> (go_enter Tryd.func31, Tryd.ntmps31; go_wp2_with fail; ((with_reducible refine (C.out _).mono ?_); rintro e w1 ⟨rfl, b1⟩; have HB := Lib.hid (((Below.refl w.heap.size w).alloc (Nat.le_refl _) (.cells #[v, .int .i64 many, .int .i64 cents] 44)).trans (b1.mono (by simp))); clear b1; go_wp2_with fail; go_ret; exact ⟨rfl, HB.out⟩))

set_option maxRecDepth 100000 in
set_option maxHeartbeats 4000000 in
theorem fullIdx_any (a : Option Addr) (l : List Ce) (n c : Nat) (w : World) (hn : l.length = n) (hn1 : n ≤ 1000) (hI : RAt w a 3 Ce.cells l) :
    Calls Tryd.prog 49 #[.slice a n c, .func (.func 31) #[] #[]] w (IdxOut w (badC l)) := by
  have HN := Lib.hid hn
  have HI := Lib.hid hI
  clear hn hI
  go_enter Tryd.func49, Tryd.ntmps49
  go_wp2_with fail
  go_loopw [5, 8] (fun _ i wr => ∃ k : Nat, k ≤ n ∧ i = .int .i64 k ∧ Below w.heap.size w wr ∧ Hid (badC (l.take k) = false)) (fun _ i _ => n - (intOf i).toNat)
  case atStart => exact ⟨0, Nat.zero_le _, rfl, Below.refl _ _, Lib.hid rfl⟩
  case round =>
    obtain ⟨k, hk, rfl, hB, hH⟩ := hrel
    by_cases hlt : k < n
    · have hkl : k < l.length := by have := HN.out; omega
      obtain ⟨p, off, rfl, hp, c0, c1, c2⟩ := (HI.out.below hB).at3 hkl (v0 := .slice l[k].tv l[k].keys.length l[k].tc) (v1 := .int .i64 l[k].many) (v2 := .int .i64 l[k].cents) rfl
      have C := Lib.hid (notFull_any (.slice l[k].tv l[k].keys.length l[k].tc) l[k].many l[k].cents wr)
      have HH := Lib.hid (badC_hit l k hkl)
      have HT := Lib.hid (badC_snoc l k hkl)
      generalize l[k] = x at *
      obtain ⟨tv, tc, ks, many, cents⟩ := x
      simp only at c0 c1 c2 C HH HT
      generalize fullB many cents = b at *
      cases b with
      | false =>
        have HR := Lib.hid (HH.out rfl)
        go_wp2_with fail
        with_reducible refine C.out.mono ?_
        rintro e w1 ⟨rfl, b1⟩
        have HB1 := Lib.hid (hB.trans (b1.mono hB.size))
        go_wp2_with fail
        go_ret
        exact ⟨k, rfl, by rw [HR.out]; simp, HB1.out⟩
      | true =>
        have HR := Lib.hid (HT.out.trans (by rw [hH.out]))
        go_wp2_with fail
        with_reducible refine C.out.mono ?_
        rintro e w1 ⟨rfl, b1⟩
        have HB1 := Lib.hid (hB.trans (b1.mono hB.size))
        go_wp2_with fail
        go_roundw
        case rel => exact ⟨k + 1, by omega, by go_num, HB1.out, HR⟩
        case measure => simp [intOf]; omega
    · obtain rfl : k = n := by omega
      have HD := Lib.hid (show badC l = false by rw [← badC_all, HN.out]; exact hH.out)
      go_wp2_with fail
      go_ret
      exact ⟨-1, rfl, by rw [HD.out]; rfl, hB⟩
theorem fullHas_any (a : Option Addr) (l : List Ce) (n c : Nat) (w : World) (hn : l.length = n) (hn1 : n ≤ 1000) (hI : RAt w a 3 Ce.cells l) :
    Calls Tryd.prog 30 #[.slice a n c, .func (.func 31) #[] #[]] w fun e w' => e = .returned (.bool (badC l)) ∧ Below w.heap.size w w' := by
  have C := Lib.hid (fullIdx_any a l n c w hn hn1 hI)
  clear hn hI
  generalize badC l = b at *
  go_enter Tryd.func30, Tryd.ntmps30
  go_wp2_with fail
  with_reducible refine C.out.mono ?_
  rintro e w1 ⟨r, rfl, hr, hb⟩
  have HR := Lib.hid hr
  clear hr
  go_wp2_with fail
  go_ret
  exact ⟨ret_bool HR.out, hb⟩
end Go.Proofs.YtmhnnbffhciinaaDoor
/- Folding cells, in plain words: what checks give, and what becomes of the keys. -/
set_option linter.unusedVariables false
namespace Go.Proofs.YtmhnnbffhciinaaDoor
open Go.RowKit

theorem ceGo_ok (l : List Ce) : ∀ (f k : Nat), f = l.length - k → ceGo l f k = 0 → ∀ j (hj : j < l.length), k ≤ j → ceStep l j hj = 0
  | 0, k, hf, _, j, hj, hk => by omega
  | f + 1, k, hf, h, j, hj, hk => by
    have hkl : k < l.length := by omega
    rw [ceGo, dif_pos hkl] at h
    by_cases hs : ceStep l k hkl = 0
    · rw [if_pos hs] at h
      by_cases e : j = k
      · subst e; exact hs
      · exact ceGo_ok l f (k + 1) (by omega) h j hj (by omega)
    · rw [if_neg hs] at h
      exact absurd h hs
theorem ceSt_ok {b1 b2 b3 b4 : Bool} (h : ceSt b1 b2 b3 b4 = 0) : b1 = false ∧ b2 = false ∧ b3 = false ∧ b4 = true := by
  cases b1 <;> cases b2 <;> cases b3 <;> cases b4 <;> first | exact ⟨rfl, rfl, rfl, rfl⟩ | exact absurd h (by decide)
theorem ce_ok {l : List Ce} (hl : l.length ≤ 1000) (h : ceE l = 0) (j : Nat) (hj : j < l.length) : (l[j].keys.length : Int) = dimE l ∧ l[j].keys.length ≤ 6 ∧ fullB l[j].many l[j].cents = true := by
  rw [ceE_go hl] at h
  have h0 : 0 < l.length := by omega
  have h1 := ceGo_ok l _ 0 (by omega) h j hj (Nat.zero_le _)
  rw [ceStep_eq l j hj h0] at h1
  obtain ⟨c1, -, -, c4⟩ := ceSt_ok h1
  simp only [Bool.or_eq_false_iff, Bool.not_eq_false', decide_eq_true_eq, decide_eq_false_iff_not] at c1
  refine ⟨?_, by omega, c4⟩
  cases l with
  | nil => simp at h0
  | cons x l => simp only [dimE]; rw [c1.1]; rfl
theorem dimE_bd {l : List Ce} (hl : l.length ≤ 1000) (h : ceE l = 0) : 0 ≤ dimE l ∧ dimE l ≤ 6 := by
  cases l with
  | nil => simp [dimE]
  | cons x l =>
    have := ce_ok hl h 0 (by simp)
    simp only [List.getElem_cons_zero] at this
    simp only [dimE]
    omega
theorem kpE_step (d : Int) (keep : List Int) (k : Nat) (h : k < keep.length) : kpE d keep (keep.length - k) k = if keep.getD k 0 < 0 ∨ d ≤ keep.getD k 0 then 1 else if 0 < k ∧ keep.getD k 0 ≤ keep.getD (k - 1) 0 then 7 else kpE d keep (keep.length - (k + 1)) (k + 1) := by
  rw [show keep.length - k = (keep.length - (k + 1)) + 1 by omega, kpE]
theorem kpE_end (d : Int) (keep : List Int) (k : Nat) (h : keep.length ≤ k) : kpE d keep (keep.length - k) k = 0 := by
  rw [show keep.length - k = 0 by omega]
  rfl
theorem kp_go {d : Int} {keep : List Int} : ∀ (f k : Nat), f = keep.length - k → kpE d keep f k = 0 → ∀ j, k ≤ j → j < keep.length → 0 ≤ keep.getD j 0 ∧ keep.getD j 0 < d
  | 0, k, hf, _, j, hk, hj => by omega
  | f + 1, k, hf, h, j, hk, hj => by
    rw [kpE] at h
    split at h
    · exact absurd h (by decide)
    · rename_i h1
      split at h
      · exact absurd h (by decide)
      · by_cases e : j = k
        · subst e; omega
        · exact kp_go f (k + 1) (by omega) h j (by omega) hj
theorem kp_ok {d : Int} {keep : List Int} (h : kpE d keep keep.length 0 = 0) (j : Nat) (hj : j < keep.length) : 0 ≤ keep[j] ∧ keep[j] < d := by
  have := kp_go keep.length 0 (by omega) h j (Nat.zero_le _) hj
  rw [List.getD_eq_getElem?_getD, List.getElem?_eq_getElem hj] at this
  exact this
/-- what is wrong with a fold, step by step -/
theorem fdE_1 {l : List Ce} {keep : List Int} {E : Int} (h : ceE l = E) (h0 : E ≠ 0) : fdE l keep = E := by
  unfold fdE
  rw [h, if_pos h0]
theorem fdE_2 {l : List Ce} {keep : List Int} {K : Int} (h : ceE l = 0) (hk : kpE (dimE l) keep keep.length 0 = K) (h0 : K ≠ 0) : fdE l keep = K := by
  unfold fdE
  rw [if_neg (by omega), hk, if_pos h0]
theorem fdE_3 {l : List Ce} {keep : List Int} {b : Bool} (h : ceE l = 0) (hk : kpE (dimE l) keep keep.length 0 = 0) (hb : ((foldL (l.map Ce.el) keep).any fun x => !fullB x.2.1 x.2.2) = b) : fdE l keep = if b then 12 else 0 := by
  unfold fdE
  rw [if_neg (by omega), if_neg (by omega), hb]
/-- the keys that are kept, so far -/
def kept (keep : List Int) (ks : List ByteArray) (j : Nat) : List ByteArray := (keep.take j).map fun k => ks.getD k.toNat ⟨#[]⟩
theorem kept_zero (keep : List Int) (ks : List ByteArray) : kept keep ks 0 = [] := rfl
theorem kept_succ (keep : List Int) (ks : List ByteArray) (j : Nat) (h : j < keep.length) (h2 : keep[j].toNat < ks.length) : kept keep ks (j + 1) = kept keep ks j ++ [ks[keep[j].toNat]] := by
  unfold kept
  rw [List.take_succ_eq_append_getElem h, List.map_append]
  simp [h2]
theorem kept_len (keep : List Int) (ks : List ByteArray) (j : Nat) (h : j ≤ keep.length) : (kept keep ks j).length = j := by
  unfold kept
  rw [List.length_map, List.length_take]
  omega
theorem kept_all (keep : List Int) (x : Ce) (tv : Option Addr) (tc : Nat) : (⟨tv, tc, kept keep x.keys keep.length, x.many, x.cents⟩ : Ce).el = prE keep x.el := by
  unfold kept prE Ce.el
  rw [List.take_length]
/-- the program's fold, sorted in whatever way -/
theorem ce_fold2 {l all s : List Ce} {keep : List Int} (h : all.map Ce.el = (l.map Ce.el).map (prE keep)) (hp : s.Perm all) (hs : s.Pairwise fun x y => cmpL x.keys y.keys ≤ 0) : (s.foldl mgC []).map Ce.el = foldL (l.map Ce.el) keep := by
  rw [mgC_fold, List.map_nil, fold_same cmpL_tot (hp.map Ce.el) (by rw [List.pairwise_map]; exact hs), h]
  rfl
theorem insF_len {κ : Type} {c : κ → κ → Int} (x : El κ) : ∀ l : List (El κ), (insF c x l).length ≤ l.length + 1
  | [] => by simp [insF]
  | y :: r => by
    simp only [insF]
    have := insF_len (c := c) x r
    split
    · simp; omega
    · split <;> simp
theorem foldl_len {κ : Type} {c : κ → κ → Int} : ∀ (l o : List (El κ)), (l.foldl (fun o x => insF c x o) o).length ≤ o.length + l.length
  | [], o => by simp
  | x :: l, o => by
    have h1 := foldl_len (c := c) l (insF c x o)
    have h2 := insF_len (c := c) x o
    simp only [List.foldl_cons, List.length_cons]
    omega
theorem foldL_len (l : List (El (List ByteArray))) (keep : List Int) : (foldL l keep).length ≤ l.length := by
  have := foldl_len (c := cmpL) (l.map (prE keep)) []
  simpa [foldL] using this
theorem insF_key {κ : Type} {c : κ → κ → Int} {P : κ → Prop} (x : El κ) (hx : P x.1) : ∀ l : List (El κ), (∀ y ∈ l, P y.1) → ∀ y ∈ insF c x l, P y.1 := fun l h y hy => by
  rcases insF_mem x l y hy with e | ⟨z, hz, e⟩
  · rw [e]; exact hx
  · rw [← e]; exact h z hz
theorem foldl_key {κ : Type} {c : κ → κ → Int} {P : κ → Prop} : ∀ (l o : List (El κ)), (∀ x ∈ l, P x.1) → (∀ y ∈ o, P y.1) → ∀ y ∈ l.foldl (fun o x => insF c x o) o, P y.1
  | [], o, _, h => h
  | x :: l, o, hl, h => foldl_key l (insF c x o) (fun y hy => hl y (by simp [hy])) (insF_key x (hl x (by simp)) o h)
/-- keys as the checks allow -/
def okK (n : Nat) (ks : List ByteArray) : Prop := ks.length ≤ n ∧ ∀ s ∈ ks, s.size ≤ 100
theorem foldL_key {l : List Ce} {keep : List Int} {n : Nat} (hok : ∀ x ∈ l, x.ok) (hm : keep.length ≤ n) : ∀ y ∈ foldL (l.map Ce.el) keep, okK n y.1 := by
  unfold foldL
  refine foldl_key _ [] (fun x hx => ?_) (by simp)
  rw [List.mem_map] at hx
  obtain ⟨y, hy, rfl⟩ := hx
  rw [List.mem_map] at hy
  obtain ⟨z, hz, rfl⟩ := hy
  refine ⟨by simp [prE]; exact hm, fun s hs => ?_⟩
  simp only [prE, List.mem_map] at hs
  obtain ⟨k, -, rfl⟩ := hs
  rw [List.getD_eq_getElem?_getD]
  cases hk : z.el.1[k.toNat]? with
  | none => decide
  | some s => exact (hok z hz).2.1 s (List.mem_of_getElem? hk)
/-- cells that a fold gives are such as the checks take -/
theorem fold_ok {l o : List Ce} {keep : List Int} {n : Nat} (hn : n ≤ 20) (hok : ∀ x ∈ l, x.ok) (hm : keep.length ≤ n) (h0 : fdE l keep = 0) (ho : o.map Ce.el = foldL (l.map Ce.el) keep) : ∀ x ∈ o, x.ok := by
  have hb : ((foldL (l.map Ce.el) keep).any fun x => !fullB x.2.1 x.2.2) = false := by
    unfold fdE at h0
    rw [Bool.eq_false_iff]
    intro hb
    split at h0
    · omega
    · split at h0
      · omega
      · first | omega | (rw [if_pos hb] at h0; omega)
  intro x hx
  have hm2 : x.el ∈ foldL (l.map Ce.el) keep := by rw [← ho]; exact List.mem_map_of_mem hx
  obtain ⟨k1, k2⟩ := foldL_key hok hm x.el hm2
  rw [List.any_eq_false] at hb
  have h2 := hb x.el hm2
  have h3 : fullB x.many x.cents = true := by simpa [Ce.el] using h2
  unfold fullB at h3
  simp only [Bool.and_eq_true, decide_eq_true_eq] at h3
  have k1' : x.keys.length ≤ n := k1
  refine ⟨by omega, k2, by omega, by omega, by omega, by omega⟩
/-- what folding gives -/
def FoldOut (w : World) (l : List Ce) (keep : List Int) (e : Ending) (w' : World) : Prop :=
  ∃ a c o, e = .returned (.tuple #[.slice a (List.length o) c, .int .i64 (fdE l keep)]) ∧ RAt w' a 3 Ce.cells o ∧ TagsAt Ce.tv Ce.keys w' o ∧ Below w.heap.size w w' ∧ o.map Ce.el = (if fdE l keep = 0 then foldL (l.map Ce.el) keep else [])
theorem FoldOut.no {w w' : World} {l : List Ce} {keep : List Int} {E : Int} (h : fdE l keep = E) (h0 : E ≠ 0) (hb : Below w.heap.size w w') : FoldOut w l keep (.returned (.tuple #[.slice none 0 0, .int .i64 E])) w' :=
  ⟨none, 0, [], by rw [h]; rfl, RAt.nil _ _ _ _, by intro x hx; simp at hx, hb, by rw [if_neg (by omega)]; rfl⟩
theorem FoldOut.yes {w w' : World} {l o : List Ce} {keep : List Int} {a : Option Addr} {n c : Nat} (h : fdE l keep = 0) (hn : o.length = n) (hr : RAt w' a 3 Ce.cells o) (ht : TagsAt Ce.tv Ce.keys w' o) (hb : Below w.heap.size w w') (he : o.map Ce.el = foldL (l.map Ce.el) keep) : FoldOut w l keep (.returned (.tuple #[.slice a n c, .int .i64 0])) w' :=
  ⟨a, c, o, by rw [h, hn], hr, ht, hb, by rw [if_pos h]; exact he⟩
end Go.Proofs.YtmhnnbffhciinaaDoor
