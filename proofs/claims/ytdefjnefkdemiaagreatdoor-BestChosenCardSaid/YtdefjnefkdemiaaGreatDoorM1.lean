/- What is told of the list of raw numbers that comes in, and the stream that is made over it. -/
import Derived.Test.YtdefjnefkdemiaaGreatDoorMem
import Derived.Test.YtdefjnefkdemiaaGreatDoorStream
import Derived.Maps.Views
import Derived.Maps.OwnOps
import Derived.Test.YtdefjnefkdemiaaGreatDoorShelf
import Derived.Shelf.Strings.SlTrimAscii
import Derived.Test.YtdefjnefkdemiaaGreatDoorMeasure
import Derived.Test.YtdefjnefkdemiaaGreatDoorRecs
import Derived.WalkLawsBesides
import Derived.Test.YtdefjnefkdemiaaGreatDoorRowG
import Derived.Deep.AppendLies
import Derived.Shelf.Slices.Turned
import Derived.Test.YtdefjnefkdemiaaGreatDoorInts
import Derived.Deep.DeepCutAuto
import Derived.Deep.CutBlock
namespace Go.Proofs.YtdefjnefkdemiaaGreatDoor
open Go.RowKit

/-- a slice of integers that came in: it is nil; or it leads to a row of 'cap' cells, the numbers zs, each fitting its kind -/
def IsRow (k : IntKind) (w : World) (a : Option Addr) (len cap : Nat) (zs : List Int) : Prop :=
  (a = none ∧ len = 0 ∧ cap = 0 ∧ zs = []) ∨
  ∃ x, a = some x ∧ len ≤ cap ∧ cap ≤ maxLen ∧ zs.length = cap ∧ (∀ i, i < zs.length → w.cell? (x.add i) = some (.int k (zs.getD i 0))) ∧ ∀ n ∈ zs, (Lit.int k n).wf = true

theorem bnd64 {n : Int} (h : (Lit.int .i64 n).wf = true) : -9223372036854775808 ≤ n ∧ n ≤ 9223372036854775807 := by
  simp [Lit.wf, IntKind.min, IntKind.max, IntKind.bits, IntKind.signed] at h
  omega

theorem strm_start {w : World} {a : Option Addr} {len cap : Nat} {zs : List Int} (h : IsRow .i64 w a len cap zs) :
    Strm (w.alloc (.cells #[.slice a len cap, .int .i64 0] 25)) ⟨w.heap.size, w.heap.size, a, len, cap⟩ 0 := by
  refine ⟨⟨0, Nat.le_refl _, heap_alloc_new w _⟩, Nat.le_refl _, ?_, ?_⟩
  · rcases h with ⟨_, rfl, _, _⟩ | ⟨x, _, h1, h2, _⟩
    · exact Nat.zero_le _
    · exact Nat.le_trans h1 h2
  · intro i hi
    rcases h with ⟨_, rfl, _, _⟩ | ⟨x, rfl, h1, h2, h3, h4, h5⟩
    · simp at hi
    · simp only at hi
      have hc := h4 i (by omega)
      have hs := World.cell?_spot hc
      obtain ⟨b, off, spot⟩ := x
      have hspot : spot = none := by simpa [Addr.add] using World.cell?_spot (h4 0 (by omega))
      subst hspot
      have e : (Addr.add ⟨b, off, none⟩ i) = ⟨b, off + i, none⟩ := by
        unfold Addr.add
        split
        · rename_i h0; subst h0; rfl
        · rfl
      rw [e] at hc
      have hlt := World.block_lt_of_cell? w _ hc
      have hw := bnd64 (h5 (zs.getD i 0) (by rw [List.getD_eq_getElem?_getD, List.getElem?_eq_getElem (by omega)]; exact List.getElem_mem _))
      exact ⟨b, off, _, rfl, hlt, (World.cell?_alloc_lt w _ _ hlt).trans hc, hw⟩
theorem strm_begin {w : World} {a : Option Addr} {len cap : Nat} {zs : List Int} (h : IsRow .i64 w a len cap zs) :
    ∃ S : SC, w.heap.size ≤ S.g ∧ Value.pointer (some ⟨w.heap.size, 0, none⟩) = S.p ∧ Strm (w.alloc (.cells #[.slice a len cap, .int .i64 0] 25)) S 0 ∧
      w.grownBy (w.alloc (.cells #[.slice a len cap, .int .i64 0] 25)) (some S.g) :=
  ⟨_, Nat.le_refl _, rfl, strm_start h, World.grownBy_alloc w _ _⟩
theorem below_of_grown {w w' : World} {g : Nat} (h : w.grownBy w' (some g)) (hg : w.heap.size ≤ g) : Below w.heap.size w w' :=
  ⟨h.os, h.tape, h.output, h.size, fun k hk => h.block k hk (by simp; omega)⟩
end Go.Proofs.YtdefjnefkdemiaaGreatDoor
/- A set of strings as a map[string]bool that the call itself made. -/
set_option linter.unusedVariables false
namespace Go.Proofs.YtdefjnefkdemiaaGreatDoor
open Go.RowKit Go.Maps

theorem key_str : Keyed Tryz.prog 9 := string_keyed Tryz.underlying9
theorem zero_bool (w : World) : (zeroValue 4).run Tryz.prog w = .ok (.bool false) w := by kernel_rfl

/-- one of the strings is s -/
def hasS (l : List ByteArray) (s : ByteArray) : Bool := l.any fun x => decide (x.data.toList = s.data.toList)

theorem hasS_snoc (l : List ByteArray) (x s : ByteArray) : hasS (l ++ [x]) s = (hasS l s || decide (x.data.toList = s.data.toList)) := by
  simp [hasS]

/-- a search by an id: it tells whether there is one -/
def IdxOut (w : World) (b : Bool) (e : Ending) (w' : World) : Prop := ∃ r : Int, e = .returned (.int .i64 r) ∧ decide (0 ≤ r) = b ∧ Below w.heap.size w w'
theorem hasS_hit {l : List ByteArray} {s x : ByteArray} (h : x ∈ l) (e : x.data.toList = s.data.toList) : hasS l s = true := by
  unfold hasS
  rw [List.any_eq_true]
  exact ⟨x, h, decide_eq_true e⟩

/-- block b is a set of the strings l, at most n of them -/
def Seen (w : World) (b n : Nat) (l : List ByteArray) : Prop :=
  ∃ D : DataW Unit, w.ownsMap Tryz.prog 9 (plainElem Tryz.prog 4) b n D ∧ IsMap D ∧ ∀ s : ByteArray, D.atKey (.string s.data.toList) (.lit (.bool false)) = .lit (.bool (hasS l s))

theorem Seen.made (w : World) : Seen (w.alloc (.map #[] 0)) w.heap.size 0 [] :=
  ⟨.map [], World.ownsMap_made _ _ _ _, isMap_empty, fun s => rfl⟩
theorem Seen.lt {w : World} {b n : Nat} {l : List ByteArray} (h : Seen w b n l) : b < w.heap.size := by
  obtain ⟨D, hD, _⟩ := h
  exact hD.lt
theorem Seen.kept {w w' : World} {b n : Nat} {l : List ByteArray} {row : Option Nat} (h : Seen w b n l) (hg : w.grownBy w' row) (hne : some b ≠ row) : Seen w' b n l := by
  obtain ⟨D, hD, h2⟩ := h
  exact ⟨D, hD.kept hg hne, h2⟩
theorem Seen.below {w w' : World} {b n : Nat} {l : List ByteArray} (h : Seen w b n l) (hb : Below w.heap.size w w') : Seen w' b n l :=
  h.kept (grown_of_below hb none) (by simp)
theorem Seen.alloc {w : World} {b n : Nat} {l : List ByteArray} (h : Seen w b n l) (o : Obj) : Seen (w.alloc o) b n l := h.kept (World.grownBy_alloc w o none) (by simp)

theorem Seen.drewN {w : World} {b n : Nat} {l : List ByteArray} (h : Seen w b n l) (m : Nat) : Seen (w.drewN m) b n l := h

theorem plainElem_bool_inv {P : Program} {e : TypeId} (he : P.underlying e = some .bool) {v : Value} {z : DataW Unit × List MemPlace} (h : plainElem P e v = some z) : ∃ b, v = .bool b ∧ z = (.lit (.bool b), []) := by
  unfold plainElem at h
  rw [he] at h
  cases v <;> simp at h
  exact ⟨_, rfl, h.symm⟩
theorem lit_bool_inj {a b : Bool} (h : (DataW.lit (.bool a) : DataW Unit) = .lit (.bool b)) : a = b := by
  injection h with h
  injection h

/-- m[k] at elements of type bool -/
theorem wpList_lookup_own_bool {P : Program} (w : World) {ops : Array Oper} {rest : List Oper} {o : Oper} {a : Act} {Q : Exit → Act → World → Prop}
    (hg : o.guard = none) (m x : Operand) (t : TypeId) (hop : o.op = Op.lookup t m x false)
    (k e : TypeId) (K : Keyed P k) (ht : P.underlying t = some (.map k e)) (he : P.underlying e = some .bool) (hz : (zeroValue e).run P w = .ok (.bool false) w) (b n : Nat) (D : DataW Unit)
    (hm : a.eval m = .map (some b)) (hown : w.ownsMap P k (plainElem P e) b n D) (key : Value) (kl : Lit) (hx : a.eval x = key) (hkey : keyOf P k key = some kl)
    (hK : ∀ c : Bool, D.atKey kl (.lit (.bool false)) = .lit (.bool c) → wpList P ops Q rest (a.put o.dst (.bool c)) w) :
    wpList P ops Q (o :: rest) a w := by
  refine wpList_plain hg fun K' hK' => ?_
  obtain ⟨v, ps, hrun, hv⟩ := hown.lookup K ht hz (plainElem_bool he false) hkey
  obtain ⟨c, rfl, hc⟩ := plainElem_bool_inv he hv
  simp only [Prod.mk.injEq] at hc
  unfold Oper.wp
  simp [execOp, hop, hm, hx, hrun, Result.andThen]
  exact hK' _ _ (hK c hc.1)

/-- seen[s] -/
theorem wpList_lookup_seen {ops : Array Oper} {rest : List Oper} {o : Oper} {a : Act} {Q : Exit → Act → World → Prop} (w : World) (hg : o.guard = none) (m x : Operand) (hop : o.op = Op.lookup 87 m x false)
    (b n : Nat) (l : List ByteArray) (hm : a.eval m = .map (some b)) (hs : Seen w b n l) (s : ByteArray) (hx : a.eval x = .string s) (hlen : s.size ≤ maxLen) (r : Bool) (hr : hasS l s = r)
    (hK : wpList Tryz.prog ops Q rest (a.put o.dst (.bool r)) w) : wpList Tryz.prog ops Q (o :: rest) a w := by
  obtain ⟨D, hown, _, hat⟩ := hs
  refine wpList_lookup_own_bool w hg m x _ hop 9 4 key_str Tryz.underlying87 Tryz.underlying4 (zero_bool w) b n D hm hown _ _ hx (WideMaps.keyOf_string_mk Tryz.underlying9 hlen) ?_
  intro c hc
  rw [← lit_bool_inj ((hat s).symm.trans hc), hr]
  exact hK

/-- seen[s] = true -/
theorem wpList_update_seen {ops : Array Oper} {rest : List Oper} {o : Oper} {a : Act} {Q : Exit → Act → World → Prop} (w : World) (hg : o.guard = none) (m x v : Operand) (hop : o.op = Op.mapUpdate 87 m x v)
    (b n : Nat) (l : List ByteArray) (hm : a.eval m = .map (some b)) (hs : Seen w b n l) (hn : n < maxLen) (s : ByteArray) (hx : a.eval x = .string s) (hv : a.eval v = .bool true) (hlen : s.size ≤ maxLen)
    (hK : ∀ w', Seen w' b (n + 1) (l ++ [s]) → w.grownBy w' (some b) → wpList Tryz.prog ops Q rest (a.put o.dst undef) w') : wpList Tryz.prog ops Q (o :: rest) a w := by
  obtain ⟨D, hown, hD, hat⟩ := hs
  refine wpList_mapUpdate_own w hg m x v _ hop 9 4 key_str Tryz.underlying87 _ b n D hm hown hn _ _ _ hx hv (WideMaps.keyOf_string_mk Tryz.underlying9 hlen) (.lit (.bool true)) [] (plainElem_bool Tryz.underlying4 true) ?_
  intro w' h1 h2
  refine hK w' ⟨_, h1, hD.put _ _, fun s' => ?_⟩ h2
  rw [hasS_snoc]
  by_cases he : s.data.toList = s'.data.toList
  · rw [he, atKey_put_same hD (by unfold WideAt.IsKeyLit; trivial)]
    simp
  · rw [atKey_put_other (by intro e; injection e with e; exact he e.symm), hat s']
    simp [he]
end Go.Proofs.YtdefjnefkdemiaaGreatDoor
/- person.IsKey and handref2.Key: both answer keyB, a plain predicate of the bytes. -/
set_option linter.unusedVariables false
namespace Go.Proofs.YtdefjnefkdemiaaGreatDoor
open Go.RowKit

def smallB (c : UInt8) : Bool := decide (97 ≤ c.toNat ∧ c.toNat ≤ 122)
def digitB (c : UInt8) : Bool := decide (48 ≤ c.toNat ∧ c.toNat ≤ 57)
def keyC (c : UInt8) : Bool := smallB c || digitB c || decide (c.toNat = 45) || decide (c.toNat = 95)

theorem psmall_any (c : UInt8) (w : World) : Calls Tryz.prog 106 #[.int .u8 (c.toNat : Int)] w fun e w' => e = .returned (.bool (smallB c)) ∧ w = w' := by
  have HE := Lib.hid (show smallB c = decide (97 ≤ c.toNat ∧ c.toNat ≤ 122) from rfl)
  generalize smallB c = b at *
  generalize c.toNat = n at *
  by_cases h1 : 97 ≤ n
  · by_cases h2 : n ≤ 122
    · obtain rfl : b = true := HE.out.trans (decide_eq_true ⟨h1, h2⟩)
      go_enter Tryz.func106, Tryz.ntmps106
      go_wp2
      go_ret
      exact ⟨ret_bool (by simp; omega), rfl⟩
    · obtain rfl : b = false := HE.out.trans (decide_eq_false (by omega))
      go_enter Tryz.func106, Tryz.ntmps106
      go_wp2
      go_ret
      exact ⟨ret_bool (by simp; omega), rfl⟩
  · obtain rfl : b = false := HE.out.trans (decide_eq_false (by omega))
    go_enter Tryz.func106, Tryz.ntmps106
    go_wp2
    go_ret
    exact ⟨rfl, rfl⟩
theorem pdigit_any (c : UInt8) (w : World) : Calls Tryz.prog 109 #[.int .u8 (c.toNat : Int)] w fun e w' => e = .returned (.bool (digitB c)) ∧ w = w' := by
  have HE := Lib.hid (show digitB c = decide (48 ≤ c.toNat ∧ c.toNat ≤ 57) from rfl)
  generalize digitB c = b at *
  generalize c.toNat = n at *
  by_cases h1 : 48 ≤ n
  · by_cases h2 : n ≤ 57
    · obtain rfl : b = true := HE.out.trans (decide_eq_true ⟨h1, h2⟩)
      go_enter Tryz.func109, Tryz.ntmps109
      go_wp2
      go_ret
      exact ⟨ret_bool (by simp; omega), rfl⟩
    · obtain rfl : b = false := HE.out.trans (decide_eq_false (by omega))
      go_enter Tryz.func109, Tryz.ntmps109
      go_wp2
      go_ret
      exact ⟨ret_bool (by simp; omega), rfl⟩
  · obtain rfl : b = false := HE.out.trans (decide_eq_false (by omega))
    go_enter Tryz.func109, Tryz.ntmps109
    go_wp2
    go_ret
    exact ⟨rfl, rfl⟩

theorem isKey1_any (c : UInt8) (w : World) : Calls Tryz.prog 108 #[.int .u8 (c.toNat : Int)] w fun e w' => e = .returned (.bool (keyC c)) ∧ w = w' := by
  have HE := Lib.hid (show keyC c = (smallB c || digitB c || decide (c.toNat = 45) || decide (c.toNat = 95)) from rfl)
  have C1 := Lib.hid (fun w => psmall_any c w)
  have C2 := Lib.hid (fun w => pdigit_any c w)
  generalize smallB c = s at *
  generalize digitB c = d at *
  generalize keyC c = k at *
  generalize c.toNat = n at *
  cases s with
  | true =>
    obtain rfl : k = true := HE.out.trans (by simp)
    go_enter Tryz.func108, Tryz.ntmps108
    go_wp2_with fail
    with_reducible refine (C1.out _).mono ?_
    rintro e w1 ⟨rfl, rfl⟩
    go_wp2
    go_ret
    exact ⟨rfl, rfl⟩
  | false =>
    cases d with
    | true =>
      obtain rfl : k = true := HE.out.trans (by simp)
      go_enter Tryz.func108, Tryz.ntmps108
      go_wp2_with fail
      with_reducible refine (C1.out _).mono ?_
      rintro e w1 ⟨rfl, rfl⟩
      go_wp2_with fail
      with_reducible refine (C2.out _).mono ?_
      rintro e w1 ⟨rfl, rfl⟩
      go_wp2
      go_ret
      exact ⟨rfl, rfl⟩
    | false =>
      have e1 : k = (decide (n = 45) || decide (n = 95)) := HE.out.trans (by simp)
      subst e1
      by_cases h1 : n = 45
      · have h2 : ((n : Int) == 45) = true := by simp; omega
        have H1 := Lib.hid h1
        clear h1
        go_enter Tryz.func108, Tryz.ntmps108
        go_wp2_with fail
        with_reducible refine (C1.out _).mono ?_
        rintro e w1 ⟨rfl, rfl⟩
        go_wp2_with fail
        with_reducible refine (C2.out _).mono ?_
        rintro e w1 ⟨rfl, rfl⟩
        go_wp2
        go_ret
        exact ⟨ret_bool (by rw [decide_eq_true H1.out]; rfl), rfl⟩
      · have h2 : ((n : Int) == 45) = false := by simp; omega
        go_enter Tryz.func108, Tryz.ntmps108
        go_wp2_with fail
        with_reducible refine (C1.out _).mono ?_
        rintro e w1 ⟨rfl, rfl⟩
        go_wp2_with fail
        with_reducible refine (C2.out _).mono ?_
        rintro e w1 ⟨rfl, rfl⟩
        go_wp2
        go_ret
        exact ⟨ret_bool (by rw [decide_eq_false h1]; rw [Bool.eq_iff_iff]; simp; omega), rfl⟩

theorem pwithin_yes (n lo hi : Int) (w : World) (h1 : lo ≤ n) (h2 : n ≤ hi) : Calls Tryz.prog 105 #[.int .i64 n, .int .i64 lo, .int .i64 hi] w fun e w' => e = .returned (.bool true) ∧ w = w' := by
  go_enter Tryz.func105, Tryz.ntmps105
  go_wp2
  go_ret
  exact ⟨ret_bool (by simp <;> omega), rfl⟩
theorem pwithin_no (n lo hi : Int) (w : World) (h : n < lo ∨ hi < n) : Calls Tryz.prog 105 #[.int .i64 n, .int .i64 lo, .int .i64 hi] w fun e w' => e = .returned (.bool false) ∧ w = w' := by
  by_cases h1 : lo ≤ n
  · have h2 : ¬ n ≤ hi := by omega
    go_enter Tryz.func105, Tryz.ntmps105
    go_wp2
    go_ret
    exact ⟨ret_bool (by simp <;> omega), rfl⟩
  · go_enter Tryz.func105, Tryz.ntmps105
    go_wp2
    go_ret
    exact ⟨rfl, rfl⟩

/-- all the bytes of a string are bytes of keys -/
def allK (s : ByteArray) : Bool := s.data.toList.all keyC
/-- a string is a key -/
def keyB (s : ByteArray) : Bool := decide (1 ≤ s.size ∧ s.size ≤ 40) && smallB (s.data.toList.getD 0 0) && allK s

theorem take_all (s : ByteArray) (k : Nat) (h : k < s.size) : (s.data.toList.take (k + 1)).all keyC = ((s.data.toList.take k).all keyC && keyC s[k]) := by
  rw [List.take_succ_eq_append_getElem (by simpa using h), List.all_append]
  simp
  rfl
theorem allK_of_take (s : ByteArray) (k : Nat) (h : s.size ≤ k) : (s.data.toList.take k).all keyC = allK s := by
  rw [List.take_of_length_le (by simpa using h)]; rfl
theorem allK_no (s : ByteArray) (k : Nat) (h : k < s.size) (hc : keyC s[k] = false) : allK s = false := by
  have e := take_all s k h
  rw [hc, Bool.and_false] at e
  unfold allK
  rw [← List.take_append_drop (k + 1) s.data.toList, List.all_append, e]
  rfl

theorem all_any (s : ByteArray) (w : World) (hs : s.size ≤ maxLen) :
    Calls Tryz.prog 107 #[.string s, .func (.func 108) #[] #[]] w fun e w' => e = .returned (.bool (allK s)) ∧ w = w' := by
  unfold maxLen at hs
  go_enter Tryz.func107, Tryz.ntmps107
  go_wp2_with fail
  go_loop [8] (fun i => ∃ k : Nat, k ≤ s.size ∧ i = .int .i64 k ∧ (s.data.toList.take k).all keyC = true) (fun i => s.size - (intOf i).toNat)
  case atStart => exact ⟨0, Nat.zero_le _, rfl, rfl⟩
  case round =>
    obtain ⟨k, hk, rfl, hall⟩ := hrel
    have HA := Lib.hid hall
    clear hall
    by_cases hlt : k < s.size
    · have HT := Lib.hid (take_all s k hlt)
      have HN := Lib.hid (allK_no s k hlt)
      have C := Lib.hid (fun w => isKey1_any s[k] w)
      generalize keyC s[k] = b at *
      cases b with
      | true =>
        go_wp2_with fail
        with_reducible refine (C.out _).mono ?_
        rintro e w1 ⟨rfl, rfl⟩
        go_wp2
        go_round
        case rel => exact ⟨k + 1, by omega, by go_num, by rw [HT.out, HA.out]; rfl⟩
        case measure => simp [intOf]; omega
      | false =>
        go_wp2_with fail
        with_reducible refine (C.out _).mono ?_
        rintro e w1 ⟨rfl, rfl⟩
        go_wp2
        go_ret
        exact ⟨ret_bool (HN.out (by trivial)).symm, rfl⟩
    · have HF := Lib.hid (allK_of_take s k (by omega))
      go_wp2_with fail
      go_ret
      exact ⟨ret_bool (HF.out.symm.trans HA.out).symm, rfl⟩

theorem getD0 (s : ByteArray) (h : 0 < s.size) : s.data.toList.getD 0 0 = s[0] := by
  rw [List.getD_eq_getElem?_getD, List.getElem?_eq_getElem (by simpa using h)]
  rfl

theorem isKey_any (s : ByteArray) (w : World) (hs : s.size ≤ maxLen) :
    Calls Tryz.prog 75 #[.string s] w fun e w' => e = .returned (.bool (keyB s)) ∧ w = w' := by
  have CA := Lib.hid (fun w => all_any s w hs)
  unfold maxLen at hs
  by_cases hsz : 1 ≤ s.size ∧ s.size ≤ 40
  · have HK := Lib.hid (show keyB s = (smallB s[0] && allK s) by unfold keyB; rw [decide_eq_true hsz, getD0 s hsz.1]; simp)
    have C1 := Lib.hid (fun w => psmall_any s[0] w)
    obtain ⟨hs1, hs2⟩ := hsz
    have hs0 : 0 < s.size := hs1
    generalize smallB s[0] = b at *
    generalize allK s = a at *
    cases b with
    | true =>
      go_enter Tryz.func75, Tryz.ntmps75
      go_wp2_with fail
      with_reducible refine (pwithin_yes _ _ _ _ (by omega) (by omega)).mono ?_
      rintro e w1 ⟨rfl, rfl⟩
      go_wp2_with fail
      with_reducible refine (C1.out _).mono ?_
      rintro e w1 ⟨rfl, rfl⟩
      go_wp2_with fail
      with_reducible refine (CA.out _).mono ?_
      rintro e w1 ⟨rfl, rfl⟩
      go_wp2
      go_ret
      exact ⟨ret_bool (HK.out.trans (by simp)).symm, rfl⟩
    | false =>
      go_enter Tryz.func75, Tryz.ntmps75
      go_wp2_with fail
      with_reducible refine (pwithin_yes _ _ _ _ (by omega) (by omega)).mono ?_
      rintro e w1 ⟨rfl, rfl⟩
      go_wp2_with fail
      with_reducible refine (C1.out _).mono ?_
      rintro e w1 ⟨rfl, rfl⟩
      go_wp2
      go_ret
      exact ⟨ret_bool (HK.out.trans (by simp)).symm, rfl⟩
  · have HK := Lib.hid (show keyB s = false by unfold keyB; rw [decide_eq_false hsz]; simp)
    have hsz' : (s.size : Int) < 1 ∨ 40 < (s.size : Int) := by omega
    clear hsz
    go_enter Tryz.func75, Tryz.ntmps75
    go_wp2_with fail
    with_reducible refine (pwithin_no _ _ _ _ hsz').mono ?_
    rintro e w1 ⟨rfl, rfl⟩
    go_wp2
    go_ret
    exact ⟨ret_bool HK.out.symm, rfl⟩
end Go.Proofs.YtdefjnefkdemiaaGreatDoor
/- handref2.Key and handref1.keyOf answer keyB; handref1.made tells whether all bytes are of a set. -/
set_option linter.unusedVariables false
namespace Go.Proofs.YtdefjnefkdemiaaGreatDoor
open Go.RowKit

/-- all the bytes of a string are of a set -/
def onlyB (s : ByteArray) (cs : List UInt8) : Bool := s.data.toList.all (cs.contains ·)

theorem dropWhile_nil (p : UInt8 → Bool) : ∀ l : List UInt8, l.dropWhile p = [] ↔ l.all p = true
  | [] => by simp
  | c :: r => by
    rw [List.dropWhile_cons, List.all_cons]
    cases h : p c
    · simp
    · simp only [if_true, Bool.true_and]; exact dropWhile_nil p r
theorem dropWhile_all (p : UInt8 → Bool) : ∀ l : List UInt8, (l.dropWhile p).all p = l.all p
  | [] => rfl
  | c :: r => by
    rw [List.dropWhile_cons, List.all_cons]
    cases h : p c
    · simp [h]
    · simp only [if_true, Bool.true_and]; exact dropWhile_all p r
theorem trim_all (s : ByteArray) (cs : List UInt8) : onlyB s cs = (Lib.trimS s.data.toList cs).isEmpty := by
  rw [Bool.eq_iff_iff, List.isEmpty_iff]
  unfold Lib.trimS Lib.trimLeftS Lib.trimRightS onlyB
  rw [dropWhile_nil, List.all_reverse, dropWhile_all, List.all_reverse]

def cutSmall : List UInt8 := [97, 98, 99, 100, 101, 102, 103, 104, 105, 106, 107, 108, 109, 110, 111, 112, 113, 114, 115, 116, 117, 118, 119, 120, 121, 122]
def cutKey : List UInt8 := cutSmall ++ [48, 49, 50, 51, 52, 53, 54, 55, 56, 57, 45, 95]
theorem cutSmall_eq (c : UInt8) : cutSmall.contains c = smallB c := by
  have h : ∀ n, n < 256 → cutSmall.contains (UInt8.ofNat n) = smallB (UInt8.ofNat n) := by decide +kernel
  have := h c.toNat (UInt8.toNat_lt c)
  simpa using this
theorem cutKey_eq (c : UInt8) : cutKey.contains c = keyC c := by
  have h : ∀ n, n < 256 → cutKey.contains (UInt8.ofNat n) = keyC (UInt8.ofNat n) := by decide +kernel
  have := h c.toNat (UInt8.toNat_lt c)
  simpa using this

theorem trim_any (s : ByteArray) (cs : List UInt8) (w : World) (hs : s.size ≤ maxLen) (hcs : cs.length < 4294967281) (ha : cs.all (fun b => decide (b.toNat < 128)) = true) :
    Calls Tryz.prog 131 #[.string s, .string ⟨cs.toArray⟩] w fun e w' => e = .returned (.string ⟨(Lib.trimS s.data.toList cs).toArray⟩) ∧ Below w.heap.size w w' := by
  have h := Any.strings_Trim_laid Tryz.lays160 (by kernel_rfl) s ⟨cs.toArray⟩ w (by unfold maxLen at hs; omega) (by simpa [ByteArray.size] using hcs) (ascii_of_all (by simpa using ha))
  exact h

theorem eq_empty (l : List UInt8) : ((⟨l.toArray⟩ : ByteArray).toList.isEmpty) = l.isEmpty := by
  rw [Lib.toList_data]

theorem only_any (s : ByteArray) (cs : List UInt8) (w : World) (hs : s.size ≤ maxLen) (hcs : cs.length < 4294967281) (ha : cs.all (fun b => decide (b.toNat < 128)) = true) :
    Calls Tryz.prog 117 #[.string s, .string ⟨cs.toArray⟩] w fun e w' => e = .returned (.bool (onlyB s cs)) ∧ Below w.heap.size w w' := by
  have C := Lib.hid (trim_any s cs w hs hcs ha)
  rw [trim_all]
  have HE := Lib.hid (eq_empty (Lib.trimS s.data.toList cs))
  generalize (Lib.trimS s.data.toList cs).isEmpty = b at *
  generalize (⟨(Lib.trimS s.data.toList cs).toArray⟩ : ByteArray) = r at *
  go_enter Tryz.func117, Tryz.ntmps117
  go_wp2_with fail
  with_reducible refine C.out.mono ?_
  rintro e w1 ⟨rfl, hb⟩
  go_wp2
  go_ret
  exact ⟨ret_bool (by simpa using HE.out), hb⟩

theorem in_yes (n lo hi : Int) (w : World) (h1 : lo ≤ n) (h2 : n ≤ hi) : Calls Tryz.prog 116 #[.int .i64 n, .int .i64 lo, .int .i64 hi] w fun e w' => e = .returned (.bool true) ∧ w = w' := by
  go_enter Tryz.func116, Tryz.ntmps116
  go_wp2
  go_ret
  exact ⟨ret_bool (by simp <;> omega), rfl⟩
theorem in_no (n lo hi : Int) (w : World) (h : n < lo ∨ hi < n) : Calls Tryz.prog 116 #[.int .i64 n, .int .i64 lo, .int .i64 hi] w fun e w' => e = .returned (.bool false) ∧ w = w' := by
  by_cases h1 : lo ≤ n
  · have h2 : ¬ n ≤ hi := by omega
    go_enter Tryz.func116, Tryz.ntmps116
    go_wp2
    go_ret
    exact ⟨ret_bool (by simp <;> omega), rfl⟩
  · go_enter Tryz.func116, Tryz.ntmps116
    go_wp2
    go_ret
    exact ⟨rfl, rfl⟩

theorem first_only (s : ByteArray) (h : 0 < s.size) : onlyB (s.extract 0 1) cutSmall = smallB s[0] := by
  have e : (s.extract 0 1).data.toList = [s[0]] := by
    rw [Lib.extract_data]
    have := getD0 s h
    cases hl : s.data.toList with
    | nil => rw [ByteArray.size] at h; simp [← Array.length_toList, hl] at h
    | cons c r =>
      rw [hl] at this
      simp at this
      simp [this]
  unfold onlyB
  rw [e]
  simp only [List.all_cons, List.all_nil, Bool.and_true]
  exact cutSmall_eq _
theorem all_only (s : ByteArray) : onlyB s cutKey = allK s := by
  unfold onlyB allK
  congr 1
  funext c
  exact cutKey_eq c

theorem pKey_any (s : ByteArray) (w : World) (hs : s.size ≤ maxLen) :
    Calls Tryz.prog 86 #[.string s] w fun e w' => e = .returned (.bool (keyB s)) ∧ Below w.heap.size w w' := by
  have hs' := hs
  unfold maxLen at hs'
  by_cases hsz : 1 ≤ s.size ∧ s.size ≤ 40
  · have HK := Lib.hid (show keyB s = (onlyB (s.extract 0 1) cutSmall && onlyB s cutKey) by rw [first_only s hsz.1, all_only]; unfold keyB; rw [decide_eq_true hsz, getD0 s hsz.1]; simp)
    have C1 := Lib.hid (fun w => only_any (s.extract 0 1) cutSmall w (by simp [ByteArray.size_extract]; unfold maxLen; omega) (by decide) (by decide))
    have C2 := Lib.hid (fun w => only_any s cutKey w hs (by decide) (by decide))
    obtain ⟨hs1, hs2⟩ := hsz
    have hs0 : 0 < s.size := hs1
    generalize onlyB (s.extract 0 1) cutSmall = b at *
    generalize onlyB s cutKey = a at *
    cases b with
    | true =>
      go_enter Tryz.func86, Tryz.ntmps86
      go_wp2_with fail
      with_reducible refine (in_yes _ _ _ _ (by omega) (by omega)).mono ?_
      rintro e w1 ⟨rfl, rfl⟩
      go_wp2_with fail
      refine (C1.out _).mono ?_
      rintro e w1 ⟨rfl, hb1⟩
      go_wp2_with fail
      refine (C2.out _).mono ?_
      rintro e w2 ⟨rfl, hb2⟩
      go_wp2
      go_ret
      exact ⟨ret_bool (HK.out.trans (by simp)).symm, hb1.trans (hb2.mono hb1.size)⟩
    | false =>
      go_enter Tryz.func86, Tryz.ntmps86
      go_wp2_with fail
      with_reducible refine (in_yes _ _ _ _ (by omega) (by omega)).mono ?_
      rintro e w1 ⟨rfl, rfl⟩
      go_wp2_with fail
      refine (C1.out _).mono ?_
      rintro e w1 ⟨rfl, hb1⟩
      go_wp2
      go_ret
      exact ⟨ret_bool (HK.out.trans (by simp)).symm, hb1⟩
  · have HK := Lib.hid (show keyB s = false by unfold keyB; rw [decide_eq_false hsz]; simp)
    have hsz' : (s.size : Int) < 1 ∨ 40 < (s.size : Int) := by omega
    clear hsz
    go_enter Tryz.func86, Tryz.ntmps86
    go_wp2_with fail
    with_reducible refine (in_no _ _ _ _ hsz').mono ?_
    rintro e w1 ⟨rfl, rfl⟩
    go_wp2
    go_ret
    exact ⟨ret_bool HK.out.symm, Below.refl _ _⟩

theorem keyOf_any (s : ByteArray) (w : World) (hs : s.size ≤ maxLen) :
    Calls Tryz.prog 58 #[.string s] w fun e w' => e = .returned (.bool (keyB s)) ∧ Below w.heap.size w w' := by
  have C := Lib.hid (pKey_any s w hs)
  generalize keyB s = b at *
  go_enter Tryz.func58, Tryz.ntmps58
  go_wp2_with fail
  with_reducible refine C.out.mono ?_
  rintro e w1 ⟨rfl, hb1⟩
  go_wp2
  go_ret
  exact ⟨rfl, hb1⟩
end Go.Proofs.YtdefjnefkdemiaaGreatDoor
/- Moments: measure.isMoment, handref1.Moment. -/
set_option linter.unusedVariables false
namespace Go.Proofs.YtdefjnefkdemiaaGreatDoor
open Go.RowKit

def momB (n : Int) : Bool := decide (0 ≤ n ∧ n ≤ 4321439)
theorem moment_any (n : Int) (w : World) : Calls Tryz.prog 11 #[.int .i64 n] w fun e w' => e = .returned (.bool (momB n)) ∧ w = w' := by
  by_cases h : 0 ≤ n ∧ n ≤ 4321439
  · have HB := Lib.hid (show momB n = true from decide_eq_true h)
    obtain ⟨h1, h2⟩ := h
    have h3 : n < 4321440 := by omega
    go_enter Tryz.func11, Tryz.ntmps11
    go_wp2
    go_ret
    exact ⟨ret_bool HB.out.symm, rfl⟩
  · have HB := Lib.hid (show momB n = false from decide_eq_false h)
    by_cases h1 : 0 ≤ n
    · have h3 : ¬ n < 4321440 := by omega
      clear h
      go_enter Tryz.func11, Tryz.ntmps11
      go_wp2
      go_ret
      exact ⟨ret_bool HB.out.symm, rfl⟩
    · clear h
      go_enter Tryz.func11, Tryz.ntmps11
      go_wp2
      go_ret
      exact ⟨ret_bool HB.out.symm, rfl⟩
end Go.Proofs.YtdefjnefkdemiaaGreatDoor
/- Letters that were sent, and gains, as records; what is wrong with a list of them, in plain words. -/
set_option linter.unusedVariables false
namespace Go.Proofs.YtdefjnefkdemiaaGreatDoor
open Go.RowKit

structure Snt where
  id : ByteArray
  person : ByteArray
  letter : ByteArray
  at_ : Int
def Snt.cells (x : Snt) : List Value := [.string x.id, .string x.person, .string x.letter, .int .i64 x.at_]
def Snt.ok (x : Snt) : Prop := x.id.size ≤ 100 ∧ x.person.size ≤ 100 ∧ x.letter.size ≤ 100 ∧ -9223372036854775808 ≤ x.at_ ∧ x.at_ ≤ 9223372036854775807
theorem Snt.len (x : Snt) : x.cells.length = 4 := rfl

/-- what is wrong with a letter, told from six answers -/
def sE (b1 b2 b3 b4 b5 b6 : Bool) : Int := if b1 = false then 5 else if b2 then 6 else if b3 = false then 5 else if b4 = false then 5 else if b5 = false then 1 else if b6 then 7 else 0
def lateB (pre : List Snt) (x : Snt) : Bool := match pre.getLast? with
  | some y => decide (x.at_ < y.at_)
  | none => false
def stepE (pre : List Snt) (x : Snt) : Int := sE (keyB x.id) (hasS (pre.map Snt.id) x.id) (keyB x.person) (keyB x.letter) (momB x.at_) (lateB pre x)
def sentGo : List Snt → List Snt → Int
  | _, [] => 0
  | pre, x :: r => if stepE pre x = 0 then sentGo (pre ++ [x]) r else stepE pre x
def sentE (l : List Snt) : Int := sentGo [] l
/-- the ids of the first k -/
def idsOf (l : List Snt) (k : Nat) : List ByteArray := (l.take k).map Snt.id
theorem idsOf_succ (l : List Snt) (k : Nat) (hk : k < l.length) : idsOf l (k + 1) = idsOf l k ++ [l[k].id] := by
  unfold idsOf
  rw [List.take_succ_eq_append_getElem hk, List.map_append]
  rfl
/-- so far nothing is wrong -/
def SentInv (l : List Snt) (k : Nat) : Prop := sentE l = sentGo (l.take k) (l.drop k)
theorem SentInv.zero (l : List Snt) : SentInv l 0 := rfl
theorem SentInv.step {l : List Snt} {k : Nat} (h : SentInv l k) (hk : k < l.length) : (stepE (l.take k) l[k] ≠ 0 → sentE l = stepE (l.take k) l[k]) ∧ (stepE (l.take k) l[k] = 0 → SentInv l (k + 1)) := by
  unfold SentInv at *
  rw [List.drop_eq_getElem_cons hk, sentGo] at h
  refine ⟨fun h0 => ?_, fun h0 => ?_⟩
  · rw [h, if_neg h0]
  · rw [h, if_pos h0, List.take_succ_eq_append_getElem hk]
theorem SentInv.done {l : List Snt} {k : Nat} (h : SentInv l k) (hk : l.length ≤ k) : sentE l = 0 := by
  unfold SentInv at h
  rw [h, List.drop_of_length_le hk]
  cases l.take k <;> rfl
theorem late_zero (l : List Snt) (x : Snt) : lateB (l.take 0) x = false := by simp [lateB]
theorem late_succ (l : List Snt) (x : Snt) (k : Nat) (h0 : 0 < k) (hk : k - 1 < l.length) : lateB (l.take k) x = decide (x.at_ < l[k - 1].at_) := by
  obtain ⟨j, rfl⟩ : ∃ j, k = j + 1 := ⟨k - 1, by omega⟩
  have hk' : j < l.length := by simpa using hk
  have e : (l.take (j + 1)).getLast? = some l[j] := by rw [List.take_succ_eq_append_getElem hk', List.getLast?_concat]
  unfold lateB
  rw [e]
  rfl
end Go.Proofs.YtdefjnefkdemiaaGreatDoor
/- The place of a string in a list of strings. -/
set_option linter.unusedVariables false
namespace Go.Proofs.YtdefjnefkdemiaaGreatDoor

def eqS (x s : ByteArray) : Bool := decide (x.data.toList = s.data.toList)
theorem eqS_eq {x s : ByteArray} : eqS x s = true ↔ x = s := by
  unfold eqS
  rw [decide_eq_true_eq]
  constructor
  · intro h
    cases x; cases s
    congr 1
    exact Array.toList_inj.1 h
  · rintro rfl; rfl
/-- the first place of s in l, counted from i; -1: none -/
def idxGo : List ByteArray → ByteArray → Nat → Int
  | [], _, _ => -1
  | x :: l, s, i => if eqS x s = true then (i : Int) else idxGo l s (i + 1)
def idxG (l : List ByteArray) (s : ByteArray) : Int := idxGo l s 0
theorem idxGo_drop (l : List ByteArray) (s : ByteArray) (k : Nat) (h : k < l.length) : idxGo (l.drop k) s k = if eqS l[k] s = true then (k : Int) else idxGo (l.drop (k + 1)) s (k + 1) := by
  rw [List.drop_eq_getElem_cons h]; rfl
theorem idxGo_bd : ∀ (l : List ByteArray) (s : ByteArray) (i : Nat), idxGo l s i = -1 ∨ ((i : Int) ≤ idxGo l s i ∧ idxGo l s i < (i : Int) + l.length)
  | [], s, i => .inl rfl
  | x :: l, s, i => by
    unfold idxGo
    split
    · right; simp only [List.length_cons]; omega
    · rcases idxGo_bd l s (i + 1) with h | h
      · exact .inl h
      · right; simp only [List.length_cons]; omega
theorem idxG_bd (l : List ByteArray) (s : ByteArray) : idxG l s = -1 ∨ (0 ≤ idxG l s ∧ idxG l s < l.length) := by
  have := idxGo_bd l s 0
  unfold idxG
  omega
theorem hasS_idx (l : List ByteArray) (s : ByteArray) : hasS l s = decide (0 ≤ idxG l s) := by
  have key : ∀ (l : List ByteArray) (i : Nat), hasS l s = decide (0 ≤ idxGo l s i) := by
    intro l
    induction l with
    | nil => intro i; rfl
    | cons x l ih =>
      intro i
      unfold idxGo
      by_cases h : eqS x s = true
      · rw [if_pos h]
        unfold hasS
        rw [List.any_cons]
        unfold eqS at h
        rw [h]
        simp
      · rw [if_neg h, ← ih (i + 1)]
        unfold hasS
        rw [List.any_cons]
        unfold eqS at h
        rw [Bool.not_eq_true] at h
        rw [h]
        rfl
  exact key l 0
end Go.Proofs.YtdefjnefkdemiaaGreatDoor
/- Budgets and holds as records; what is done with them, in plain words. -/
set_option linter.unusedVariables false
namespace Go.Proofs.YtdefjnefkdemiaaGreatDoor
open Go.RowKit

structure Bd where
  key : ByteArray
  cents : Int
  first : Int
  last : Int
  pace : Bool
def Bd.cells (x : Bd) : List Value := [.string x.key, .int .i64 x.cents, .int .i64 x.first, .int .i64 x.last, .bool x.pace]
def Bd.ok (x : Bd) : Prop := x.key.size ≤ 100 ∧ -2000000000000 ≤ x.cents ∧ x.cents ≤ 2000000000000 ∧ -100000 ≤ x.first ∧ x.first ≤ 100001 ∧ -100000 ≤ x.last ∧ x.last ≤ 100000
theorem Bd.len (x : Bd) : x.cells.length = 5 := rfl
structure Hd where
  no : Int
  key : ByteArray
  cents : Int
  at_ : Int
  until_ : Int
  state : Int
def Hd.cells (x : Hd) : List Value := [.int .i64 x.no, .string x.key, .int .i64 x.cents, .int .i64 x.at_, .int .i64 x.until_, .int .i64 x.state]
def Hd.ok (x : Hd) : Prop := x.key.size ≤ 100 ∧ 0 ≤ x.cents ∧ x.cents ≤ 2000000000000 ∧ -100000000 ≤ x.until_ ∧ x.until_ ≤ 100000000 ∧ 0 ≤ x.state ∧ x.state ≤ 10
theorem Hd.len (x : Hd) : x.cells.length = 6 := rfl

/-- the numbers of a budget are in their ranges -/
def bdB (x : Bd) : Bool := decide (0 ≤ x.cents) && decide (x.cents ≤ 1000000000000) && decide (0 ≤ x.first) && decide (x.first ≤ x.last) && decide (x.last ≤ 3000)
def bE (b1 b2 b3 : Bool) : Int := if b1 = false then 5 else if b2 then 6 else if b3 = false then 1 else 0
def bstepE (pre : List Bd) (x : Bd) : Int := bE (keyB x.key) (hasS (pre.map Bd.key) x.key) (bdB x)
def budGo : List Bd → List Bd → Int
  | _, [] => 0
  | pre, x :: r => if bstepE pre x = 0 then budGo (pre ++ [x]) r else bstepE pre x
def budE (l : List Bd) : Int := budGo [] l
def BudInv (l : List Bd) (k : Nat) : Prop := budE l = budGo (l.take k) (l.drop k)
theorem BudInv.zero (l : List Bd) : BudInv l 0 := rfl
theorem BudInv.step {l : List Bd} {k : Nat} (h : BudInv l k) (hk : k < l.length) : (bstepE (l.take k) l[k] ≠ 0 → budE l = bstepE (l.take k) l[k]) ∧ (bstepE (l.take k) l[k] = 0 → BudInv l (k + 1)) := by
  unfold BudInv at *
  rw [List.drop_eq_getElem_cons hk, budGo] at h
  refine ⟨fun h0 => ?_, fun h0 => ?_⟩
  · rw [h, if_neg h0]
  · rw [h, if_pos h0, List.take_succ_eq_append_getElem hk]
theorem BudInv.done {l : List Bd} {k : Nat} (h : BudInv l k) (hk : l.length ≤ k) : budE l = 0 := by
  unfold BudInv at h
  rw [h, List.drop_eq_nil_of_le hk]
  rfl
theorem budGo_ok : ∀ (r pre : List Bd), budGo pre r = 0 → ∀ x ∈ r, bdB x = true
  | [], _, _ => by simp
  | y :: r, pre, h => by
    unfold budGo at h
    split at h
    · rename_i h0
      intro x hx
      rcases List.mem_cons.1 hx with rfl | hx
      · unfold bstepE bE at h0
        split at h0
        · omega
        · split at h0
          · omega
          · split at h0
            · omega
            · rename_i h3
              simpa using h3
      · exact budGo_ok r (pre ++ [y]) h x hx
    · rename_i h0
      exact absurd h h0
theorem budE_ok {l : List Bd} (h : budE l = 0) : ∀ x ∈ l, bdB x = true := budGo_ok l [] h

/-- how much of a budget may be spent -/
def pacV (x : Bd) (t : Int) : Int :=
  if t / 1440 < x.first then 0 else if x.last ≤ t / 1440 ∨ x.pace = false then x.cents else x.cents * (t / 1440 - x.first + 1) / (x.last - x.first + 1)
def stV (x : Hd) (t : Int) : Int := if x.state = 1 ∧ x.until_ ≤ t then 4 else x.state
def tkB (x : Hd) (key : ByteArray) (t : Int) : Bool := eqS x.key key && (decide (stV x t = 1) || decide (stV x t = 2))
def tkV : List Hd → ByteArray → Int → Int
  | [], _, _ => 0
  | x :: l, key, t => (if tkB x key t = true then x.cents else 0) + tkV l key t
theorem tkV_app (l m : List Hd) (key : ByteArray) (t : Int) : tkV (l ++ m) key t = tkV l key t + tkV m key t := by
  induction l with
  | nil => simp [tkV]
  | cons x l ih => simp only [List.cons_append, tkV, ih]; omega
theorem tkV_bd (l : List Hd) (key : ByteArray) (t : Int) (h : ∀ x ∈ l, x.ok) : 0 ≤ tkV l key t ∧ tkV l key t ≤ 2000000000000 * (l.length : Int) := by
  induction l with
  | nil => simp [tkV]
  | cons x l ih =>
    have h1 := h x (by simp)
    have h2 := ih fun y hy => h y (by simp [hy])
    simp only [tkV, List.length_cons]
    have h3 := h1.2.1
    have h4 := h1.2.2.1
    split <;> omega

/-- where a budget with a key stands -/
def bdAt (l : List Bd) (key : ByteArray) : Int := idxG (l.map Bd.key) key
theorem bdAt_bd (l : List Bd) (key : ByteArray) : bdAt l key = -1 ∨ (0 ≤ bdAt l key ∧ bdAt l key < l.length) := by
  have := idxG_bd (l.map Bd.key) key
  rw [List.length_map] at this
  exact this
end Go.Proofs.YtdefjnefkdemiaaGreatDoor
/- Tags of offers and items: what is wrong with them, in plain words. -/
set_option linter.unusedVariables false
namespace Go.Proofs.YtdefjnefkdemiaaGreatDoor
open Go.RowKit

/-- what is wrong with one tag: its form; its place behind the tag before it -/
def tE (b1 : Bool) (b2 : Bool) : Int := if b1 = false then 5 else if b2 = true then 7 else 0
/-- the order of strings, as the walk spells it -/
def leS (a b : ByteArray) : Bool := Op.bytesLess a.toList b.toList || a.toList == b.toList
def tstepE (l : List ByteArray) (i : Nat) : Int :=
  tE (keyB (l.getD i ⟨#[]⟩)) (decide (0 < i) && leS (l.getD i ⟨#[]⟩) (l.getD (i - 1) ⟨#[]⟩))
def tgGo (l : List ByteArray) : Nat → Nat → Int
  | 0, _ => 0
  | f + 1, i => if tstepE l i = 0 then tgGo l f (i + 1) else tstepE l i
def tgE (l : List ByteArray) : Int := if 10 < l.length then 2 else tgGo l l.length 0
theorem tgGo_step (l : List ByteArray) (k : Nat) (h : k < l.length) : tgGo l (l.length - k) k = if tstepE l k = 0 then tgGo l (l.length - (k + 1)) (k + 1) else tstepE l k := by
  rw [show l.length - k = (l.length - (k + 1)) + 1 by omega]; rfl
end Go.Proofs.YtdefjnefkdemiaaGreatDoor
/- One of some strings: Stream.one, Stream.One, over a list that was just made. -/
set_option linter.unusedVariables false
namespace Go.Proofs.YtdefjnefkdemiaaGreatDoor
open Go.RowKit

/-- what the maker of a string leaves -/
def GenS (S : SC) (K : Nat) (w : World) (P : ByteArray → Prop) (e : Ending) (w' : World) : Prop :=
  ∃ s, P s ∧ e = .returned (.string s) ∧ w.grownBy w' (some S.g) ∧ Strm w' S K

theorem one_any (S : SC) (K : Nat) (h : Nat) (zs : List ByteArray) (n c : Nat) (w : World) (hs : Strm w S K) (hK : K ≤ 1099511627776) (hn : zs.length = n) (hn0 : 0 < n) (hn1 : n ≤ 1000)
    (hb : w.heap[h]? = some (.cells (zs.map Value.string).toArray 9 (0, 0))) (hg : h ≠ S.g) :
    Calls Tryz.prog 23 #[S.p, .slice (some ⟨h, 0, none⟩) n c] w (GenS S (K + 1) w fun r => r ∈ zs) := by
  have HB := Lib.hid hb
  have HN := Lib.hid hn
  clear hb hn
  go_enter Tryz.func23, Tryz.ntmps23
  go_wp2_with fail
  with_reducible refine (next_any S K _ _ hs hK (by omega)).mono ?_
  rintro e w' ⟨r, ⟨h0, h1, h2⟩, rfl, hgr, hs'⟩
  have hr : r.toNat < zs.length := by have := HN.out; have := h1 (by omega); omega
  have hlt := h1 (by omega)
  have hcell : w'.cell? ⟨h, r.toNat, none⟩ = some (.string zs[r.toNat]) := by
    refine hgr.cell ?_ (by simpa using hg)
    simp [World.cell?, HB.out, hr]
  have HM := Lib.hid (List.getElem_mem hr)
  clear h1
  generalize zs[r.toNat] = z at *
  go_wp2
  go_ret
  exact ⟨z, HM.out, rfl, hgr, hs'⟩

theorem one_at (S : SC) (K : Nat) (zs : List ByteArray) (n c p : Nat) (cs : Array Value) (w : World) (hs : Strm w S K) (hK : K ≤ 1099511627776) (hn : zs.length = n) (hn0 : 0 < n) (hn1 : n ≤ 1000)
    (hp : p = w.heap.size) (hcs : cs = (zs.map Value.string).toArray) :
    Calls Tryz.prog 23 #[S.p, .slice (some ⟨p, 0, none⟩) n c] (w.alloc (.cells cs 9)) (GenS S (K + 1) w fun r => r ∈ zs) := by
  subst hcs hp
  refine (one_any S K _ zs n c _ (strm_alloc hs _) hK hn hn0 hn1 (heap_alloc_new _ _) ?_).mono ?_
  · have := strm_lt hs; omega
  · rintro e w' ⟨r, h1, h2, h3, h4⟩
    exact ⟨r, h1, h2, grown_trans (World.grownBy_alloc w _ _) h3, h4⟩
end Go.Proofs.YtdefjnefkdemiaaGreatDoor
/- Flip: true once in n times. -/
namespace Go.Proofs.YtdefjnefkdemiaaGreatDoor
open Go.RowKit

/-- what a call that draws a bool from the stream leaves -/
def GenB (S : SC) (K : Nat) (w : World) (e : Ending) (w' : World) : Prop :=
  ∃ r : Bool, e = .returned (.bool r) ∧ w.grownBy w' (some S.g) ∧ Strm w' S K

theorem flip_any (S : SC) (K : Nat) (n : Int) (w : World) (hs : Strm w S K) (hK : K ≤ 1099511627776) (hn' : n ≤ 9223372036854775807) :
    Calls Tryz.prog 8 #[S.p, .int .i64 n] w (GenB S (K + 1) w) := by
  go_enter Tryz.func8, Tryz.ntmps8
  go_wp2_with fail
  with_reducible refine (next_any S K _ _ hs hK (by omega)).mono ?_
  rintro e w' ⟨r, ⟨h0, h1, h2⟩, rfl, hgr, hs'⟩
  clear h1
  go_wp2
  go_ret
  exact ⟨_, rfl, hgr, hs'⟩
end Go.Proofs.YtdefjnefkdemiaaGreatDoor
/- Stream.key and Stream.One: one of some strings, seldom a wrong one. -/
set_option linter.unusedVariables false
namespace Go.Proofs.YtdefjnefkdemiaaGreatDoor
open Go.RowKit

end Go.Proofs.YtdefjnefkdemiaaGreatDoor
/- Pick: one of some numbers. -/
namespace Go.Proofs.YtdefjnefkdemiaaGreatDoor
open Go.RowKit

theorem pick_any (S : SC) (K : Nat) (h : Nat) (zs : List Int) (n c : Nat) (w : World) (hs : Strm w S K) (hK : K ≤ 1099511627776) (hn : zs.length = n) (hn0 : 0 < n) (hn1 : n ≤ 1000)
    (hb : w.heap[h]? = some (.cells (zs.map (Value.int .i64)).toArray 3 (0, 0))) (hg : h ≠ S.g) :
    Calls Tryz.prog 17 #[S.p, .slice (some ⟨h, 0, none⟩) n c] w (GenI S (K + 1) w fun r => r ∈ zs) := by
  have HB := Lib.hid hb
  have HN := Lib.hid hn
  clear hb hn
  go_enter Tryz.func17, Tryz.ntmps17
  go_wp2_with fail
  with_reducible refine (next_any S K _ _ hs hK (by omega)).mono ?_
  rintro e w' ⟨r, ⟨h0, h1, h2⟩, rfl, hgr, hs'⟩
  have hr : r.toNat < zs.length := by have := HN.out; have := h1 (by omega); omega
  have hlt := h1 (by omega)
  have hcell : w'.cell? ⟨h, r.toNat, none⟩ = some (.int .i64 zs[r.toNat]) := by
    refine hgr.cell ?_ (by simpa using hg)
    simp [World.cell?, HB.out, hr]
  have HM := Lib.hid (List.getElem_mem hr)
  clear h1
  generalize zs[r.toNat] = z at *
  go_wp2
  go_ret
  exact ⟨z, HM.out, rfl, hgr, hs'⟩
end Go.Proofs.YtdefjnefkdemiaaGreatDoor
/- Pick over a list that was just made. -/
namespace Go.Proofs.YtdefjnefkdemiaaGreatDoor
open Go.RowKit

theorem new_at {w : World} {o : Obj} {p : Nat} (hp : p = w.heap.size) : (w.alloc o).heap[p]? = some o := by
  subst hp
  exact heap_alloc_new w o
/-- a pick of the stream, and the list that it is made of -/
theorem pick_at (S : SC) (K : Nat) (zs : List Int) (n c p : Nat) (cs : Array Value) (w : World) (hs : Strm w S K) (hK : K ≤ 1099511627776) (hn : zs.length = n) (hn0 : 0 < n) (hn1 : n ≤ 1000)
    (hp : p = w.heap.size) (hcs : cs = (zs.map (Value.int .i64)).toArray) :
    Calls Tryz.prog 17 #[S.p, .slice (some ⟨p, 0, none⟩) n c] (w.alloc (.cells cs 3)) (GenI S (K + 1) w fun r => r ∈ zs) := by
  subst hcs hp
  refine (pick_any S K _ zs n c _ (strm_alloc hs _) hK hn hn0 hn1 (heap_alloc_new _ _) ?_).mono ?_
  · have := strm_lt hs; omega
  · rintro e w' ⟨r, h1, h2, h3, h4⟩
    exact ⟨r, h1, h2, grown_trans (World.grownBy_alloc w _ _) h3, h4⟩
end Go.Proofs.YtdefjnefkdemiaaGreatDoor
/- The maker of letters that were sent: Stream.SentList. -/
set_option linter.unusedVariables false
namespace Go.Proofs.YtdefjnefkdemiaaGreatDoor
open Go.RowKit

theorem enc_size (n : Int) (h0 : 0 ≤ n) (h1 : n < 128) : (Utf8.encode n).size ≤ 4 := by
  unfold Utf8.encode
  split
  · have hc : n.toNat < 128 := by omega
    simp only [hc, if_true]
    show 1 ≤ 4
    omega
  · show 3 ≤ 4
    omega
theorem size_pre (c : UInt8) (R : ByteArray) (h : R.size ≤ 4) : ((⟨#[c]⟩ : ByteArray) ++ R).size ≤ 5 := by
  rw [ByteArray.size_append]
  show 1 + R.size ≤ 5
  omega

end Go.Proofs.YtdefjnefkdemiaaGreatDoor
/- The maker of keys: Stream.Keys. -/
set_option linter.unusedVariables false
namespace Go.Proofs.YtdefjnefkdemiaaGreatDoor
open Go.RowKit

theorem infoStr : (Tryz.prog.info? 9).map (fun i => (i.zero, i.size, i.bytes)) = some (some (.string ⟨#[]⟩), 1, 16) := by kernel_rfl
/-- a string's cell -/
def sCell (s : ByteArray) : List Value := [.string s]

end Go.Proofs.YtdefjnefkdemiaaGreatDoor
/- Lists of strings, and a row of such lists of one's own, each of which may grow. -/
set_option linter.unusedVariables false
namespace Go.Proofs.YtdefjnefkdemiaaGreatDoor
open Go.RowKit

/-- the slice at a reads as the strings l -/
def StrsAt (w : World) (a : Option Addr) (l : List ByteArray) : Prop :=
  ∀ j (hj : j < l.length), ∃ p off, a = some ⟨p, off, none⟩ ∧ p < w.heap.size ∧ w.cell? ⟨p, off + j, none⟩ = some (.string l[j])
theorem StrsAt.nil (w : World) (a : Option Addr) : StrsAt w a [] := fun j hj => by simp at hj
theorem StrsAt.of_rat {w : World} {a : Option Addr} {l : List ByteArray} (h : RAt w a 1 sCell l) : StrsAt w a l := by
  intro j hj
  obtain ⟨p, off, h1, h2, h3⟩ := h j hj
  have := h3 0 (.string l[j]) rfl
  rw [Nat.mul_one, Nat.add_zero] at this
  exact ⟨p, off, h1, h2, this⟩
theorem StrsAt.below {w w' : World} {a : Option Addr} {l : List ByteArray} (h : StrsAt w a l) (hb : Below w.heap.size w w') : StrsAt w' a l := by
  intro j hj
  obtain ⟨p, off, h1, h2, h3⟩ := h j hj
  exact ⟨p, off, h1, Nat.lt_of_lt_of_le h2 hb.size, (hb.cell (p := ⟨p, off + j, none⟩) h2).trans h3⟩
theorem StrsAt.grown {w w' : World} {a : Option Addr} {l : List ByteArray} {g : Nat} (h : StrsAt w a l) (hb : w.grownBy w' (some g)) (hg : ∀ p off, a = some ⟨p, off, none⟩ → p ≠ g) : StrsAt w' a l := by
  intro j hj
  obtain ⟨p, off, h1, h2, h3⟩ := h j hj
  exact ⟨p, off, h1, Nat.lt_of_lt_of_le h2 hb.size, hb.cell h3 (by have := hg p off h1; simpa using this)⟩
theorem StrsAt.of_own {w : World} {b0 : Nat} {t : TypeId} {v : Value} {l : List ByteArray} (h : w.ownsRow b0 t 1 v l.length (l.map Value.string)) : ∃ a c, v = .slice a l.length c ∧ StrsAt w a l := by
  have e : ∀ l : List ByteArray, l.map Value.string = l.flatMap sCell := fun l => by
    induction l with
    | nil => rfl
    | cons x l ih => rw [List.map_cons, List.flatMap_cons, ih]; rfl
  rw [e l] at h
  obtain ⟨a, c, h1, h2, -⟩ := RAt.of_own h (fun x _ => rfl)
  exact ⟨a, c, h1, .of_rat h2⟩

/-- the value v reads as the lists L -/
def SSAt (w : World) (v : Value) (L : List (List ByteArray)) : Prop :=
  ∃ a c, v = .slice a L.length c ∧ ∀ j (hj : j < L.length), ∃ p off, a = some ⟨p, off, none⟩ ∧ p < w.heap.size ∧ ∃ a' c', w.cell? ⟨p, off + j, none⟩ = some (.slice a' L[j].length c') ∧ StrsAt w a' L[j]
theorem SSAt.nil (w : World) : SSAt w (.slice none 0 0) [] := ⟨none, 0, rfl, fun j hj => by simp at hj⟩
theorem SSAt.below {w w' : World} {v : Value} {L : List (List ByteArray)} (h : SSAt w v L) (hb : Below w.heap.size w w') : SSAt w' v L := by
  obtain ⟨a, c, rfl, h⟩ := h
  refine ⟨a, c, rfl, fun j hj => ?_⟩
  obtain ⟨p, off, h1, h2, a', c', h3, h4⟩ := h j hj
  exact ⟨p, off, h1, Nat.lt_of_lt_of_le h2 hb.size, a', c', (hb.cell (p := ⟨p, off + j, none⟩) h2).trans h3, h4.below hb⟩

/-- block B is a row of m lists of one's own, which read as L -/
structure LL (b0 : Nat) (wr : World) (B m : Nat) (f : Nat → Value) (L : List (List ByteArray)) : Prop where
  len : L.length = m
  row : RowG wr B m f
  own : ∀ j (hj : j < L.length), wr.ownsRow b0 9 1 (f j) L[j].length (L[j].map Value.string)
  apart : ∀ i j, i < m → j < m → i ≠ j → ∀ g, (f i).ownBlock = some g → (f j).ownBlock ≠ some g
  hB : B < b0
section
variable {b0 : Nat} {wr wr' : World} {B m : Nat} {f : Nat → Value} {L : List (List ByteArray)}
theorem LL.below (h : LL b0 wr B m f L) (hb : Below wr.heap.size wr wr') : LL b0 wr' B m f L :=
  ⟨h.len, h.row.below hb, fun j hj => (h.own j hj).kept (grown_of_below hb none) (by cases (f j).ownBlock <;> simp), h.apart, h.hB⟩
theorem LL.ss (h : LL b0 wr B m f L) : SSAt wr (.slice (some ⟨B, 0, none⟩) m m) L := by
  have hl := h.len
  refine ⟨some ⟨B, 0, none⟩, m, by rw [hl], fun j hj => ⟨B, 0, rfl, h.row.lt, ?_⟩⟩
  obtain ⟨a, c, e, hs⟩ := StrsAt.of_own (h.own j hj)
  refine ⟨a, c, ?_, hs⟩
  rw [Nat.zero_add, h.row.cell j (by omega), e]
/-- a string more in list i -/
theorem LL.app {i g cap : Nat} {W w1 : World} {x : ByteArray} (h : LL b0 wr B m f L) (hi : i < L.length) (hR : wr.grownBy W none) (hb : b0 ≤ wr.heap.size)
    (hown : w1.ownsRow b0 9 1 (.slice (some ⟨g, 0, none⟩) (L[i].length + 1) cap) (L[i].length + 1) (L[i].map Value.string ++ [.string x])) (hgrow : W.grownBy w1 (f i).ownBlock) (hat : (f i).ownBlock = some g ∨ g = W.heap.size) :
    w1.cell? ⟨B, i, none⟩ = some (f i) ∧ w1.frozen? ⟨B, i, none⟩ = false ∧
    LL b0 (w1.setCell ⟨B, i, none⟩ (.slice (some ⟨g, 0, none⟩) (L[i].length + 1) cap)) B m (fun j => if j = i then .slice (some ⟨g, 0, none⟩) (L[i].length + 1) cap else f j) (L.set i (L[i] ++ [x])) := by
  have hl := h.len
  have hBb := h.hB
  have hrowlt : ∀ j (hj : j < L.length) k, (f j).ownBlock = some k → b0 ≤ k ∧ k < wr.heap.size := fun j hj k hk => (h.own j hj).lt k hk
  have hR1 : RowG w1 B m f := (h.row.grown hR (by simp)).grown hgrow (fun e => by have := (hrowlt i hi B e.symm).1; omega)
  have hz := hR.size
  have hset : w1.grownBy (w1.setCell ⟨B, i, none⟩ (.slice (some ⟨g, 0, none⟩) (L[i].length + 1) cap)) (some B) := ⟨rfl, rfl, rfl, by simp [World.setCell], fun k _ hne => Below.heap_setCell w1 _ _ k (by rintro rfl; exact hne rfl)⟩
  have hgb : b0 ≤ g := (hown.lt g (by simp [Value.ownBlock])).1
  refine ⟨hR1.cell i (by omega), hR1.free i (by omega), by simp [hl], hR1.set i (by omega) _, fun j hj => ?_, fun a b ha hb' hab k hk => ?_, h.hB⟩
  · have hj' : j < L.length := by simpa using hj
    by_cases e : j = i
    · subst e
      simp only [if_pos, List.getElem_set_self, List.length_append, List.length_singleton, List.map_append, List.map_cons, List.map_nil]
      exact hown.kept hset (.inr (by simp [Value.ownBlock]; omega))
    · rw [if_neg e]
      have hs : (L.set i (L[i] ++ [x]))[j] = L[j] := List.getElem_set_ne (fun h => e h.symm) _
      rw [hs]
      have h1 := h.own j hj'
      have h2 := h1.kept hR (by cases (f j).ownBlock <;> simp)
      have h3 := h2.kept hgrow (by
        cases hv : (f j).ownBlock with
        | none => exact .inl rfl
        | some k => exact .inr fun e' => h.apart i j (by omega) (by omega) (fun h => e h.symm) k e'.symm hv)
      refine h3.kept hset ?_
      cases hv : (f j).ownBlock with
      | none => exact .inl rfl
      | some k => exact .inr (by have := (hrowlt j hj' k hv).1; simp; omega)
  · have hfar : ∀ j, j < m → j ≠ i → (f j).ownBlock ≠ some g := fun j hj hji e => by
      rcases hat with hat | hat
      · exact h.apart i j (by omega) hj (fun h => hji h.symm) g hat e
      · have := (hrowlt j (by omega) g e).2
        omega
    by_cases e1 : a = i
    · rw [if_pos e1] at hk
      have : g = k := by simpa [Value.ownBlock] using hk
      subst this
      rw [if_neg (fun e2 => hab (e1.trans e2.symm))]
      exact hfar b hb' (fun e2 => hab (e1.trans e2.symm))
    · rw [if_neg e1] at hk
      by_cases e2 : b = i
      · rw [if_pos e2]
        intro hk'
        have : g = k := by simpa [Value.ownBlock] using hk'
        subst this
        exact hfar a ha e1 hk
      · rw [if_neg e2]
        exact h.apart a b ha hb' hab k hk
theorem LL.new {z : Value} (hz : z = .slice none 0 0) (h : RowG wr B m (fun _ => z)) (hB : B < b0) : LL b0 wr B m (fun _ => z) (List.replicate m []) := by
  subst hz
  refine ⟨by simp, h, fun j hj => ?_, fun i j _ _ _ g hg => by simp [Value.ownBlock] at hg, hB⟩
  rw [List.getElem_replicate]
  exact World.ownsRow_nil _ _ _ _
end

theorem contS_eq (l : List ByteArray) (x : ByteArray) : Lib.containsS l x = hasS l x := by
  rw [Bool.eq_iff_iff, Lib.containsS_iff]
  unfold hasS
  rw [List.any_eq_true]
  constructor
  · intro h; exact ⟨x, h, by simp⟩
  · rintro ⟨y, hy, e⟩
    have e' : y.data.toList = x.data.toList := of_decide_eq_true e
    have : y = x := by
      cases y; cases x
      simp only [ByteArray.mk.injEq]
      exact Array.toList_inj.1 e'
    exact this ▸ hy

/-- slices.Contains over strings -/
theorem contains_strs (a : Option Addr) (l : List ByteArray) (n c : Nat) (x : ByteArray) (w : World) (hn : l.length = n) (hn1 : n ≤ 1000) (h : StrsAt w a l) :
    Calls Tryz.prog 51 #[.slice a n c, .string x] w fun e w' => e = .returned (.bool (hasS l x)) ∧ w' = w := by
  subst hn
  cases l with
  | nil => exact Tryz.slices_Contains_string_empty a c x w
  | cons y l =>
    obtain ⟨p, off, rfl, -, -⟩ := h 0 (by simp)
    refine (Tryz.slices_Contains_string p off (y :: l).length c (y :: l) x w (Nat.le_refl _) (by omega) (fun j hj => ?_)).mono ?_
    · obtain ⟨p', off', h1, h2, h3⟩ := h j hj
      injection h1 with h1
      injection h1 with e1 e2
      subst e1 e2
      rw [h3, List.getD_eq_getElem?_getD, List.getElem?_eq_getElem hj]
      rfl
    · rintro e w' ⟨rfl, rfl⟩
      rw [List.take_length, contS_eq]
      exact ⟨rfl, rfl⟩
end Go.Proofs.YtdefjnefkdemiaaGreatDoor
/- Offers, items and baskets as records; what is done with them, in plain words. -/
set_option linter.unusedVariables false
namespace Go.Proofs.YtdefjnefkdemiaaGreatDoor
open Go.RowKit

/-- an offer; its tags: where they lie, their capacity, and what they are -/
structure Of where
  key : ByteArray
  kind : Int
  a : Int
  b : Int
  tv : Option Addr
  tc : Nat
  tags : List ByteArray
  least : Int
  most : Int
  group : ByteArray
  alone : Bool
  order : Int
  from_ : Int
  to_ : Int
def Of.cells (x : Of) : List Value := [.string x.key, .int .i64 x.kind, .int .i64 x.a, .int .i64 x.b, .slice x.tv x.tags.length x.tc, .int .i64 x.least, .int .i64 x.most, .string x.group, .bool x.alone, .int .i64 x.order, .int .i64 x.from_, .int .i64 x.to_]
def Of.ok (x : Of) : Prop := x.key.size ≤ 100 ∧ -10 ≤ x.kind ∧ x.kind ≤ 10 ∧ -2000000000000 ≤ x.a ∧ x.a ≤ 2000000000000 ∧ -100 ≤ x.b ∧ x.b ≤ 100 ∧ x.tags.length ≤ 20 ∧ (∀ s ∈ x.tags, s.size ≤ 100) ∧ -2000000000000 ≤ x.least ∧ x.least ≤ 2000000000000 ∧ -2000000000000 ≤ x.most ∧ x.most ≤ 2000000000000 ∧ x.group.size ≤ 100 ∧ -10000 ≤ x.order ∧ x.order ≤ 10000 ∧ -100000000 ≤ x.from_ ∧ x.from_ ≤ 100000000 ∧ -100000000 ≤ x.to_ ∧ x.to_ ≤ 100000000
theorem Of.len (x : Of) : x.cells.length = 12 := rfl
structure It where
  key : ByteArray
  cents : Int
  many : Int
  tv : Option Addr
  tc : Nat
  tags : List ByteArray
def It.cells (x : It) : List Value := [.string x.key, .int .i64 x.cents, .int .i64 x.many, .slice x.tv x.tags.length x.tc]
def It.ok (x : It) : Prop := x.key.size ≤ 100 ∧ -100000000 ≤ x.cents ∧ x.cents ≤ 100000000 ∧ -1000 ≤ x.many ∧ x.many ≤ 1000 ∧ x.tags.length ≤ 20 ∧ (∀ s ∈ x.tags, s.size ≤ 100)
theorem It.len (x : It) : x.cells.length = 4 := rfl

theorem RAt.at12 {α : Type} {w : World} {a : Option Addr} {C : Nat} {f : α → List Value} {l : List α} (h : RAt w a C f l) {j : Nat} (hj : j < l.length) {v0 v1 v2 v3 v4 v5 v6 v7 v8 v9 v10 v11 : Value} (e : f l[j] = [v0, v1, v2, v3, v4, v5, v6, v7, v8, v9, v10, v11]) :
    ∃ p off, a = some ⟨p, off, none⟩ ∧ p < w.heap.size ∧ w.cell? ⟨p, off + j * C, none⟩ = some v0 ∧ w.cell? ⟨p, off + j * C + 1, none⟩ = some v1 ∧ w.cell? ⟨p, off + j * C + 2, none⟩ = some v2 ∧ w.cell? ⟨p, off + j * C + 3, none⟩ = some v3 ∧ w.cell? ⟨p, off + j * C + 4, none⟩ = some v4 ∧ w.cell? ⟨p, off + j * C + 5, none⟩ = some v5 ∧ w.cell? ⟨p, off + j * C + 6, none⟩ = some v6 ∧ w.cell? ⟨p, off + j * C + 7, none⟩ = some v7 ∧ w.cell? ⟨p, off + j * C + 8, none⟩ = some v8 ∧ w.cell? ⟨p, off + j * C + 9, none⟩ = some v9 ∧ w.cell? ⟨p, off + j * C + 10, none⟩ = some v10 ∧ w.cell? ⟨p, off + j * C + 11, none⟩ = some v11 := by
  obtain ⟨p, off, h1, h2, h3⟩ := h j hj
  rw [e] at h3
  exact ⟨p, off, h1, h2, h3 0 _ rfl, h3 1 _ rfl, h3 2 _ rfl, h3 3 _ rfl, h3 4 _ rfl, h3 5 _ rfl, h3 6 _ rfl, h3 7 _ rfl, h3 8 _ rfl, h3 9 _ rfl, h3 10 _ rfl, h3 11 _ rfl⟩
theorem XB.at12 {w : World} {q : Nat} {v0 v1 v2 v3 v4 v5 v6 v7 v8 v9 v10 v11 : Value} (h : XB w q [v0, v1, v2, v3, v4, v5, v6, v7, v8, v9, v10, v11]) : w.cell? ⟨q, 0, none⟩ = some v0 ∧ w.cell? ⟨q, 1, none⟩ = some v1 ∧ w.cell? ⟨q, 2, none⟩ = some v2 ∧ w.cell? ⟨q, 3, none⟩ = some v3 ∧ w.cell? ⟨q, 4, none⟩ = some v4 ∧ w.cell? ⟨q, 5, none⟩ = some v5 ∧ w.cell? ⟨q, 6, none⟩ = some v6 ∧ w.cell? ⟨q, 7, none⟩ = some v7 ∧ w.cell? ⟨q, 8, none⟩ = some v8 ∧ w.cell? ⟨q, 9, none⟩ = some v9 ∧ w.cell? ⟨q, 10, none⟩ = some v10 ∧ w.cell? ⟨q, 11, none⟩ = some v11 :=
  ⟨h.2 0 _ rfl, h.2 1 _ rfl, h.2 2 _ rfl, h.2 3 _ rfl, h.2 4 _ rfl, h.2 5 _ rfl, h.2 6 _ rfl, h.2 7 _ rfl, h.2 8 _ rfl, h.2 9 _ rfl, h.2 10 _ rfl, h.2 11 _ rfl⟩
/-- the tags of records lie in memory -/
def TagsAt {α : Type} (tv : α → Option Addr) (tags : α → List ByteArray) (w : World) (l : List α) : Prop := ∀ x ∈ l, StrsAt w (tv x) (tags x)
theorem TagsAt.below {α : Type} {tv : α → Option Addr} {tags : α → List ByteArray} {w w' : World} {l : List α} (h : TagsAt tv tags w l) (hb : Below w.heap.size w w') : TagsAt tv tags w' l := fun x hx => (h x hx).below hb
theorem TagsAt.take {α : Type} {tv : α → Option Addr} {tags : α → List ByteArray} {w : World} {l : List α} (h : TagsAt tv tags w l) (n : Nat) : TagsAt tv tags w (l.take n) := fun x hx => h x (List.mem_of_mem_take hx)

/-- the greatest A of a kind; 0: there is no such kind -/
def kindM (k : Int) : Int := if k = 1 then 100 else if k = 2 then 1000000000000 else if k = 3 then 20 else if k = 4 then 1000000000000 else 0
def ofB (x : Of) : Bool := decide (1 ≤ x.a) && decide (x.a ≤ kindM x.kind) && (if x.kind = 3 then decide (1 ≤ x.b) && decide (x.b ≤ 20) else decide (x.b = 0)) && decide (0 ≤ x.least) && decide (x.least ≤ 1000000000000) && decide (0 ≤ x.most) && decide (x.most ≤ 1000000000000) && decide (0 ≤ x.order) && decide (x.order ≤ 1000)
def ofT (x : Of) : Bool := decide (0 ≤ x.from_) && decide (x.from_ ≤ 4321439) && decide (x.from_ < x.to_) && decide (x.to_ ≤ 4321440)
/-- what is wrong with an offer behind others -/
def ofSt (b1 b2 bk b3 b4 : Bool) (bg : Bool) (te : Int) (bs : Bool) : Int :=
  if b1 = false then 5 else if b2 then 6 else if bk = false then 4 else if b3 = false then 1 else if b4 = false then 1 else if bg = false then 5 else if te ≠ 0 then te else if bs then 3 else 0
def ofstepE (pre : List Of) (x : Of) : Int :=
  ofSt (keyB x.key) (hasS (pre.map Of.key) x.key) (decide (1 ≤ x.kind ∧ x.kind ≤ 4)) (ofB x) (ofT x) (decide (x.group.size = 0) || keyB x.group) (tgE x.tags) (decide (0 < x.tags.length) && decide (x.kind = 4))
def ofGo : List Of → List Of → Int
  | _, [] => 0
  | pre, x :: r => if ofstepE pre x = 0 then ofGo (pre ++ [x]) r else ofstepE pre x
def ofE (l : List Of) : Int := ofGo [] l
def OfInv (l : List Of) (k : Nat) : Prop := ofE l = ofGo (l.take k) (l.drop k)
theorem OfInv.zero (l : List Of) : OfInv l 0 := rfl
theorem OfInv.step {l : List Of} {k : Nat} (h : OfInv l k) (hk : k < l.length) : (ofstepE (l.take k) l[k] ≠ 0 → ofE l = ofstepE (l.take k) l[k]) ∧ (ofstepE (l.take k) l[k] = 0 → OfInv l (k + 1)) := by
  unfold OfInv at *
  rw [List.drop_eq_getElem_cons hk, ofGo] at h
  refine ⟨fun h0 => ?_, fun h0 => ?_⟩
  · rw [h, if_neg h0]
  · rw [h, if_pos h0, List.take_succ_eq_append_getElem hk]
theorem OfInv.done {l : List Of} {k : Nat} (h : OfInv l k) (hk : l.length ≤ k) : ofE l = 0 := by
  unfold OfInv at h
  rw [h, List.drop_eq_nil_of_le hk]
  rfl
/-- what is wrong with an item behind others -/
def itSt (b1 b2 b3 : Bool) (te : Int) : Int := if b1 = false then 5 else if b2 then 6 else if b3 = false then 1 else te
def itB (x : It) : Bool := decide (0 ≤ x.cents) && decide (x.cents ≤ 10000000) && decide (1 ≤ x.many) && decide (x.many ≤ 100)
def itstepE (pre : List It) (x : It) : Int := itSt (keyB x.key) (hasS (pre.map It.key) x.key) (itB x) (tgE x.tags)
def itGo : List It → List It → Int
  | _, [] => 0
  | pre, x :: r => if itstepE pre x = 0 then itGo (pre ++ [x]) r else itstepE pre x
def bkE (l : List It) (ship : Int) : Int := if itGo [] l ≠ 0 then itGo [] l else if ship < 0 ∨ 1000000000000 < ship then 1 else 0
def ItInv (l : List It) (k : Nat) : Prop := itGo [] l = itGo (l.take k) (l.drop k)
theorem ItInv.zero (l : List It) : ItInv l 0 := rfl
theorem ItInv.step {l : List It} {k : Nat} (h : ItInv l k) (hk : k < l.length) : (itstepE (l.take k) l[k] ≠ 0 → itGo [] l = itstepE (l.take k) l[k]) ∧ (itstepE (l.take k) l[k] = 0 → ItInv l (k + 1)) := by
  unfold ItInv at *
  rw [List.drop_eq_getElem_cons hk, itGo] at h
  refine ⟨fun h0 => ?_, fun h0 => ?_⟩
  · rw [h, if_neg h0]
  · rw [h, if_pos h0, List.take_succ_eq_append_getElem hk]
theorem ItInv.done {l : List It} {k : Nat} (h : ItInv l k) (hk : l.length ≤ k) : itGo [] l = 0 := by
  unfold ItInv at h
  rw [h, List.drop_eq_nil_of_le hk]
  rfl
/-- the item has a tag of the offer, or the offer wants none -/
def mtB (x : Of) (y : It) : Bool := decide (x.tags.length = 0) || x.tags.any fun s => hasS y.tags s
end Go.Proofs.YtdefjnefkdemiaaGreatDoor
/- Whether an offer fits a basket, in plain words. -/
set_option linter.unusedVariables false
namespace Go.Proofs.YtdefjnefkdemiaaGreatDoor
open Go.RowKit

/-- the cents of the items that f takes -/
def fitS (f : It → Bool) : List It → Int
  | [] => 0
  | y :: l => (if f y = true then y.cents * y.many else 0) + fitS f l
theorem fitS_app (f : It → Bool) (l m : List It) : fitS f (l ++ m) = fitS f l + fitS f m := by
  induction l with
  | nil => simp [fitS]
  | cons x l ih => simp only [List.cons_append, fitS, ih]; omega
theorem fitS_succ (f : It → Bool) (l : List It) (k : Nat) (h : k < l.length) : fitS f (l.take (k + 1)) = fitS f (l.take k) + (if f l[k] = true then l[k].cents * l[k].many else 0) := by
  rw [List.take_succ_eq_append_getElem h, fitS_app]
  simp [fitS]
theorem itB_bd {x : It} (h : itB x = true) : 0 ≤ x.cents ∧ x.cents ≤ 10000000 ∧ 1 ≤ x.many ∧ x.many ≤ 100 := by
  unfold itB at h
  simp only [Bool.and_eq_true, decide_eq_true_eq] at h
  omega
theorem it_mul {x : It} (h : itB x = true) : 0 ≤ x.cents * x.many ∧ x.cents * x.many ≤ 1000000000 := by
  obtain ⟨h0, h1, h2, h3⟩ := itB_bd h
  have a1 : 0 ≤ x.cents * x.many := Int.mul_nonneg h0 (by omega)
  have a2 : x.cents * x.many ≤ 10000000 * x.many := Int.mul_le_mul_of_nonneg_right h1 (by omega)
  omega
theorem fitS_bd (f : It → Bool) (l : List It) (h : ∀ x ∈ l, itB x = true) : 0 ≤ fitS f l ∧ fitS f l ≤ 1000000000 * (l.length : Int) := by
  induction l with
  | nil => simp [fitS]
  | cons x l ih =>
    have h1 := it_mul (h x (by simp))
    have h2 := ih fun y hy => h y (by simp [hy])
    simp only [fitS, List.length_cons]
    split <;> omega
theorem fitS_eq (f g : It → Bool) (l : List It) (h : ∀ x ∈ l, f x = g x) : fitS f l = fitS g l := by
  induction l with
  | nil => rfl
  | cons x l ih => simp only [fitS]; rw [h x (by simp), ih fun y hy => h y (by simp [hy])]
/-- what the offer takes of the basket -/
def fitA (x : Of) (l : List It) : Int := fitS (fun y => mtB x y) l
def fitV (x : Of) (l : List It) (ship t : Int) : Int :=
  if t < x.from_ then 1 else if x.to_ ≤ t then 2 else if (if x.kind = 4 then ship = 0 else fitA x l = 0) then 3 else if fitA x l < x.least then 4 else 0
theorem itGo_ok : ∀ (r pre : List It), itGo pre r = 0 → ∀ x ∈ r, itB x = true
  | [], _, _ => by simp
  | y :: r, pre, h => by
    unfold itGo at h
    split at h
    · rename_i h0
      intro x hx
      rcases List.mem_cons.1 hx with rfl | hx
      · unfold itstepE itSt at h0
        split at h0
        · omega
        · split at h0
          · omega
          · split at h0
            · omega
            · rename_i h3
              simpa using h3
      · exact itGo_ok r (pre ++ [y]) h x hx
    · rename_i h0
      exact absurd h h0
end Go.Proofs.YtdefjnefkdemiaaGreatDoor
/- Offers that can be used together, in plain words: one pass over the list, or all pairs. -/
set_option linter.unusedVariables false
namespace Go.Proofs.YtdefjnefkdemiaaGreatDoor
open Go.RowKit

/-- an offer cannot be used beside those before it -/
def tgS (n : Nat) (pre : List Of) (x : Of) : Bool := (x.alone && decide (1 < n)) || (!decide (x.group.size = 0) && hasS (pre.map Of.group) x.group)
def togGo (n : Nat) : List Of → List Of → Bool
  | _, [] => true
  | pre, x :: r => if tgS n pre x = true then false else togGo n (pre ++ [x]) r
def togB (l : List Of) : Bool := togGo l.length [] l
/-- two offers cannot be used together -/
def prB (x y : Of) : Bool := x.alone || y.alone || (!decide (x.group.size = 0) && decide (y.group.data.toList = x.group.data.toList))
def refGo : List Of → List Of → Bool
  | _, [] => true
  | pre, x :: r => if (pre.any fun y => prB x y) = true then false else refGo (pre ++ [x]) r
theorem togGo_iff (n : Nat) : ∀ (r pre : List Of), togGo n pre r = true ↔ ∀ k (h : k < r.length), tgS n (pre ++ r.take k) r[k] = false
  | [], pre => by simp [togGo]
  | x :: r, pre => by
    unfold togGo
    cases hx : tgS n pre x with
    | true =>
      simp only [if_true]
      constructor
      · intro h; cases h
      · intro h
        have := h 0 (by simp)
        simp [hx] at this
    | false =>
      rw [if_neg (by simp)]
      rw [togGo_iff n r (pre ++ [x])]
      constructor
      · intro h k hk
        cases k with
        | zero => simpa using hx
        | succ k =>
          have := h k (by simpa using hk)
          simpa using this
      · intro h k hk
        have := h (k + 1) (by simpa using hk)
        simpa using this
theorem refGo_iff : ∀ (r pre : List Of), refGo pre r = true ↔ ∀ k (h : k < r.length), ((pre ++ r.take k).any fun y => prB r[k] y) = false
  | [], pre => by simp [refGo]
  | x :: r, pre => by
    unfold refGo
    cases hx : (pre.any fun y => prB x y) with
    | true =>
      simp only [if_true]
      constructor
      · intro h; cases h
      · intro h
        have := h 0 (by simp)
        rw [show pre ++ (x :: r).take 0 = pre by simp] at this
        rw [show (x :: r)[0] = x from rfl, hx] at this
        cases this
    | false =>
      rw [if_neg (by simp)]
      rw [refGo_iff r (pre ++ [x])]
      constructor
      · intro h k hk
        cases k with
        | zero =>
          rw [show pre ++ (x :: r).take 0 = pre by simp]
          exact hx
        | succ k =>
          have := h k (by simpa using hk)
          rw [show pre ++ (x :: r).take (k + 1) = pre ++ [x] ++ r.take k by simp]
          exact this
      · intro h k hk
        have := h (k + 1) (by simpa using hk)
        rw [show pre ++ (x :: r).take (k + 1) = pre ++ [x] ++ r.take k by simp] at this
        exact this
theorem bool_iff {a b : Bool} (h : a = true ↔ b = true) : a = b := by
  cases a <;> cases b <;> simp_all
theorem togB_ref (l : List Of) : togB l = refGo [] l := by
  refine bool_iff ?_
  unfold togB
  rw [togGo_iff, refGo_iff]
  simp only [List.nil_append]
  constructor
  · intro h k hk
    rw [List.any_eq_false]
    intro y hy
    obtain ⟨j, hj, rfl⟩ := List.mem_iff_getElem.1 hy
    have hjk : j < k := by simp at hj; omega
    have h1 := h k hk
    have h2 := h j (by omega)
    simp only [List.getElem_take]
    unfold tgS at h1 h2
    have hn : decide (1 < l.length) = true := decide_eq_true (by omega)
    rw [hn] at h1 h2
    simp only [Bool.and_true, Bool.or_eq_false_iff] at h1 h2
    unfold prB
    rw [h1.1, h2.1]
    simp only [Bool.false_or]
    intro hc
    rw [Bool.and_eq_true] at hc
    have h3 := h1.2
    rw [hc.1, Bool.true_and] at h3
    have : hasS ((l.take k).map Of.group) l[k].group = true := hasS_hit (x := l[j].group) (List.mem_map.2 ⟨l[j], List.mem_iff_getElem.2 ⟨j, by simp; omega, by simp⟩, rfl⟩) (of_decide_eq_true hc.2)
    rw [this] at h3
    cases h3
  · intro h k hk
    unfold tgS
    rw [Bool.or_eq_false_iff]
    constructor
    · cases ha : l[k].alone with
      | false => rfl
      | true =>
        rw [Bool.true_and]
        refine decide_eq_false fun h1 => ?_
        rcases Nat.eq_zero_or_pos k with rfl | hk0
        · have := h 1 h1
          rw [List.any_eq_false] at this
          have := this l[0] (List.mem_iff_getElem.2 ⟨0, by simp; omega, by simp⟩)
          unfold prB at this
          rw [ha] at this
          simp at this
        · have := h k hk
          rw [List.any_eq_false] at this
          have := this l[0] (List.mem_iff_getElem.2 ⟨0, by simp; omega, by simp⟩)
          unfold prB at this
          rw [ha] at this
          simp at this
    · cases hg : !decide (l[k].group.size = 0) with
      | false => rfl
      | true =>
        rw [Bool.true_and]
        cases hh : hasS ((l.take k).map Of.group) l[k].group with
        | false => rfl
        | true =>
          unfold hasS at hh
          rw [List.any_eq_true] at hh
          obtain ⟨s, hs, he⟩ := hh
          obtain ⟨y, hy, rfl⟩ := List.mem_map.1 hs
          have := h k hk
          rw [List.any_eq_false] at this
          have := this y hy
          unfold prB at this
          rw [hg, he] at this
          simp at this
/-- how far one pass has come -/
def TogInv (l : List Of) (k : Nat) : Prop := togB l = togGo l.length (l.take k) (l.drop k)
theorem TogInv.zero (l : List Of) : TogInv l 0 := rfl
theorem TogInv.step {l : List Of} {k : Nat} (h : TogInv l k) (hk : k < l.length) : (tgS l.length (l.take k) l[k] = true → togB l = false) ∧ (tgS l.length (l.take k) l[k] = false → TogInv l (k + 1)) := by
  unfold TogInv at *
  rw [List.drop_eq_getElem_cons hk, togGo] at h
  refine ⟨fun h0 => ?_, fun h0 => ?_⟩
  · rw [h, if_pos h0]
  · rw [h, if_neg (by rw [h0]; simp), List.take_succ_eq_append_getElem hk]
theorem TogInv.done {l : List Of} {k : Nat} (h : TogInv l k) (hk : l.length ≤ k) : togB l = true := by
  unfold TogInv at h
  rw [h, List.drop_eq_nil_of_le hk]
  rfl
def RefInv (l : List Of) (k : Nat) : Prop := togB l = refGo (l.take k) (l.drop k)
theorem RefInv.zero (l : List Of) : RefInv l 0 := togB_ref l
theorem RefInv.step {l : List Of} {k : Nat} (h : RefInv l k) (hk : k < l.length) : (((l.take k).any fun y => prB l[k] y) = true → togB l = false) ∧ (((l.take k).any fun y => prB l[k] y) = false → RefInv l (k + 1)) := by
  unfold RefInv at *
  rw [List.drop_eq_getElem_cons hk, refGo] at h
  refine ⟨fun h0 => ?_, fun h0 => ?_⟩
  · rw [h, if_pos h0]
  · rw [h, if_neg (by rw [h0]; simp), List.take_succ_eq_append_getElem hk]
theorem RefInv.done {l : List Of} {k : Nat} (h : RefInv l k) (hk : l.length ≤ k) : togB l = true := by
  unfold RefInv at h
  rw [h, List.drop_eq_nil_of_le hk]
  rfl
end Go.Proofs.YtdefjnefkdemiaaGreatDoor
/- Facts that stay while the stream is drawn from. -/
set_option linter.unusedVariables false
namespace Go.Proofs.YtdefjnefkdemiaaGreatDoor
open Go.RowKit

/-- P holds in this world, and in every world that comes out of it by draws from the stream and new blocks -/
def Kp (S : SC) (P : World → Prop) (w : World) : Prop := ∀ w', w.grownBy w' (some S.g) → P w'
section
variable {S : SC} {P Q : World → Prop} {w w' : World}
theorem grown_same (w : World) (r : Option Nat) : w.grownBy w r := ⟨rfl, rfl, rfl, Nat.le_refl _, fun _ _ _ => rfl⟩
theorem Kp.now (h : Kp S P w) : P w := h w (grown_same w _)
theorem Kp.up (h : Kp S P w) (k : w.grownBy w' (some S.g)) : Kp S P w' := fun w'' k' => h w'' (grown_trans k k')
theorem Kp.below (h : Kp S P w) (b : Below w.heap.size w w') : Kp S P w' := h.up (grown_of_below b _)
theorem Kp.alloc (h : Kp S P w) (o : Obj) : Kp S P (w.alloc o) := h.up (World.grownBy_alloc w o _)
theorem Kp.drew (h : Kp S P w) : Kp S P w.drew := h.up (grown_drew (grown_same w _))
theorem Kp.and (h : Kp S P w) (h' : Kp S Q w) : Kp S (fun w => P w ∧ Q w) w := fun w' k => ⟨h w' k, h' w' k⟩
theorem Kp.mp (h : Kp S P w) (f : ∀ w, P w → Q w) : Kp S Q w := fun w' k => f w' (h w' k)
theorem Kp.grown {w0 : World} (h : w0.grownBy w (some S.g)) : Kp S (fun w => w0.grownBy w (some S.g)) w := fun w' k => grown_trans h k
theorem Kp.ints {a : Option Addr} {zs : List Int} (h : IntsAt w a zs) (hg : ∀ p off, a = some ⟨p, off, none⟩ → p ≠ S.g) : Kp S (fun w => IntsAt w a zs) w := fun w' k => h.grown k hg
theorem Kp.recs {α : Type} {a : Option Addr} {C : Nat} {f : α → List Value} {l : List α} (h : RAt w a C f l) (hg : ∀ p off, a = some ⟨p, off, none⟩ → p ≠ S.g) : Kp S (fun w => RAt w a C f l) w := fun w' k => h.grown k hg
theorem Kp.box {q : Nat} {cs : List Value} (h : XB w q cs) (hq : q ≠ S.g) : Kp S (fun w => XB w q cs) w := fun w' k => h.grown k (by simpa using fun e => hq e.symm)
end
end Go.Proofs.YtdefjnefkdemiaaGreatDoor
/- A struct variable of one's own that is written: block q holds its cells. -/
set_option linter.unusedVariables false
namespace Go.Proofs.YtdefjnefkdemiaaGreatDoor
open Go.RowKit

/-- block q holds the cells cs, all writable -/
def OB (w : World) (q : Nat) (cs : List Value) (t : TypeId) : Prop := w.heap[q]? = some (.cells cs.toArray t (0, 0))
section
variable {w w' : World} {q : Nat} {cs : List Value} {t : TypeId}
theorem OB.new (w : World) (cs : List Value) (t : TypeId) : OB (w.alloc (.cells cs.toArray t)) w.heap.size cs t := heap_alloc_new w _
theorem OB.lt (h : OB w q cs t) : q < w.heap.size := (Array.getElem?_eq_some_iff.1 h).1
theorem OB.cell (h : OB w q cs t) (i : Nat) (v : Value) (hv : cs[i]? = some v) : w.cell? ⟨q, i, none⟩ = some v := by
  unfold OB at h
  simp only [World.cell?, h, List.getElem?_toArray]
  rw [hv]
  rfl
theorem OB.free (h : OB w q cs t) (i : Nat) : w.frozen? ⟨q, i, none⟩ = false := by
  unfold OB at h
  simp [World.frozen?, h]
theorem OB.xb (h : OB w q cs t) : XB w q cs := ⟨h.lt, fun i v hv => h.cell i v hv⟩
theorem OB.below (h : OB w q cs t) (hb : Below w.heap.size w w') : OB w' q cs t := (hb.block q h.lt).trans h
theorem OB.grown {row : Option Nat} (h : OB w q cs t) (hb : w.grownBy w' row) (hr : row ≠ some q) : OB w' q cs t := (hb.block q h.lt (fun e => hr e.symm)).trans h
theorem OB.alloc (h : OB w q cs t) (o : Obj) : OB (w.alloc o) q cs t := h.below ((Below.refl _ _).alloc (Nat.le_refl _) o)
theorem OB.drewN (h : OB w q cs t) (n : Nat) : OB (w.drewN n) q cs t := h
theorem OB.set (h : OB w q cs t) (i : Nat) (v : Value) : OB (w.setCell ⟨q, i, none⟩ v) q (cs.set i v) t := by
  unfold OB at *
  have hq := (Array.getElem?_eq_some_iff.1 h).1
  simp only [World.setCell]
  rw [Array.getElem?_modify, if_pos rfl, h]
  simp
theorem OB.put {cs' : List Value} (h : OB w q cs t) (i : Nat) (v : Value) (e : cs' = cs.set i v) : OB (w.setCell ⟨q, i, none⟩ v) q cs' t := by
  rw [e]
  exact h.set i v
end
end Go.Proofs.YtdefjnefkdemiaaGreatDoor
/- A world that has changed in some blocks alone, and grown. -/
set_option linter.unusedVariables false
namespace Go.Proofs.YtdefjnefkdemiaaGreatDoor
open Go.RowKit

/-- w' is w with new blocks, and with writes to the blocks of B alone -/
structure Chg (w w' : World) (B : Nat → Prop) : Prop where
  os : w'.os = w.os
  tape : w'.tape = w.tape
  output : w'.output = w.output
  size : w.heap.size ≤ w'.heap.size
  block : ∀ i, i < w.heap.size → ¬ B i → w'.heap[i]? = w.heap[i]?
section
variable {w w' w'' : World} {B B' : Nat → Prop}
theorem Chg.refl (w : World) (B : Nat → Prop) : Chg w w B := ⟨rfl, rfl, rfl, Nat.le_refl _, fun _ _ _ => rfl⟩
theorem Chg.trans (h : Chg w w' B) (k : Chg w' w'' B') (hB : ∀ i, B' i → B i ∨ w.heap.size ≤ i) : Chg w w'' B :=
  ⟨k.os.trans h.os, k.tape.trans h.tape, k.output.trans h.output, Nat.le_trans h.size k.size, fun i hi hn => (k.block i (Nat.lt_of_lt_of_le hi h.size) (fun hb => by
    rcases hB i hb with h1 | h1
    · exact hn h1
    · omega)).trans (h.block i hi hn)⟩
theorem Chg.mono (h : Chg w w' B) (hB : ∀ i, B i → B' i ∨ w.heap.size ≤ i) : Chg w w' B' := (Chg.refl w B').trans h hB
theorem Chg.of_below (h : Below w.heap.size w w') (B : Nat → Prop) : Chg w w' B := ⟨h.os, h.tape, h.output, h.size, fun i hi _ => h.block i hi⟩
theorem Chg.of_grown {row : Option Nat} (h : w.grownBy w' row) (hB : ∀ q, row = some q → B q) : Chg w w' B := ⟨h.os, h.tape, h.output, h.size, fun i hi hn => h.block i hi (fun e => hn (hB i e.symm))⟩
theorem Chg.alloc (h : Chg w w' B) (o : Obj) : Chg w (w'.alloc o) B := h.trans (B' := fun _ => False) (Chg.of_below ((Below.refl _ _).alloc (Nat.le_refl _) o) _) (fun i hi => hi.elim)
theorem Chg.drew (h : Chg w w' B) : Chg w w'.drew B := ⟨h.os, h.tape, h.output, h.size, h.block⟩
theorem Chg.drewN (h : Chg w w' B) (n : Nat) : Chg w (w'.drewN n) B := ⟨h.os, h.tape, h.output, h.size, h.block⟩
theorem Chg.set (h : Chg w w' B) {p : Addr} (hp : B p.block ∨ w.heap.size ≤ p.block) (u : Value) : Chg w (w'.setCell p u) B :=
  ⟨h.os, h.tape, h.output, by simpa [World.setCell] using h.size, fun i hi hn => (Below.heap_setCell w' p u i (by
    rintro rfl
    rcases hp with hp | hp
    · exact hn hp
    · omega)).trans (h.block i hi hn)⟩
theorem Chg.below {b : Nat} (h : Chg w w' B) (hb : b ≤ w.heap.size) (hB : ∀ i, B i → b ≤ i) : Below b w w' := ⟨h.os, h.tape, h.output, h.size, fun i hi => h.block i (by omega) (fun hb => by have := hB i hb; omega)⟩
theorem Chg.grown {row : Option Nat} (h : Chg w w' B) (hB : ∀ i, B i → row = some i) : w.grownBy w' row := ⟨h.os, h.tape, h.output, h.size, fun i hi hne => h.block i hi (fun hb => hne (hB i hb).symm)⟩
theorem Chg.cell (h : Chg w w' B) {a : Addr} {v : Value} (hc : w.cell? a = some v) (hB : ¬ B a.block) : w'.cell? a = some v :=
  (World.cell?_of_block (h.block a.block (World.block_lt_of_cell? w _ hc) hB)).trans hc
theorem Chg.blk (h : Chg w w' B) {g : Nat} {o : Obj} (hc : w.heap[g]? = some o) (hB : ¬ B g) : w'.heap[g]? = some o := by
  refine (h.block g ?_ hB).trans hc
  rcases Nat.lt_or_ge g w.heap.size with h' | h'
  · exact h'
  · rw [Array.getElem?_eq_none h'] at hc; cases hc
theorem Chg.own {base e size n : Nat} {v : Value} {xs : List Value} (h : Chg w w' B) (ho : w.ownsRow base e size v n xs) (hB : ∀ k, v.ownBlock = some k → ¬ B k) : w'.ownsRow base e size v n xs := by
  refine ⟨ho.1, ?_⟩
  rcases ho.2 with h0 | ⟨g, cap, cur, rfl, hb, hg, h1⟩
  · exact .inl h0
  · exact .inr ⟨g, cap, cur, rfl, hb, h.blk hg (hB g rfl), h1⟩
theorem Chg.recs {α : Type} {a : Option Addr} {C : Nat} {f : α → List Value} {l : List α} (h : Chg w w' B) (hr : RAt w a C f l) (hB : ∀ p off, a = some ⟨p, off, none⟩ → ¬ B p) : RAt w' a C f l := by
  intro j hj
  obtain ⟨p, off, h1, h2, h3⟩ := hr j hj
  exact ⟨p, off, h1, Nat.lt_of_lt_of_le h2 h.size, fun i v hv => h.cell (h3 i v hv) (hB p off h1)⟩
theorem Chg.strm {S : SC} {K : Nat} (h : Chg w w' B) (hs : Strm w S K) (hB : ∀ i, B i → S.g < i) : Strm w' S K := by
  obtain ⟨⟨x, hx, hb⟩, hBg, hlen, hel⟩ := hs
  refine ⟨⟨x, hx, h.blk hb (fun hb => by have := hB _ hb; omega)⟩, hBg, hlen, fun i hi => ?_⟩
  obtain ⟨b, off, n, h1, h2, h3, h4⟩ := hel i hi
  exact ⟨b, off, n, h1, h2, h.cell h3 (fun hb => by have : S.g < b := hB _ hb; omega), h4⟩
end
end Go.Proofs.YtdefjnefkdemiaaGreatDoor
/- What offers must be, as the program asks it. -/
set_option linter.unusedVariables false
namespace Go.Proofs.YtdefjnefkdemiaaGreatDoor
open Go.RowKit

/-- n lies from lo to hi -/
def wB (n lo hi : Int) : Bool := decide (lo ≤ n) && decide (n ≤ hi)
def amB (k a b : Int) : Bool := if k = 1 then wB a 1 100 && decide (b = 0) else if k = 3 then wB a 1 20 && wB b 1 20 else wB a 1 1000000000000 && decide (b = 0)
theorem wB_kind (k : Int) : wB k 1 4 = decide (1 ≤ k ∧ k ≤ 4) := by
  unfold wB
  rw [Bool.decide_and]
theorem ofB_am (x : Of) (h : wB x.kind 1 4 = true) : ofB x = (amB x.kind x.a x.b && wB x.least 0 1000000000000 && wB x.most 0 1000000000000 && wB x.order 0 1000) := by
  rw [wB_kind, decide_eq_true_eq] at h
  unfold ofB amB wB kindM
  rcases (show x.kind = 1 ∨ x.kind = 2 ∨ x.kind = 3 ∨ x.kind = 4 by omega) with e | e | e | e <;> rw [e] <;> simp [Bool.and_assoc]
theorem ofT_w (x : Of) : ofT x = (wB x.from_ 0 4321439 && wB x.to_ (x.from_ + 1) 4321440) := by
  unfold ofT wB
  rw [show decide (x.from_ < x.to_) = decide (x.from_ + 1 ≤ x.to_) from decide_eq_decide.2 Int.lt_iff_add_one_le]
  simp [Bool.and_assoc]
/-- the least and the greatest B of a kind -/
def loB (k : Int) : Int := if k = 3 then 1 else 0
def hiB (k : Int) : Int := if k = 3 then 20 else 0
theorem ofB_no (x : Of) (h : x.a < 1 ∨ kindM x.kind < x.a ∨ x.b < loB x.kind ∨ hiB x.kind < x.b ∨ x.least < 0 ∨ 1000000000000 < x.least ∨ x.most < 0 ∨ 1000000000000 < x.most ∨ x.order < 0 ∨ 1000 < x.order) : ofB x = false := by
  unfold loB hiB at h
  unfold ofB
  by_cases h3 : x.kind = 3
  · rw [if_pos h3] at h ⊢
    rw [if_pos h3] at h
    simp only [Bool.and_eq_false_iff, decide_eq_false_iff_not]
    omega
  · rw [if_neg h3] at h ⊢
    rw [if_neg h3] at h
    simp only [Bool.and_eq_false_iff, decide_eq_false_iff_not]
    omega
theorem ofB_yes (x : Of) (h1 : 1 ≤ x.a) (h2 : x.a ≤ kindM x.kind) (h3 : loB x.kind ≤ x.b) (h4 : x.b ≤ hiB x.kind) (h5 : 0 ≤ x.least) (h6 : x.least ≤ 1000000000000) (h7 : 0 ≤ x.most) (h8 : x.most ≤ 1000000000000) (h9 : 0 ≤ x.order) (h10 : x.order ≤ 1000) : ofB x = true := by
  unfold loB at h3
  unfold hiB at h4
  unfold ofB
  by_cases hk : x.kind = 3
  · rw [if_pos hk] at h3 h4 ⊢
    simp [h1, h2, h3, h4, h5, h6, h7, h8, h9, h10]
  · rw [if_neg hk] at h3 h4 ⊢
    have hb : x.b = 0 := by omega
    simp [h1, h2, hb, h5, h6, h7, h8, h9, h10]
theorem kindM_zero (k : Int) : kindM k = 0 ↔ ¬ (1 ≤ k ∧ k ≤ 4) := by
  unfold kindM
  split
  · omega
  · split
    · omega
    · split
      · omega
      · split <;> omega
theorem ofIsEmpty (s : ByteArray) : s.toList.isEmpty = decide (s.size = 0) := by
  rw [Lib.toList_data, Bool.eq_iff_iff, List.isEmpty_iff, decide_eq_true_eq]
  constructor
  · intro h
    have h1 : s.data.toList.length = 0 := by rw [h]; rfl
    rw [Array.length_toList] at h1
    exact h1
  · intro h
    refine List.eq_nil_of_length_eq_zero ?_
    rw [Array.length_toList]
    exact h
end Go.Proofs.YtdefjnefkdemiaaGreatDoor
/- A map[int]int of one's own, read as a list of pairs: a literal that is looked up. -/
set_option linter.unusedVariables false
namespace Go.Proofs.YtdefjnefkdemiaaGreatDoor
open Go.RowKit Go.Maps

theorem key_int : Keyed Tryz.prog 3 := int_keyed Tryz.underlying3
theorem zero_int (w : World) : (zeroValue 3).run Tryz.prog w = .ok (.int .i64 0) w := by kernel_rfl
theorem wf_i64 (n : Int) (h0 : -9223372036854775808 ≤ n) (h1 : n ≤ 9223372036854775807) : (Lit.int .i64 n).wf = true := by
  unfold Lit.wf
  rw [Bool.and_eq_true, decide_eq_true_eq, decide_eq_true_eq]
  exact ⟨h0, h1⟩
/-- what the map gives at k: the last pair's value -/
def imV (l : List (Int × Int)) (k : Int) : Int := l.foldl (fun c p => if p.1 = k then p.2 else c) 0
theorem imV_snoc (l : List (Int × Int)) (i v k : Int) : imV (l ++ [(i, v)]) k = if i = k then v else imV l k := by
  unfold imV
  rw [List.foldl_append]
  rfl
/-- block b is a map of the pairs l, at most n of them -/
def IMap (w : World) (b n : Nat) (l : List (Int × Int)) : Prop :=
  ∃ D : DataW Unit, w.ownsMap Tryz.prog 3 (plainElem Tryz.prog 3) b n D ∧ IsMap D ∧ ∀ k : Int, D.atKey (.int .i64 k) (.lit (.int .i64 0)) = .lit (.int .i64 (imV l k))
theorem IMap.made (w : World) : IMap (w.alloc (.map #[] 0)) w.heap.size 0 [] :=
  ⟨.map [], World.ownsMap_made _ _ _ _, isMap_empty, fun s => rfl⟩
theorem IMap.lt {w : World} {b n : Nat} {l : List (Int × Int)} (h : IMap w b n l) : b < w.heap.size := by
  obtain ⟨D, hD, _⟩ := h
  exact hD.lt
theorem IMap.kept {w w' : World} {b n : Nat} {l : List (Int × Int)} {row : Option Nat} (h : IMap w b n l) (hg : w.grownBy w' row) (hne : some b ≠ row) : IMap w' b n l := by
  obtain ⟨D, hD, h2⟩ := h
  exact ⟨D, hD.kept hg hne, h2⟩
theorem IMap.below {w w' : World} {b n : Nat} {l : List (Int × Int)} (h : IMap w b n l) (hb : Below w.heap.size w w') : IMap w' b n l := h.kept (grown_of_below hb none) (by simp)
theorem IMap.drewN {w : World} {b n : Nat} {l : List (Int × Int)} (h : IMap w b n l) (m : Nat) : IMap (w.drewN m) b n l := h
theorem lit_int_inj {q : IntKind} {a b : Int} (h : (DataW.lit (.int q a) : DataW Unit) = .lit (.int q b)) : a = b := by
  injection h with h
  injection h
/-- m[k] -/
theorem wpList_lookup_im {ops : Array Oper} {rest : List Oper} {o : Oper} {a : Act} {Q : Exit → Act → World → Prop} (w : World) (hg : o.guard = none) (m x : Operand) (hop : o.op = Op.lookup 93 m x false)
    (b n : Nat) (l : List (Int × Int)) (hm : a.eval m = .map (some b)) (hs : IMap w b n l) (k : Int) (hx : a.eval x = .int .i64 k) (h0 : -9223372036854775808 ≤ k) (h1 : k ≤ 9223372036854775807) (r : Int) (hr : imV l k = r)
    (hK : wpList Tryz.prog ops Q rest (a.put o.dst (.int .i64 r)) w) : wpList Tryz.prog ops Q (o :: rest) a w := by
  obtain ⟨D, hown, _, hat⟩ := hs
  refine wpList_lookup_own_int w hg m x _ hop 3 3 .i64 key_int Tryz.underlying93 Tryz.underlying3 (zero_int w) b n D hm hown _ _ hx (keyOf_int_mk Tryz.underlying3 (wf_i64 k h0 h1)) ?_
  intro c hc _
  rw [← lit_int_inj ((hat k).symm.trans hc), hr]
  exact hK
theorem IMap.put {w' : World} {b n : Nat} {l : List (Int × Int)} {D : DataW Unit} (hD : IsMap D) (hat : ∀ k : Int, D.atKey (.int .i64 k) (.lit (.int .i64 0)) = .lit (.int .i64 (imV l k))) (k z : Int) (h4 : w'.ownsMap Tryz.prog 3 (plainElem Tryz.prog 3) b (n + 1) (D.put (.int .i64 k) (.lit (.int .i64 z)))) : IMap w' b (n + 1) (l ++ [(k, z)]) := by
  refine ⟨_, h4, hD.put _ _, fun s => ?_⟩
  rw [imV_snoc]
  by_cases he : k = s
  · subst he
    rw [atKey_put_same hD (by unfold WideAt.IsKeyLit; trivial), if_pos rfl]
  · rw [atKey_put_other (by intro e; injection e with e1 e2; exact he e2.symm), hat s, if_neg he]
/-- m[k] = v in a literal -/
theorem wpList_insert_im {ops : Array Oper} {rest : List Oper} {o : Oper} {a : Act} {Q : Exit → Act → World → Prop} (w : World) (hg : o.guard = none) (m x v : Operand) (hop : o.op = Op.insert 93 m x v)
    (b n : Nat) (l : List (Int × Int)) (hm : a.eval m = .map (some b)) (hs : IMap w b n l) (hn : n < maxLen) (k z : Int) (hx : a.eval x = .int .i64 k) (hv : a.eval v = .int .i64 z) (h0 : -9223372036854775808 ≤ k) (h1 : k ≤ 9223372036854775807) (h2 : -9223372036854775808 ≤ z) (h3 : z ≤ 9223372036854775807)
    (hK : ∀ w', IMap w' b (n + 1) (l ++ [(k, z)]) → w.grownBy w' (some b) → wpList Tryz.prog ops Q rest (a.put o.dst undef) w') : wpList Tryz.prog ops Q (o :: rest) a w := by
  obtain ⟨D, hown, hD, hat⟩ := hs
  refine wpList_plain hg fun K' hK' => ?_
  obtain ⟨w', hrun, r1, r2⟩ := hown.update key_int Tryz.underlying93 hn (keyOf_int_mk Tryz.underlying3 (wf_i64 k h0 h1)) (plainElem_int Tryz.underlying3 (wf_i64 z h2 h3))
  unfold Oper.wp
  simp [execOp, hop, hm, hx, hv, hrun, Result.andThen]
  exact hK' _ _ (hK w' (IMap.put hD hat k z r1) r2)
end Go.Proofs.YtdefjnefkdemiaaGreatDoor
/- Tags that a maker has laid: a block of strings of their own, apart from the stream and from what is written. -/
set_option linter.unusedVariables false
namespace Go.Proofs.YtdefjnefkdemiaaGreatDoor
open Go.RowKit

/-- the tags at tv: none, or they begin a block of strings apart from the stream -/
def TgF (w : World) (S : SC) (tv : Option Addr) (tags : List ByteArray) : Prop := tags = [] ∨ ∃ p cur, tv = some ⟨p, 0, none⟩ ∧ p ≠ S.g ∧ w.heap[p]? = some (.cells cur 9 (0, 0)) ∧ cur.toList.take tags.length = tags.map Value.string
section
variable {w w' : World} {S : SC} {tv : Option Addr} {tags : List ByteArray}
theorem TgF.nil (w : World) (S : SC) (tv : Option Addr) : TgF w S tv [] := .inl rfl
theorem TgF.strs (h : TgF w S tv tags) : StrsAt w tv tags := by
  rcases h with rfl | ⟨p, cur, rfl, _, hb, ht⟩
  · exact StrsAt.nil _ _
  · intro j hj
    refine ⟨p, 0, rfl, (Array.getElem?_eq_some_iff.1 hb).1, ?_⟩
    have h1 : (cur.toList.take tags.length)[j]? = some (.string tags[j]) := by
      rw [ht]
      simp [hj]
    rw [List.getElem?_take_of_lt hj] at h1
    simp only [World.cell?]
    rw [hb]
    simp only [Nat.zero_add]
    rw [← Array.getElem?_toList, h1]
    rfl
theorem TgF.kept {row : Option Nat} (h : TgF w S tv tags) (hb : w.grownBy w' row) (hr : ∀ p cur fr, row = some p → w.heap[p]? = some (.cells cur 9 fr) → p = S.g) : TgF w' S tv tags := by
  rcases h with rfl | ⟨p, cur, rfl, hp, hq, ht⟩
  · exact .inl rfl
  · exact .inr ⟨p, cur, rfl, hp, (hb.block p (Array.getElem?_eq_some_iff.1 hq).1 (fun e => hp (hr p _ _ e.symm hq))).trans hq, ht⟩
theorem TgF.draw (h : TgF w S tv tags) (hb : w.grownBy w' (some S.g)) : TgF w' S tv tags := h.kept hb (fun p _ _ e _ => (Option.some.inj e).symm)
theorem TgF.below (h : TgF w S tv tags) (hb : Below w.heap.size w w') : TgF w' S tv tags := h.kept (grown_of_below hb none) (fun _ _ _ e _ => by cases e)
theorem TgF.alloc (h : TgF w S tv tags) (o : Obj) : TgF (w.alloc o) S tv tags := h.below ((Below.refl _ _).alloc (Nat.le_refl _) o)
theorem TgF.drewN (h : TgF w S tv tags) (n : Nat) : TgF (w.drewN n) S tv tags := h
/-- .. behind an append to a list of another type -/
theorem TgF.app {b0 n C : Nat} {t : TypeId} {v : Value} {xs : List Value} {o : Obj} (h : TgF w S tv tags) (own : w.ownsRow b0 t C v n xs) (ht : t ≠ 9) (hb : (w.alloc o).grownBy w' v.ownBlock) : TgF w' S tv tags := by
  refine (h.alloc o).kept hb (fun p cur fr e hc => ?_)
  rcases (own.alloc o).2 with ⟨rfl, _⟩ | ⟨g, cap, cur', rfl, _, hg, _⟩
  · cases e
  · obtain rfl := Option.some.inj e
    rw [hg] at hc
    injection hc with hc
    injection hc with _ hc _
    exact absurd hc ht
/-- .. behind a write to a block of another type -/
theorem TgF.set {g i : Nat} {cur : Array Value} {t : TypeId} {fr : Nat × Nat} {u : Value} (h : TgF w S tv tags) (hg : w.heap[g]? = some (.cells cur t fr)) (ht : t ≠ 9) : TgF (w.setCell ⟨g, i, none⟩ u) S tv tags := by
  refine h.kept (grown_set (grown_same w (some g)) (p := ⟨g, i, none⟩) (.inl rfl) u) (fun p cur' fr' e hc => ?_)
  obtain rfl : g = p := Option.some.inj e
  rw [hg] at hc
  injection hc with hc
  injection hc with _ hc _
  exact absurd hc ht
theorem TgF.new (w : World) (S : SC) (tags : List ByteArray) (hS : S.g < w.heap.size) : TgF (w.alloc (.cells (tags.map Value.string).toArray 9)) S (some ⟨w.heap.size, 0, none⟩) tags :=
  .inr ⟨_, _, rfl, by omega, heap_alloc_new w _, List.take_of_length_le (by simp)⟩
/-- .. where the block goes on behind the tags -/
theorem TgF.newP (w : World) (S : SC) (all : List ByteArray) (n : Nat) (hS : S.g < w.heap.size) (hn : n ≤ all.length) : TgF (w.alloc (.cells (all.map Value.string).toArray 9)) S (some ⟨w.heap.size, 0, none⟩) (all.take n) :=
  .inr ⟨_, _, rfl, by omega, heap_alloc_new w _, by simp [Nat.min_eq_left hn, List.map_take]⟩
/-- .. out of a row of one's own -/
theorem TgF.own {b0 : Nat} {v : Value} {a : Option Addr} {c : Nat} (h : w.ownsRow b0 9 1 v tags.length (tags.map Value.string)) (hv : v = .slice a tags.length c) (hb : S.g < b0) : TgF w S a tags := by
  rcases h.2 with ⟨e, h0⟩ | ⟨g, cap, cur, e, hbg, hg, _, _, _, ht⟩
  · exact .inl (List.eq_nil_of_length_eq_zero h0)
  · rw [hv] at e
    injection e with e1 e2 e3
    exact .inr ⟨g, cur, e1, by omega, hg, by simpa using ht⟩
theorem TgF.kp (h : TgF w S tv tags) : Kp S (fun w => StrsAt w tv tags) w := fun w' k => (h.draw k).strs
end
theorem Kp.tags {α : Type} {S : SC} {w : World} {tv : α → Option Addr} {tags : α → List ByteArray} {l : List α} (h : ∀ x ∈ l, TgF w S (tv x) (tags x)) : Kp S (fun w => TagsAt tv tags w l) w := fun w' k x hx => ((h x hx).draw k).strs
end Go.Proofs.YtdefjnefkdemiaaGreatDoor
/- Stream.Range. -/
set_option linter.unusedVariables false
namespace Go.Proofs.YtdefjnefkdemiaaGreatDoor
open Go.RowKit

theorem range_any (S : SC) (K : Nat) (lo hi : Int) (w : World) (hs : Strm w S K) (hK : K ≤ 1000000) (h1 : lo ≤ hi) (h2 : -1000000 ≤ lo) (h3 : hi ≤ 1000000) :
    Calls Tryz.prog 24 #[S.p, .int .i64 lo, .int .i64 hi] w (GenI S (K + 1) w fun r => lo ≤ r ∧ r ≤ hi) := by
  go_enter Tryz.func24, Tryz.ntmps24
  go_wp2_with fail
  with_reducible refine (next_any S _ _ _ hs (by omega) (by omega)).mono ?_
  rintro e w1 ⟨r, ⟨hm0, hm1, -⟩, rfl, k1, s1⟩
  have hm2 := hm1 (by omega)
  clear hm1
  go_wp2
  go_ret
  exact ⟨_, ⟨by omega, by omega⟩, rfl, k1, s1⟩
end Go.Proofs.YtdefjnefkdemiaaGreatDoor
/- A list of one's own that grows beside the stream. -/
set_option linter.unusedVariables false
namespace Go.Proofs.YtdefjnefkdemiaaGreatDoor
open Go.RowKit

theorem grown_own {w W W' : World} {row : Option Nat} {g : Nat} (h : w.grownBy W (some g)) (k : W.grownBy W' row) (hr : ∀ q, row = some q → w.heap.size ≤ q) : w.grownBy W' (some g) :=
  ⟨k.os.trans h.os, k.tape.trans h.tape, k.output.trans h.output, Nat.le_trans h.size k.size, fun i hi hne => (k.block i (Nat.lt_of_lt_of_le hi h.size) (fun e => by have := hr i e.symm; omega)).trans (h.block i hi hne)⟩
theorem strm_own {W W' : World} {row : Option Nat} {S : SC} {K : Nat} (h : Strm W S K) (k : W.grownBy W' row) (hr : ∀ q, row = some q → S.g < q) : Strm W' S K := by
  have hg := strm_lt h
  obtain ⟨⟨x, hx, hb⟩, hBg, hlen, hel⟩ := h
  refine ⟨⟨x, hx, (k.block _ hg (fun e => by have := hr _ e.symm; omega)).trans hb⟩, hBg, hlen, fun i hi => ?_⟩
  obtain ⟨b, off, n, h1, h2, h3, h4⟩ := hel i hi
  exact ⟨b, off, n, h1, h2, k.cell h3 (fun e => by have : S.g < b := hr _ e.symm; omega), h4⟩
/-- the list keeps while the stream is drawn from -/
theorem row_kept {W W' : World} {S : SC} {base e size : Nat} {v : Value} {k : Nat} {xs : List Value} (h : W.ownsRow base e size v k xs) (hg : W.grownBy W' (some S.g)) (hb : S.g < base) : W'.ownsRow base e size v k xs := by
  refine h.kept hg ?_
  cases hv : v.ownBlock with
  | none => exact .inl rfl
  | some q =>
    refine .inr fun e => ?_
    have := (h.lt q hv).1
    simp at e
    omega
theorem row_form {W : World} {base : Nat} {v : Value} {k : Nat} {zs : List Int} {t : TypeId} (h : W.ownsRow base t 1 v k (zs.map (Value.int .i64))) : ∃ a c, v = .slice a k c ∧ IntsAt W a zs := by
  rcases h.2 with ⟨rfl, h0⟩ | ⟨g, cap, cur, rfl, _⟩
  · subst h0
    have hl : zs.length = 0 := by have := h.1; simpa using this
    obtain rfl := List.eq_nil_of_length_eq_zero hl
    exact ⟨none, 0, rfl, IntsAt.nil _ _⟩
  · exact ⟨_, cap, rfl, IntsAt.of_own h⟩
end Go.Proofs.YtdefjnefkdemiaaGreatDoor
/- An offer that is being made (printed by gen_ofmake.py). -/
set_option linter.unusedVariables false
namespace Go.Proofs.YtdefjnefkdemiaaGreatDoor
open Go.RowKit

/-- three lists of tags, and the list of them -/
theorem tags3 {w : World} {S : SC} (hS : S.g < w.heap.size) (a b c : List ByteArray) (cs : List Value) (t : TypeId) :
    let W := (((w.alloc (.cells (a.map Value.string).toArray 9)).alloc (.cells (b.map Value.string).toArray 9)).alloc (.cells (c.map Value.string).toArray 9)).alloc (.cells cs.toArray t)
    TgF W S (some ⟨w.heap.size, 0, none⟩) a ∧ TgF W S (some ⟨w.heap.size + 1, 0, none⟩) b ∧ TgF W S (some ⟨w.heap.size + 2, 0, none⟩) c ∧ OB W (w.heap.size + 3) cs t := by
  intro W
  have z1 : (w.alloc (.cells (a.map Value.string).toArray 9)).heap.size = w.heap.size + 1 := by simp
  have z2 : ((w.alloc (.cells (a.map Value.string).toArray 9)).alloc (.cells (b.map Value.string).toArray 9)).heap.size = w.heap.size + 2 := by simp
  have z3 : (((w.alloc (.cells (a.map Value.string).toArray 9)).alloc (.cells (b.map Value.string).toArray 9)).alloc (.cells (c.map Value.string).toArray 9)).heap.size = w.heap.size + 3 := by simp
  refine ⟨(((TgF.new w S a hS).alloc _).alloc _).alloc _, ?_, ?_, ?_⟩
  · have h := ((TgF.new (w.alloc (.cells (a.map Value.string).toArray 9)) S b (by rw [z1]; omega)).alloc (.cells (c.map Value.string).toArray 9)).alloc (.cells cs.toArray t)
    rw [z1] at h
    exact h
  · have h := (TgF.new ((w.alloc (.cells (a.map Value.string).toArray 9)).alloc (.cells (b.map Value.string).toArray 9)) S c (by rw [z2]; omega)).alloc (.cells cs.toArray t)
    rw [z2] at h
    exact h
  · have h := OB.new (((w.alloc (.cells (a.map Value.string).toArray 9)).alloc (.cells (b.map Value.string).toArray 9)).alloc (.cells (c.map Value.string).toArray 9)) cs t
    rw [z3] at h
    exact h

theorem Of.ok.ok_kind {x : Of} (h : x.ok) (v : Int) (h0 : -10 ≤ v) (h1 : v ≤ 10) : ({ x with kind := v } : Of).ok := by
  obtain ⟨o1, o2, o3, o4, o5, o6, o7, o8, o9, o10, o11, o12, o13, o14, o15, o16, o17, o18, o19, o20⟩ := h
  exact ⟨o1, h0, h1, o4, o5, o6, o7, o8, o9, o10, o11, o12, o13, o14, o15, o16, o17, o18, o19, o20⟩
theorem Of.ok.ok_a {x : Of} (h : x.ok) (v : Int) (h0 : -2000000000000 ≤ v) (h1 : v ≤ 2000000000000) : ({ x with a := v } : Of).ok := by
  obtain ⟨o1, o2, o3, o4, o5, o6, o7, o8, o9, o10, o11, o12, o13, o14, o15, o16, o17, o18, o19, o20⟩ := h
  exact ⟨o1, o2, o3, h0, h1, o6, o7, o8, o9, o10, o11, o12, o13, o14, o15, o16, o17, o18, o19, o20⟩
theorem Of.ok.ok_b {x : Of} (h : x.ok) (v : Int) (h0 : -100 ≤ v) (h1 : v ≤ 100) : ({ x with b := v } : Of).ok := by
  obtain ⟨o1, o2, o3, o4, o5, o6, o7, o8, o9, o10, o11, o12, o13, o14, o15, o16, o17, o18, o19, o20⟩ := h
  exact ⟨o1, o2, o3, o4, o5, h0, h1, o8, o9, o10, o11, o12, o13, o14, o15, o16, o17, o18, o19, o20⟩
theorem Of.ok.ok_least {x : Of} (h : x.ok) (v : Int) (h0 : -2000000000000 ≤ v) (h1 : v ≤ 2000000000000) : ({ x with least := v } : Of).ok := by
  obtain ⟨o1, o2, o3, o4, o5, o6, o7, o8, o9, o10, o11, o12, o13, o14, o15, o16, o17, o18, o19, o20⟩ := h
  exact ⟨o1, o2, o3, o4, o5, o6, o7, o8, o9, h0, h1, o12, o13, o14, o15, o16, o17, o18, o19, o20⟩
theorem Of.ok.ok_most {x : Of} (h : x.ok) (v : Int) (h0 : -2000000000000 ≤ v) (h1 : v ≤ 2000000000000) : ({ x with most := v } : Of).ok := by
  obtain ⟨o1, o2, o3, o4, o5, o6, o7, o8, o9, o10, o11, o12, o13, o14, o15, o16, o17, o18, o19, o20⟩ := h
  exact ⟨o1, o2, o3, o4, o5, o6, o7, o8, o9, o10, o11, h0, h1, o14, o15, o16, o17, o18, o19, o20⟩
theorem Of.ok.ok_order {x : Of} (h : x.ok) (v : Int) (h0 : -10000 ≤ v) (h1 : v ≤ 10000) : ({ x with order := v } : Of).ok := by
  obtain ⟨o1, o2, o3, o4, o5, o6, o7, o8, o9, o10, o11, o12, o13, o14, o15, o16, o17, o18, o19, o20⟩ := h
  exact ⟨o1, o2, o3, o4, o5, o6, o7, o8, o9, o10, o11, o12, o13, o14, h0, h1, o17, o18, o19, o20⟩
theorem Of.ok.ok_from_ {x : Of} (h : x.ok) (v : Int) (h0 : -100000000 ≤ v) (h1 : v ≤ 100000000) : ({ x with from_ := v } : Of).ok := by
  obtain ⟨o1, o2, o3, o4, o5, o6, o7, o8, o9, o10, o11, o12, o13, o14, o15, o16, o17, o18, o19, o20⟩ := h
  exact ⟨o1, o2, o3, o4, o5, o6, o7, o8, o9, o10, o11, o12, o13, o14, o15, o16, h0, h1, o19, o20⟩
theorem Of.ok.ok_to_ {x : Of} (h : x.ok) (v : Int) (h0 : -100000000 ≤ v) (h1 : v ≤ 100000000) : ({ x with to_ := v } : Of).ok := by
  obtain ⟨o1, o2, o3, o4, o5, o6, o7, o8, o9, o10, o11, o12, o13, o14, o15, o16, o17, o18, o19, o20⟩ := h
  exact ⟨o1, o2, o3, o4, o5, o6, o7, o8, o9, o10, o11, o12, o13, o14, o15, o16, o17, o18, h0, h1⟩
theorem Of.ok.ok_key {x : Of} (h : x.ok) (v : ByteArray) (h0 : v.size ≤ 100) : ({ x with key := v } : Of).ok := by
  obtain ⟨o1, o2, o3, o4, o5, o6, o7, o8, o9, o10, o11, o12, o13, o14, o15, o16, o17, o18, o19, o20⟩ := h
  exact ⟨h0, o2, o3, o4, o5, o6, o7, o8, o9, o10, o11, o12, o13, o14, o15, o16, o17, o18, o19, o20⟩
theorem Of.ok.ok_group {x : Of} (h : x.ok) (v : ByteArray) (h0 : v.size ≤ 100) : ({ x with group := v } : Of).ok := by
  obtain ⟨o1, o2, o3, o4, o5, o6, o7, o8, o9, o10, o11, o12, o13, o14, o15, o16, o17, o18, o19, o20⟩ := h
  exact ⟨o1, o2, o3, o4, o5, o6, o7, o8, o9, o10, o11, o12, o13, h0, o15, o16, o17, o18, o19, o20⟩
theorem Of.ok.ok_alone {x : Of} (h : x.ok) (v : Bool) : ({ x with alone := v } : Of).ok := by
  obtain ⟨o1, o2, o3, o4, o5, o6, o7, o8, o9, o10, o11, o12, o13, o14, o15, o16, o17, o18, o19, o20⟩ := h
  exact ⟨o1, o2, o3, o4, o5, o6, o7, o8, o9, o10, o11, o12, o13, o14, o15, o16, o17, o18, o19, o20⟩
theorem Of.ok.ok_tags {x : Of} (h : x.ok) (tv : Option Addr) (tc : Nat) (tags : List ByteArray) (h0 : tags.length ≤ 20) (h1 : ∀ s ∈ tags, s.size ≤ 100) : ({ x with tv := tv, tc := tc, tags := tags } : Of).ok := by
  obtain ⟨o1, o2, o3, o4, o5, o6, o7, o8, o9, o10, o11, o12, o13, o14, o15, o16, o17, o18, o19, o20⟩ := h
  exact ⟨o1, o2, o3, o4, o5, o6, o7, h0, h1, o10, o11, o12, o13, o14, o15, o16, o17, o18, o19, o20⟩
/-- an offer with nothing in it -/
def ofZ : Of := ⟨⟨#[]⟩, 0, 0, 0, none, 0, [], 0, 0, ⟨#[]⟩, false, 0, 0, 0⟩
/-- an offer that is being made: block q0 is the result's, block q the offer's own -/
structure OfW (w : World) (S : SC) (q0 q : Nat) (x : Of) (K : Nat) (wr : World) : Prop where
  strm : Strm wr S K
  grown : w.grownBy wr (some S.g)
  box : OB wr q x.cells 37
  res : OB wr q0 ofZ.cells 37
  tg : TgF wr S x.tv x.tags
  lt : q0 < q
  hw : w.heap.size ≤ q0
  hS : S.g < q0
section
variable {w wr wr' : World} {S : SC} {q0 q : Nat} {x x' : Of} {K K' : Nat}
theorem of_ty : 37 ≠ 9 := by decide
theorem OfW.mono (h : OfW w S q0 q x K wr) (hK : K ≤ K') : OfW w S q0 q x K' wr := ⟨strm_mono h.strm hK, h.grown, h.box, h.res, h.tg, h.lt, h.hw, h.hS⟩
theorem OfW.draw (h : OfW w S q0 q x K wr) (k : wr.grownBy wr' (some S.g)) (s : Strm wr' S K') : OfW w S q0 q x K' wr' := by
  have h2 := h.hS
  have h3 := h.lt
  exact ⟨s, grown_trans h.grown k, h.box.grown k (by simp; omega), h.res.grown k (by simp; omega), h.tg.draw k, h.lt, h.hw, h.hS⟩
theorem OfW.alloc (h : OfW w S q0 q x K wr) (o : Obj) : OfW w S q0 q x K (wr.alloc o) := ⟨strm_alloc h.strm o, grown_alloc h.grown o, h.box.alloc o, h.res.alloc o, h.tg.alloc o, h.lt, h.hw, h.hS⟩
theorem OB.other {q p : Nat} {cs : List Value} {t : TypeId} {w : World} (h : OB w q cs t) (hp : p ≠ q) (i : Nat) (v : Value) : OB (w.setCell ⟨p, i, none⟩ v) q cs t :=
  h.grown (grown_set (grown_same w (some p)) (p := ⟨p, i, none⟩) (.inl rfl) v) (by simpa using hp)
theorem OfW.put (h : OfW w S q0 q x K wr) (i : Nat) (v : Value) (hc : x'.cells = x.cells.set i v) (ht : TgF wr S x'.tv x'.tags) : OfW w S q0 q x' K (wr.setCell ⟨q, i, none⟩ v) := by
  have h1 := h.hw
  have h2 := h.hS
  have h3 := h.lt
  exact ⟨strm_set h.strm (by show S.g < q; omega) v, grown_set h.grown (.inr (by show w.heap.size ≤ q; omega)) v, h.box.put i v hc, h.res.other (by omega) i v, ht.set h.box of_ty, h.lt, h.hw, h.hS⟩
/-- what the maker of an offer leaves -/
def GenOf (S : SC) (K : Nat) (key : ByteArray) (w : World) (e : Ending) (w' : World) : Prop :=
  ∃ x : Of, x.key = key ∧ x.ok ∧ e = .returned (.agg x.cells.toArray) ∧ TgF w' S x.tv x.tags ∧ w.grownBy w' (some S.g) ∧ Strm w' S K
/-- cells of one block, one after the other -/
def sets (w : World) (q : Nat) : Nat → List Value → World
  | _, [] => w
  | i, v :: r => sets (w.setCell ⟨q, i, none⟩ v) q (i + 1) r
theorem sets_kept {b0 : World} {S : SC} {K q : Nat} {t : TypeId} (ht : t ≠ 9) (hq : b0.heap.size ≤ q) (hS : S.g < q) {tv : Option Addr} {tags : List ByteArray} : ∀ (vs cs : List Value) (i : Nat) (w : World), OB w q cs t → Strm w S K → b0.grownBy w (some S.g) → TgF w S tv tags →
    Strm (sets w q i vs) S K ∧ b0.grownBy (sets w q i vs) (some S.g) ∧ TgF (sets w q i vs) S tv tags
  | [], _, _, _, _, s, g, h => ⟨s, g, h⟩
  | v :: vs, cs, i, w, hb, s, g, h => sets_kept ht hq hS vs (cs.set i v) (i + 1) _ (hb.set i v) (strm_set s (by show S.g < q; omega) v) (grown_set g (.inr (by show b0.heap.size ≤ q; omega)) v) (h.set hb ht)
theorem OfW.done (h : OfW w S q0 q x K wr) (hK : K ≤ K') (hx : x.ok) : GenOf S K' x.key w (.returned (.agg x.cells.toArray)) (sets wr q0 0 x.cells) := by
  obtain ⟨s, g, t⟩ := sets_kept of_ty h.hw h.hS x.cells _ 0 wr h.res h.strm h.grown h.tg
  exact ⟨x, rfl, hx, rfl, t, g, strm_mono s hK⟩
end
end Go.Proofs.YtdefjnefkdemiaaGreatDoor
/- Lists of records with tags that grow beside the stream: the tags stay. -/
set_option linter.unusedVariables false
namespace Go.Proofs.YtdefjnefkdemiaaGreatDoor
open Go.RowKit

/-- a list of records of one's own, and the tags of its records -/
def LT {α : Type} (w : World) (b0 : Nat) (wr : World) (S : SC) (K : Nat) (t : TypeId) (C : Nat) (f : α → List Value) (tv : α → Option Addr) (tags : α → List ByteArray) (v : Value) (l : List α) : Prop :=
  LstR w b0 wr S K t C f v l ∧ ∀ x ∈ l, TgF wr S (tv x) (tags x)
/-- what the maker of such a list leaves -/
def GenT {α : Type} (S : SC) (K : Nat) (w : World) (C : Nat) (f : α → List Value) (tv : α → Option Addr) (tags : α → List ByteArray) (P : List α → Prop) (e : Ending) (w' : World) : Prop :=
  ∃ a c l, P l ∧ e = .returned (.slice a l.length c) ∧ l.length ≤ c ∧ c ≤ maxLen ∧ Kp S (fun w => RAt w a C f l) w' ∧ Kp S (fun w => TagsAt tv tags w l) w' ∧ w.grownBy w' (some S.g) ∧ Strm w' S K
section
variable {α : Type} {w wr wr' : World} {b0 K K' : Nat} {S : SC} {t : TypeId} {C : Nat} {f : α → List Value} {tv : α → Option Addr} {tags : α → List ByteArray} {v : Value} {l : List α}
theorem LT.nil (h : LstR w b0 wr S K t C f v []) : LT w b0 wr S K t C f tv tags v [] := ⟨h, by simp⟩
theorem LT.mono (h : LT w b0 wr S K t C f tv tags v l) (hK : K ≤ K') : LT w b0 wr S K' t C f tv tags v l := by
  obtain ⟨⟨q1, q2, q3, q4⟩, h2⟩ := h
  exact ⟨⟨q1, strm_mono q2 hK, q3, q4⟩, h2⟩
theorem LT.strm (h : LT w b0 wr S K t C f tv tags v l) : Strm wr S K := h.1.2.1
theorem LT.size (h : LT w b0 wr S K t C f tv tags v l) : b0 ≤ wr.heap.size := h.1.2.2.2
theorem LT.draw (h : LT w b0 wr S K t C f tv tags v l) (k : wr.grownBy wr' (some S.g)) (s : Strm wr' S K') (hb : S.g < b0) : LT w b0 wr' S K' t C f tv tags v l :=
  ⟨h.1.draw k s hb, fun x hx => (h.2 x hx).draw k⟩
theorem LT.alloc (h : LT w b0 wr S K t C f tv tags v l) (o : Obj) (hb : S.g < b0) : LT w b0 (wr.alloc o) S K t C f tv tags v l := h.draw (World.grownBy_alloc _ _ _) (strm_alloc h.strm o) hb
theorem LT.snoc {o : Obj} {v' : Value} {x : α} (h : LT w b0 wr S K t C f tv tags v l) (hx : TgF wr S (tv x) (tags x)) (ht : t ≠ 9) (hb : S.g < b0) (hw : w.heap.size ≤ b0) (own' : wr'.ownsRow b0 t C v' (l.length + 1) (l.flatMap f ++ f x)) (k : (wr.alloc o).grownBy wr' v.ownBlock) : LT w b0 wr' S K t C f tv tags v' (l ++ [x]) := by
  refine ⟨h.1.snoc hb hw own' k, fun y hy => ?_⟩
  rcases List.mem_append.1 hy with hy | hy
  · exact (h.2 y hy).app h.1.1 ht k
  · obtain rfl := List.mem_singleton.1 hy
    exact hx.app h.1.1 ht k
theorem LT.blk {g n cap : Nat} (h : LT w b0 wr S K t C f tv tags (.slice (some ⟨g, 0, none⟩) n cap) l) : ∃ cur, wr.heap[g]? = some (.cells cur t (0, 0)) := by
  rcases h.1.1.2 with ⟨e, _⟩ | ⟨g', cap', cur, e, _, hg, _⟩
  · cases e
  · injection e with e1 e2 e3
    injection e1 with e1
    injection e1 with e1
    subst e1
    exact ⟨cur, hg⟩
theorem LT.cell {g n cap j i : Nat} {u : Value} (h : LT w b0 wr S K t C f tv tags (.slice (some ⟨g, 0, none⟩) n cap) l) (hn : l.length = n) (hf : ∀ x ∈ l, (f x).length = C) (hj : j < l.length) (hi : i < C) (hv : (f l[j])[i]? = some u) : wr.cell? ⟨g, j * C + i, none⟩ = some u := by
  subst hn
  have h1 : (j + 1) * C ≤ l.length * C := Nat.mul_le_mul_right _ hj
  rw [Nat.add_mul] at h1
  rw [h.1.1.cellAt _ (by omega), fm_get C f l hf j i hj hi]
  exact hv
theorem LT.free {g n cap : Nat} (h : LT w b0 wr S K t C f tv tags (.slice (some ⟨g, 0, none⟩) n cap) l) (hn : l.length = n) (i : Nat) : wr.frozen? ⟨g, i, none⟩ = false := by
  subst hn
  exact h.1.1.frozenAt _
theorem LT.put {g n cap j i : Nat} {u : Value} {x' : α} (h : LT w b0 wr S K t C f tv tags (.slice (some ⟨g, 0, none⟩) n cap) l) (ht : t ≠ 9) (hb : S.g < b0) (hw : w.heap.size ≤ b0) (hn : l.length = n) (hf : ∀ x ∈ l, (f x).length = C) (hj : j < l.length) (hi : i < C) (hx : f x' = (f l[j]).set i u) (htg : TgF wr S (tv x') (tags x')) :
    LT w b0 (wr.setCell ⟨g, j * C + i, none⟩ u) S K t C f tv tags (.slice (some ⟨g, 0, none⟩) n cap) (l.set j x') := by
  obtain ⟨cur, hg⟩ := h.blk
  refine ⟨h.1.set hb hw hn hf hj hi hx, fun y hy => ?_⟩
  rcases List.mem_or_eq_of_mem_set hy with hy | rfl
  · exact (h.2 y hy).set hg ht
  · exact htg.set hg ht
theorem LT.gen {P : List α → Prop} (h : LT w b0 wr S K t C f tv tags v l) (hS : S.g < b0) (hK : K ≤ K') (hf : ∀ x ∈ l, (f x).length = C) (hP : P l) : GenT S K' w C f tv tags P (.returned v) wr := by
  obtain ⟨⟨own, s, g, hb⟩, h2⟩ := h
  obtain ⟨a, c, rfl, hI, hc1, hc2⟩ := RAt.of_own own hf
  refine ⟨a, c, l, hP, rfl, hc1, hc2, Kp.recs hI (fun p off ha => ?_), Kp.tags h2, g, strm_mono s hK⟩
  subst ha
  have := (own.lt p (by simp [Value.ownBlock])).1
  omega
end
end Go.Proofs.YtdefjnefkdemiaaGreatDoor
