/- A strings.Builder that the call itself has made: copyCheck, WriteByte, WriteString (after the kit's contracts, which do not lay here: copyCheck's last way is refused in this translation). -/
import Derived.Test.YtfdpfkdfglombaaGreatDoorShelf
import Derived.Lib.Builder
import Derived.Lib.AppendStr
import Derived.Lib.UnsafeStr
import Derived.Lib.MakeNoZero
import Derived.Laws.Externs
import Derived.Lib.Walk
import Derived.WalkKit
import Derived.Shelf.Strings.Builder1
import Derived.Test.YtfdpfkdfglombaaGreatDoorCndP
import Derived.Test.YtfdpfkdfglombaaGreatDoorMeasure
import Derived.Lib.ItoaLen
import Derived.Lib.Join
import Derived.Test.YtfdpfkdfglombaaGreatDoorSgV
import Derived.Lib.ItoaMem
import Derived.Below
import Derived.Lib.OthersKept
import Derived.Test.YtfdpfkdfglombaaGreatDoorRecs
import Derived.Laws.OwnMore
import Derived.Deep.RegionWith
import Derived.Deep.DeepCutAuto
import Derived.Test.YtfdpfkdfglombaaGreatDoorSeen
import Derived.Maps.StringElems
set_option linter.unusedVariables false
namespace Go.Proofs.YtfdpfkdfglombaaGreatDoor
open Go.RowKit

theorem bdSize : (Tryz.prog.info? 119).map (·.size) = some 2 := by kernel_rfl
theorem bdInfo8 : (Tryz.prog.info? 5).map (fun i => (i.zero, i.size, i.bytes)) = some (some (.int .u8 0), 1, 1) := by kernel_rfl
abbrev BdIs (B b : Nat) (l : List UInt8) (w : World) : Prop := Lib.IsBuilder 119 5 B b (Lib.byteCells l) w

set_option maxHeartbeats 2000000 in
set_option maxRecDepth 100000 in
theorem copyUsed_any (b : Nat) (w : World) (h0 : w.cell? ⟨b, 0, none⟩ = some (.pointer (some ⟨b, 0, none⟩))) :
    Calls Tryz.prog 163 #[.pointer (some ⟨b, 0, none⟩)] w fun e w' => e = .returned (.tuple #[]) ∧ w' = w := by
  obtain ⟨j, hj, _⟩ := Option.map_eq_some_iff.1 bdSize
  go_enter Tryz.func163, Tryz.ntmps163
  go_wp2
  rw [Lib.run_neq_ptr_same w _ Tryz.underlying116 hj]
  go_wp2
  go_end0
  exact ⟨rfl, rfl⟩

set_option maxHeartbeats 2000000 in
set_option maxRecDepth 100000 in
theorem copyFresh_any (b : Nat) (w : World) (h0 : w.cell? ⟨b, 0, none⟩ = some (.pointer none)) (hsh : w.shape? b = some (119, 2)) (hfz : w.frozen? ⟨b, 0, none⟩ = false) :
    Calls Tryz.prog 163 #[.pointer (some ⟨b, 0, none⟩)] w fun e w' => e = .returned (.tuple #[]) ∧ w' = w.setCell ⟨b, 0, none⟩ (.pointer (some ⟨b, 0, none⟩)) := by
  obtain ⟨j, hj, hjs⟩ := Option.map_eq_some_iff.1 bdSize
  go_enter Tryz.func163, Tryz.ntmps163
  go_wp2
  rw [Lib.run_to_unsafe w ⟨b, 0, none⟩ Tryz.underlying116 Tryz.underlying217 hj (by rw [hjs]; decide) hsh (Nat.zero_lt_succ 1)]
  simp only [Result.andThen]
  rw [Oper.upon_value]
  go_wp2
  rw [run_callFunc_extern Tryz.func203 (by kernel_rfl) (by kernel_rfl) (by kernel_rfl) (e := Extern.AbiNoEscape.same) (by kernel_rfl)]
  rw [Lib.run_noEscape]
  simp only [Result.andThen]
  rw [Oper.upon_value]
  go_wp2
  rw [Lib.run_from_unsafe w ⟨b, 0, none⟩ Tryz.underlying217 Tryz.underlying116 hj hsh (by kernel_rfl)]
  simp only [Result.andThen]
  rw [Oper.upon_value]
  go_wp2
  go_end0
  exact ⟨rfl, rfl⟩

theorem copyCheck_any (B b : Nat) (bs : List Value) (w : World) (h : Lib.IsBuilder 119 5 B b bs w) :
    Calls Tryz.prog 163 #[.pointer (some ⟨b, 0, none⟩)] w fun e w' => e = .returned (.tuple #[]) ∧ (Lib.BuilderAt 119 5 B b (.pointer (some ⟨b, 0, none⟩)) bs w' ∧ Below B w w') := by
  rcases h with h | h
  · refine (copyFresh_any b w h.cell0 h.shape h.frozen0).mono ?_
    rintro e w' ⟨rfl, rfl⟩
    exact ⟨rfl, h.used _, (Below.refl B w).setCell (p := ⟨b, 0, none⟩) h.1 _⟩
  · refine (copyUsed_any b w h.cell0).mono ?_
    rintro e w' ⟨rfl, rfl⟩
    exact ⟨rfl, h, Below.refl B _⟩

set_option maxHeartbeats 4000000 in
set_option maxRecDepth 100000 in
theorem WriteByte_any (B b : Nat) (l : List UInt8) (c : UInt8) (w : World) (h : BdIs B b l w) (hlen : l.length + 1 ≤ 1000000) (hBw : B ≤ w.heap.size) :
    Calls Tryz.prog 245 #[.pointer (some ⟨b, 0, none⟩), .int .u8 (c.toNat : Int)] w fun e w' => e = .returned .nilIface ∧ BdIs B b (l ++ [c]) w' ∧ Below B w w' := by
  obtain ⟨i0, hi, hz0, hz1, hz2⟩ := info_parts bdInfo8
  have hl0 : (Lib.byteCells l).length = l.length := Lib.byteCells_length l
  have hbc : Lib.byteCells (l ++ [c]) = Lib.byteCells l ++ [.int .u8 (c.toNat : Int)] := Lib.byteCells_append l [c]
  unfold BdIs at *
  rw [hbc]
  obtain ⟨bs, hbs⟩ : ∃ z, Lib.byteCells l = z := ⟨_, rfl⟩
  rw [hbs] at h hl0 ⊢
  clear hbs hbc
  have hlen' : bs.length + 1 ≤ 1000000 := by omega
  clear hl0 hlen
  go_enter Tryz.func245, Tryz.ntmps245
  go_wp2_with (go_at_call 163; refine (copyCheck_any B b bs _ h).mono ?_)
  rintro e w1 ⟨rfl, h1, hb1⟩
  obtain ⟨hB, v, hbk, hown, hne⟩ := h1
  have c0 : w1.cell? ⟨b, 0, none⟩ = some (.pointer (some ⟨b, 0, none⟩)) := by rw [Lib.cell_of_heap hbk]; rfl
  have c1 : w1.cell? ⟨b, 1, none⟩ = some v := by rw [Lib.cell_of_heap hbk]; rfl
  go_wp2_with (at_builtin; refine wpList_append_own _ rfl _ _ 117 rfl B 5 i0 (.int .u8 0) 1 1 Tryz.underlying117 hi hz0 hz1 hz2 rfl (by decide) _ _ _ rfl (hown.alloc _) ⟨w1.heap.size, 0, none⟩ 1 1 [.int .u8 (c.toNat : Int)] rfl rfl ?c1 ?c2 ?c3 ?c4 ?c5 ?_)
  case c1 =>
    intro j u hj
    match j, hj with
    | 0, hj => simp at hj; subst hj; simp [Addr.add]
  case c2 => intro u hu; simp at hu; subst hu; rfl
  case c3 => unfold maxLen; omega
  case c4 => omega
  case c5 => have := hb1.size; simp; omega
  intro v' w2 hown' hgrow _
  have hlt : b < w1.heap.size := by
    rcases Nat.lt_or_ge b w1.heap.size with h' | h'
    · exact h'
    · simp [Array.getElem?_eq_none h'] at hbk
  have hb2 : w2.heap[b]? = some (.cells #[.pointer (some ⟨b, 0, none⟩), v] 119 (0, 0)) := by
    rw [hgrow.block b (by simp; omega) (fun e => hne e.symm), Lib.alloc_old w1 _ b hlt]
    exact hbk
  have d0 : w2.cell? ⟨b, 0, none⟩ = some (.pointer (some ⟨b, 0, none⟩)) := by rw [Lib.cell_of_heap hb2]; rfl
  have d1 : w2.cell? ⟨b, 1, none⟩ = some v := by rw [Lib.cell_of_heap hb2]; rfl
  have f1 : w2.frozen? ⟨b, 1, none⟩ = false := Lib.frozen_of_heap hb2 1
  obtain ⟨g, cap, rfl⟩ : ∃ g cap, v' = .slice (some ⟨g, 0, none⟩) (bs.length + 1) cap := by
    rcases hown'.2 with ⟨_, h0⟩ | ⟨g, cap, cur, hv, _⟩
    · omega
    · exact ⟨g, cap, hv⟩
  go_wp2
  go_ret
  refine ⟨rfl, .inr ?_, ?_⟩
  · exact Lib.BuilderAt.put (T := 119) (e := 5) hB hb2 (bs' := bs ++ [.int .u8 (c.toNat : Int)]) (by simpa using hown') (by decide)
  · exact ((hb1.alloc (by have := hb1.size; omega) _).grown hgrow (by have := hb1.size; simp; omega) (fun k hk => (hown.lt k hk).1)).setCell (p := ⟨b, 1, none⟩) hB _

set_option maxHeartbeats 4000000 in
set_option maxRecDepth 100000 in
theorem WriteString_any (B b : Nat) (l : List UInt8) (s : ByteArray) (w : World) (h : BdIs B b l w) (hlen : l.length + s.size ≤ 1000000) (hBw : B ≤ w.heap.size) :
    Calls Tryz.prog 101 #[.pointer (some ⟨b, 0, none⟩), .string s] w fun e w' => e = .returned (.tuple #[.int .i64 s.size, .nilIface]) ∧ BdIs B b (l ++ s.data.toList) w' ∧ Below B w w' := by
  obtain ⟨i0, hi, hz0, hz1, hz2⟩ := info_parts bdInfo8
  have hl0 : (Lib.byteCells l).length = l.length := Lib.byteCells_length l
  have hbc : Lib.byteCells (l ++ s.data.toList) = Lib.byteCells l ++ Lib.strCells s := by rw [Lib.byteCells_append, Lib.strCells_eq]
  unfold BdIs at *
  rw [hbc]
  obtain ⟨bs, hbs⟩ : ∃ z, Lib.byteCells l = z := ⟨_, rfl⟩
  rw [hbs] at h hl0 ⊢
  clear hbs hbc
  have hlen' : bs.length + s.size ≤ 1000000 := by omega
  clear hl0 hlen
  go_enter Tryz.func101, Tryz.ntmps101
  go_wp2_with (go_at_call 163; refine (copyCheck_any B b bs _ h).mono ?_)
  rintro e w1 ⟨rfl, h1, hb1⟩
  obtain ⟨hB, v, hbk, hown, hne⟩ := h1
  have c0 : w1.cell? ⟨b, 0, none⟩ = some (.pointer (some ⟨b, 0, none⟩)) := by rw [Lib.cell_of_heap hbk]; rfl
  have c1 : w1.cell? ⟨b, 1, none⟩ = some v := by rw [Lib.cell_of_heap hbk]; rfl
  go_wp2_with (at_builtin; refine Lib.wpList_append_own_string _ rfl _ _ 117 9 rfl B 5 i0 Tryz.underlying117 Tryz.underlying9 hi hz0 hz1 hz2 _ _ _ rfl hown s rfl ?c3 ?c4 ?c5 ?_)
  case c3 => unfold maxLen; omega
  case c4 => omega
  case c5 => have := hb1.size; omega
  intro v' w2 hown' hgrow _
  have hlt : b < w1.heap.size := by
    rcases Nat.lt_or_ge b w1.heap.size with h' | h'
    · exact h'
    · simp [Array.getElem?_eq_none h'] at hbk
  have hb2 : w2.heap[b]? = some (.cells #[.pointer (some ⟨b, 0, none⟩), v] 119 (0, 0)) := by
    rw [hgrow.block b hlt (fun e => hne e.symm)]
    exact hbk
  have d0 : w2.cell? ⟨b, 0, none⟩ = some (.pointer (some ⟨b, 0, none⟩)) := by rw [Lib.cell_of_heap hb2]; rfl
  have d1 : w2.cell? ⟨b, 1, none⟩ = some v := by rw [Lib.cell_of_heap hb2]; rfl
  have f1 : w2.frozen? ⟨b, 1, none⟩ = false := Lib.frozen_of_heap hb2 1
  obtain ⟨ao, n', cap, rfl⟩ : ∃ ao n' cap, v' = .slice ao n' cap := by
    rcases hown'.2 with ⟨hv, _⟩ | ⟨g, cap, cur, hv, _⟩
    · exact ⟨_, _, _, hv⟩
    · exact ⟨_, _, _, hv⟩
  go_wp2
  go_ret2
  refine ⟨rfl, .inr ?_, ?_⟩
  · exact Lib.BuilderAt.put (T := 119) (e := 5) hB hb2 (bs' := bs ++ Lib.strCells s) (by simpa [Lib.strCells_length] using hown') (by decide)
  · exact (hb1.grown hgrow (by have := hb1.size; omega) (fun k hk => (hown.lt k hk).1)).setCell (p := ⟨b, 1, none⟩) hB _
end Go.Proofs.YtfdpfkdfglombaaGreatDoor
/- The text of a condition, in plain words, and how long it is. -/
set_option linter.unusedVariables false
namespace Go.Proofs.YtfdpfkdfglombaaGreatDoor
open Go.RowKit

/-- a numeral -/
def itB (n : Int) : ByteArray := ⟨(Lib.itoa n).toArray⟩
theorem itB_size {n : Int} (h : i64B n) : (itB n).size ≤ 21 := Lib.itoa_length_le n h.1 h.2
def hexL : List UInt8 := [48, 49, 50, 51, 52, 53, 54, 55, 56, 57, 97, 98, 99, 100, 101, 102]
/-- a byte, as it is written between quotes -/
def qtC (c : UInt8) : List UInt8 := if c = 34 ∨ c = 92 then [92, c] else if c = 10 then [92, 110] else if c.toNat < 33 ∨ 126 < c.toNat then [92, 120, hexL.getD (c.toNat / 16) 0, hexL.getD (c.toNat % 16) 0] else [c]
theorem qtC_len (c : UInt8) : (qtC c).length ≤ 4 := by
  unfold qtC
  repeat' split
  all_goals simp
def quL (s : ByteArray) : List UInt8 := 34 :: (s.data.toList.flatMap qtC ++ [34])
def quB (s : ByteArray) : ByteArray := ⟨(quL s).toArray⟩
theorem fm_qt (l : List UInt8) : (l.flatMap qtC).length ≤ 4 * l.length := by
  induction l with
  | nil => simp
  | cons c r ih =>
    rw [List.flatMap_cons, List.length_append, List.length_cons]
    have := qtC_len c
    omega
theorem quB_size (s : ByteArray) : (quB s).size ≤ 4 * s.size + 2 := by
  show (quL s).toArray.size ≤ _
  unfold quL
  have := fm_qt s.data.toList
  have e : s.data.toList.length = s.size := rfl
  simp only [List.size_toArray, List.length_cons, List.length_append, List.length_nil]
  omega
/-- a value -/
def vtB (v : Vl) : ByteArray := if v.kind = 1 then quB v.text else if v.kind = 3 then (if v.num = 1 then ⟨#[121, 101, 115]⟩ else ⟨#[110, 111]⟩) else if v.kind = 4 then ⟨#[64]⟩ ++ itB v.num else itB v.num
/-- a span of time -/
def spB (n : Int) : ByteArray := if n % 1440 = 0 then itB (n / 1440) ++ ⟨#[32, 100, 97, 121, 115]⟩ else if n % 60 = 0 then itB (n / 60) ++ ⟨#[32, 104, 111, 117, 114, 115]⟩ else itB n ++ ⟨#[32, 109, 105, 110, 117, 116, 101, 115]⟩
/-- texts with something between them -/
def jn (sep : ByteArray) (l : List ByteArray) : ByteArray := ⟨(Lib.join (l.map (·.data.toList)) sep.data.toList).toArray⟩
/-- a comparison -/
def whX (x : Wh) : ByteArray := x.field ++ ⟨#[32]⟩ ++ x.sign ++ ⟨#[32]⟩ ++ vtB x.val
def whJ (l : List Wh) : ByteArray := jn ⟨#[44, 32]⟩ (l.map whX)
/-- the texts of a test of events, step by step -/
def ev0 (n : Nd) : ByteArray := (if n.kind = 11 then ⟨#[99, 111, 117, 110, 116, 32]⟩ else if n.kind = 12 then ⟨#[115, 117, 109, 32]⟩ else if n.kind = 13 then ⟨#[115, 105, 110, 99, 101, 32]⟩ else if n.kind = 14 then ⟨#[116, 104, 101, 110, 32]⟩ else ⟨#[]⟩) ++ n.name
def ev1 (n : Nd) : ByteArray := if n.kind = 12 then ev0 n ++ (⟨#[46]⟩ ++ n.field) else if n.kind = 14 then ev0 n ++ (⟨#[32]⟩ ++ n.field) else ev0 n
def ev2 (n : Nd) : ByteArray := if n.whs.length = 0 then ev1 n else ev1 n ++ (⟨#[32, 119, 104, 101, 114, 101, 32, 40]⟩ ++ whJ n.whs ++ ⟨#[41]⟩)
def ev3 (n : Nd) : ByteArray := if 0 < n.within then ev2 n ++ (⟨#[32, 119, 105, 116, 104, 105, 110, 32]⟩ ++ spB n.within) else ev2 n
def evB (n : Nd) : ByteArray := if n.kind = 13 then ev3 n ++ (⟨#[32]⟩ ++ n.sign ++ ⟨#[32]⟩ ++ spB n.number) else if n.kind = 11 ∨ n.kind = 12 then ev3 n ++ (⟨#[32]⟩ ++ n.sign ++ ⟨#[32]⟩ ++ itB n.number) else ev3 n
/-- where and within, as the reference writes them -/
def wrG : List Wh → Nat → ByteArray → ByteArray
  | [], _, o => o
  | x :: r, k, o => wrG r (k + 1) ((if k = 0 then o ++ ⟨#[32, 119, 104, 101, 114, 101, 32, 40]⟩ else o ++ ⟨#[44, 32]⟩) ++ whX x)
def wr1 (n : Nd) : ByteArray := if n.whs.length = 0 then ⟨#[]⟩ else wrG n.whs 0 ⟨#[]⟩ ++ ⟨#[41]⟩
def wrB (n : Nd) : ByteArray := if 0 < n.within then wr1 n ++ (⟨#[32, 119, 105, 116, 104, 105, 110, 32]⟩ ++ spB n.within) else wr1 n
/-- and a test of events, as the reference writes it -/
def erB (n : Nd) : ByteArray :=
  if n.kind = 11 then ⟨#[99, 111, 117, 110, 116, 32]⟩ ++ n.name ++ wrB n ++ ⟨#[32]⟩ ++ n.sign ++ ⟨#[32]⟩ ++ itB n.number else
  if n.kind = 12 then ⟨#[115, 117, 109, 32]⟩ ++ n.name ++ ⟨#[46]⟩ ++ n.field ++ wrB n ++ ⟨#[32]⟩ ++ n.sign ++ ⟨#[32]⟩ ++ itB n.number else
  if n.kind = 13 then ⟨#[115, 105, 110, 99, 101, 32]⟩ ++ n.name ++ wrB n ++ ⟨#[32]⟩ ++ n.sign ++ ⟨#[32]⟩ ++ spB n.number else
  ⟨#[116, 104, 101, 110, 32]⟩ ++ n.name ++ ⟨#[32]⟩ ++ n.field ++ wrB n
/-- a condition without others in it -/
def ndB (n : Nd) : ByteArray :=
  if n.kind = 1 then ⟨#[97, 108, 108]⟩ else if n.kind = 2 then ⟨#[110, 111, 110, 101]⟩ else
  if n.kind = 6 then ⟨#[104, 97, 115, 32]⟩ ++ n.name else
  if n.kind = 7 then n.name ++ ⟨#[32]⟩ ++ n.sign ++ ⟨#[32]⟩ ++ vtB (n.vals.getD 0 default) else
  if n.kind = 9 then n.name ++ ⟨#[32, 98, 101, 103, 105, 110, 115, 32]⟩ ++ vtB (n.vals.getD 0 default) else
  if n.kind = 10 then n.name ++ ⟨#[32, 99, 111, 110, 116, 97, 105, 110, 115, 32]⟩ ++ vtB (n.vals.getD 0 default) else
  if n.kind = 8 then n.name ++ ⟨#[32, 105, 110, 32, 40]⟩ ++ jn ⟨#[44, 32]⟩ (n.vals.map vtB) ++ ⟨#[41]⟩ else evB n
/-- one within another of kind k -/
def inB (k k' : Int) (s : ByteArray) : ByteArray := if k' = 4 ∨ (k' = 3 ∧ k ≠ 4) then ⟨#[40]⟩ ++ s ++ ⟨#[41]⟩ else s
def txT : Nat → Cn → ByteArray
  | 0, _ => ⟨#[]⟩
  | d + 1, c =>
    if c.nd.kind = 5 then ⟨#[110, 111, 116, 32]⟩ ++ inB 5 (c.args.getD 0 default).nd.kind (txT d (c.args.getD 0 default)) else
    if c.nd.kind = 3 then jn ⟨#[32, 97, 110, 100, 32]⟩ (c.args.map fun x => inB 3 x.nd.kind (txT d x)) else
    if c.nd.kind = 4 then jn ⟨#[32, 111, 114, 32]⟩ (c.args.map fun x => inB 4 x.nd.kind (txT d x)) else ndB c.nd

/-! ### both write the same -/
theorem ap_assoc (a b c : ByteArray) : a ++ b ++ c = a ++ (b ++ c) := ByteArray.append_assoc
theorem jn_data (sep : ByteArray) (l : List ByteArray) : (jn sep l).data.toList = Lib.join (l.map (·.data.toList)) sep.data.toList := rfl
theorem ba_ext {a b : ByteArray} (h : a.data.toList = b.data.toList) : a = b := by
  obtain ⟨⟨x⟩⟩ := a
  obtain ⟨⟨y⟩⟩ := b
  simp only at h
  rw [h]
theorem ap_data (a b : ByteArray) : (a ++ b).data.toList = a.data.toList ++ b.data.toList := by simp [ByteArray.data_append]
theorem jn_one (sep x : ByteArray) : jn sep [x] = x := ba_ext (by rw [jn_data]; exact Lib.join_one _ _)
theorem joinTail_app (sep : List UInt8) : ∀ (r : List (List UInt8)) (y : List UInt8), Lib.joinTail sep (r ++ [y]) = Lib.joinTail sep r ++ (sep ++ y) := by
  intro r y
  have h := Lib.joinTail_take_succ sep (r ++ [y]) r.length y (by simp)
  rw [List.take_of_length_le (by simp), List.take_left] at h
  simpa [List.append_assoc] using h
theorem jn_snoc (sep x y : ByteArray) (l : List ByteArray) : jn sep (x :: l ++ [y]) = jn sep (x :: l) ++ sep ++ y := ba_ext (by
  rw [ap_data, ap_data, jn_data, jn_data, List.cons_append, List.map_cons, List.map_cons, Lib.join_cons, Lib.join_cons, List.map_append, List.map_cons, List.map_nil, joinTail_app]
  simp [List.append_assoc])
theorem wrG_law : ∀ (r l : List Wh) (x : Wh) (k : Nat) (p : ByteArray), k ≠ 0 → wrG r k (p ++ jn ⟨#[44, 32]⟩ ((x :: l).map whX)) = p ++ jn ⟨#[44, 32]⟩ ((x :: l ++ r).map whX)
  | [], l, x, k, p, _ => by simp [wrG]
  | y :: r, l, x, k, p, hk => by
    unfold wrG
    rw [if_neg hk, ap_assoc, ap_assoc, show (jn ⟨#[44, 32]⟩ ((x :: l).map whX) ++ (⟨#[44, 32]⟩ ++ whX y)) = jn ⟨#[44, 32]⟩ ((x :: (l ++ [y])).map whX) by
      rw [← ap_assoc, List.map_cons, List.map_cons, List.map_append, List.map_cons, List.map_nil, ← List.cons_append, jn_snoc]]
    rw [wrG_law r (l ++ [y]) x (k + 1) p (by omega)]
    simp
theorem wrG_all (l : List Wh) (h : l.length ≠ 0) : wrG l 0 ⟨#[]⟩ = ⟨#[32, 119, 104, 101, 114, 101, 32, 40]⟩ ++ whJ l := by
  cases l with
  | nil => exact absurd rfl h
  | cons x r =>
    unfold wrG
    rw [if_pos rfl]
    have e : (⟨#[]⟩ ++ ⟨#[32, 119, 104, 101, 114, 101, 32, 40]⟩ : ByteArray) ++ whX x = ⟨#[32, 119, 104, 101, 114, 101, 32, 40]⟩ ++ jn ⟨#[44, 32]⟩ (([x] : List Wh).map whX) := by
      rw [List.map_cons, List.map_nil, jn_one]
      rfl
    rw [e, wrG_law r [] x 1 _ (by omega)]
    rfl
theorem wr_law (n : Nd) : ev3 n = ev1 n ++ wrB n := by
  have e0 : ∀ s : ByteArray, s ++ ⟨#[]⟩ = s := fun s => ba_ext (by rw [ap_data]; simp)
  have h1 : ev2 n = ev1 n ++ wr1 n := by
    unfold ev2 wr1
    by_cases h : n.whs.length = 0
    · rw [if_pos h, if_pos h, e0]
    · rw [if_neg h, if_neg h, wrG_all _ h]
  unfold ev3 wrB
  by_cases h : 0 < n.within
  · rw [if_pos h, if_pos h, h1, ap_assoc]
  · rw [if_neg h, if_neg h, h1]
theorem erB_evB (n : Nd) (h1 : 11 ≤ n.kind) (h2 : n.kind ≤ 14) : erB n = evB n := by
  unfold erB evB
  rw [wr_law]
  unfold ev1 ev0
  rcases (show n.kind = 11 ∨ n.kind = 12 ∨ n.kind = 13 ∨ n.kind = 14 by omega) with h | h | h | h <;> simp [h, ap_assoc]

/-! ### how long it is -/
theorem ap_size (a b : ByteArray) : (a ++ b).size = a.size + b.size := ByteArray.size_append
theorem lens_le (l : List ByteArray) (m : Nat) (h : ∀ x ∈ l, x.size ≤ m) : Lib.lens (l.map (·.data.toList)) ≤ m * l.length := by
  induction l with
  | nil => simp [Lib.lens]
  | cons x r ih =>
    have h1 := h x (by simp)
    have h2 := ih (fun y hy => h y (by simp [hy]))
    have e : x.data.toList.length = x.size := rfl
    simp only [List.map_cons, Lib.lens, List.length_cons, List.sum_cons] at *
    rw [Nat.mul_add]
    omega
theorem jn_size (sep x : ByteArray) (l : List ByteArray) : (jn sep (x :: l)).size = sep.size * l.length + Lib.lens ((x :: l).map (·.data.toList)) := by
  show (Lib.join ((x :: l).map (·.data.toList)) sep.data.toList).toArray.size = _
  rw [List.size_toArray, List.map_cons, Lib.join_length, List.length_map]
  rfl
theorem jn_le (sep : ByteArray) (l : List ByteArray) (m : Nat) (h : ∀ x ∈ l, x.size ≤ m) : (jn sep l).size ≤ (sep.size + m) * l.length := by
  cases l with
  | nil => exact Nat.zero_le _
  | cons x r =>
    rw [jn_size]
    have := lens_le (x :: r) m h
    have e : sep.size * r.length ≤ sep.size * (x :: r).length := Nat.mul_le_mul_left _ (by simp)
    rw [Nat.add_mul]
    omega
end Go.Proofs.YtfdpfkdfglombaaGreatDoor
/- Numerals and spans of time: strconv.Itoa, segment.spanText, handref1.spanText. -/
set_option linter.unusedVariables false
namespace Go.Proofs.YtfdpfkdfglombaaGreatDoor
open Go.RowKit Go.Sort Go.Lib

/-- the table of powers of ten, as the library lays it -/
abbrev P10x (w : World) : Prop := Lib.TabIs Tryz.prog w "internal/strconv.uint64pow10" .u64 Lib.pow10Tab
theorem p10x_lt {w : World} (h : P10x w) : 2 < w.heap.size := by
  unfold P10x Lib.TabIs World.var? at h
  have hg : Tryz.prog.globalNamed "internal/strconv.uint64pow10" = some 2 := by kernel_rfl
  simp only [hg, Option.bind_some] at h
  rcases Nat.lt_or_ge 2 w.heap.size with h' | h'
  · exact h'
  · rw [Array.getElem?_eq_none h'] at h; simp at h
theorem p10x_block {w w' : World} (h : P10x w) (e : w'.heap[2]? = w.heap[2]?) : P10x w' := by
  unfold P10x Lib.TabIs World.var? at h ⊢
  have hg : Tryz.prog.globalNamed "internal/strconv.uint64pow10" = some 2 := by kernel_rfl
  simp only [hg, Option.bind_some] at h ⊢
  rw [e]; exact h
theorem p10x_below {w w' : World} (h : P10x w) (hb : Below w.heap.size w w') : P10x w' := p10x_block h (hb.block _ (p10x_lt h))
theorem ret_strX {s t : ByteArray} (h : s = t) : Ending.returned (.string s) = .returned (.string t) := by rw [h]
/-- a text is returned -/
def TxtO (w : World) (s : ByteArray) (e : Ending) (w' : World) : Prop := e = .returned (.string s) ∧ Below w.heap.size w w'
theorem itX_any (n : Int) (hn : i64B n) (w : World) (htab : P10x w) : Calls Tryz.prog 50 #[.int .i64 n] w (TxtO w (itB n)) := by
  refine (Tryz.strconv_Itoa n hn.1 hn.2 w htab).mono ?_
  rintro e w' ⟨rfl, k, os, rfl⟩
  exact ⟨rfl, ⟨rfl, rfl, rfl, by show w.heap.size ≤ (w.heap ++ os).size; rw [Array.size_append]; omega, fun j hj => by show (w.heap ++ os)[j]? = _; rw [Array.getElem?_append_left hj]⟩⟩

set_option maxHeartbeats 4000000 in
theorem spanP_any (n : Int) (h0 : 0 ≤ n) (h1 : n ≤ 4321440) (w : World) (htab : P10x w) : Calls Tryz.prog 158 #[.int .i64 n] w (TxtO w (spB n)) := by
  obtain ⟨m, rfl⟩ := Int.eq_ofNat_of_zero_le h0
  have C := Lib.hid (fun z (hz : i64B z) w h => itX_any z hz w h)
  have HT := Lib.hid htab
  clear htab h0
  obtain ⟨R, hR⟩ : ∃ z, spB (m : Int) = z := ⟨_, rfl⟩
  rw [hR]
  have HR := Lib.hid hR.symm
  unfold spB at HR
  clear hR
  go_enter Tryz.func158, Tryz.ntmps158
  by_cases h3 : (m : Int) % 1440 = 0
  · have hA : ((m : Int) % 1440 == 0) = true := by simpa using h3
    have HR1 := Lib.hid (HR.out.trans (if_pos h3))
    have CC := Lib.hid (C.out ((m : Int) / 1440) (by unfold i64B; omega) w HT.out)
    have hs := itB_size (n := ((m : Int) / 1440)) (by unfold i64B; omega)
    clear HR C h3
    go_wp2_with fail
    ((with_reducible refine CC.out.mono ?_); rintro e w1 ⟨rfl, hb⟩)
    have HB := Lib.hid hb
    clear hb
    go_wp2_with fail
    go_ret
    exact ⟨ret_strX HR1.out.symm, HB.out⟩
  · have hA : ((m : Int) % 1440 == 0) = false := by simpa using h3
    have HR1 := Lib.hid (HR.out.trans (if_neg h3))
    clear HR h3
    by_cases h4 : (m : Int) % 60 = 0
    · have hA4 : ((m : Int) % 60 == 0) = true := by simpa using h4
      have HR2 := Lib.hid (HR1.out.trans (if_pos h4))
      have CC := Lib.hid (C.out ((m : Int) / 60) (by unfold i64B; omega) w HT.out)
      have hs := itB_size (n := ((m : Int) / 60)) (by unfold i64B; omega)
      clear HR1 C h4
      go_wp2_with fail
      ((with_reducible refine CC.out.mono ?_); rintro e w1 ⟨rfl, hb⟩)
      have HB := Lib.hid hb
      clear hb
      go_wp2_with fail
      go_ret
      exact ⟨ret_strX HR2.out.symm, HB.out⟩
    · have hA4 : ((m : Int) % 60 == 0) = false := by simpa using h4
      have HR2 := Lib.hid (HR1.out.trans (if_neg h4))
      have CC := Lib.hid (C.out (m : Int) (by unfold i64B; omega) w HT.out)
      have hs := itB_size (n := (m : Int)) (by unfold i64B; omega)
      clear HR1 C h4
      go_wp2_with fail
      ((with_reducible refine CC.out.mono ?_); rintro e w1 ⟨rfl, hb⟩)
      have HB := Lib.hid hb
      clear hb
      go_wp2_with fail
      go_ret
      exact ⟨ret_strX HR2.out.symm, HB.out⟩

set_option maxHeartbeats 4000000 in
theorem spanR_any (n : Int) (h0 : 0 ≤ n) (h1 : n ≤ 4321440) (w : World) (htab : P10x w) : Calls Tryz.prog 51 #[.int .i64 n] w (TxtO w (spB n)) := by
  obtain ⟨m, rfl⟩ := Int.eq_ofNat_of_zero_le h0
  have C := Lib.hid (fun z (hz : i64B z) w h => itX_any z hz w h)
  have HT := Lib.hid htab
  clear htab h0
  obtain ⟨R, hR⟩ : ∃ z, spB (m : Int) = z := ⟨_, rfl⟩
  rw [hR]
  have HR := Lib.hid hR.symm
  unfold spB at HR
  clear hR
  go_enter Tryz.func51, Tryz.ntmps51
  by_cases h3 : (m : Int) % 1440 = 0
  · have hA : ((m : Int) % 1440 == 0) = true := by simpa using h3
    have HR1 := Lib.hid (HR.out.trans (if_pos h3))
    have CC := Lib.hid (C.out ((m : Int) / 1440) (by unfold i64B; omega) w HT.out)
    have hs := itB_size (n := ((m : Int) / 1440)) (by unfold i64B; omega)
    clear HR C h3
    go_wp2_with fail
    ((with_reducible refine CC.out.mono ?_); rintro e w1 ⟨rfl, hb⟩)
    have HB := Lib.hid hb
    clear hb
    go_wp2_with fail
    go_ret
    exact ⟨ret_strX HR1.out.symm, HB.out⟩
  · have hA : ((m : Int) % 1440 == 0) = false := by simpa using h3
    have HR1 := Lib.hid (HR.out.trans (if_neg h3))
    clear HR h3
    by_cases h4 : (m : Int) % 60 = 0
    · have hA4 : ((m : Int) % 60 == 0) = true := by simpa using h4
      have HR2 := Lib.hid (HR1.out.trans (if_pos h4))
      have CC := Lib.hid (C.out ((m : Int) / 60) (by unfold i64B; omega) w HT.out)
      have hs := itB_size (n := ((m : Int) / 60)) (by unfold i64B; omega)
      clear HR1 C h4
      go_wp2_with fail
      ((with_reducible refine CC.out.mono ?_); rintro e w1 ⟨rfl, hb⟩)
      have HB := Lib.hid hb
      clear hb
      go_wp2_with fail
      go_ret
      exact ⟨ret_strX HR2.out.symm, HB.out⟩
    · have hA4 : ((m : Int) % 60 == 0) = false := by simpa using h4
      have HR2 := Lib.hid (HR1.out.trans (if_neg h4))
      have CC := Lib.hid (C.out (m : Int) (by unfold i64B; omega) w HT.out)
      have hs := itB_size (n := (m : Int)) (by unfold i64B; omega)
      clear HR1 C h4
      go_wp2_with fail
      ((with_reducible refine CC.out.mono ?_); rintro e w1 ⟨rfl, hb⟩)
      have HB := Lib.hid hb
      clear hb
      go_wp2_with fail
      go_ret
      exact ⟨ret_strX HR2.out.symm, HB.out⟩
end Go.Proofs.YtfdpfkdfglombaaGreatDoor
/- A text between quotes: person.hidden, person.Quote. -/
set_option linter.unusedVariables false
namespace Go.Proofs.YtfdpfkdfglombaaGreatDoor
open Go.RowKit

def hidB (c : UInt8) : Bool := decide ((c.toNat < 33 ∧ c.toNat ≠ 10) ∨ 127 ≤ c.toNat)
set_option maxHeartbeats 4000000 in
theorem hidden_any (c : UInt8) (w : World) : Calls Tryz.prog 223 #[.int .u8 (c.toNat : Int)] w fun e w' => e = .returned (.bool (hidB c)) ∧ w = w' := by
  have HB := Lib.hid (show hidB c = decide ((c.toNat < 33 ∧ c.toNat ≠ 10) ∨ 127 ≤ c.toNat) from rfl)
  generalize hidB c = b at *
  have hc := c.toNat_lt
  generalize c.toNat = n at *
  by_cases h1 : n < 33
  · have hA1 : decide ((n : Int) < 33) = true := by simp; omega
    have hA3 : decide ((127 : Int) ≤ (n : Int)) = false := by simp; omega
    by_cases h2 : n = 10
    · obtain rfl : b = false := HB.out.trans (decide_eq_false (by omega))
      have hA2 : ((n : Int) != 10) = false := by simp; omega
      clear HB
      go_enter Tryz.func223, Tryz.ntmps223
      go_wp2
      go_ret
      exact ⟨ret_bool (by simp <;> omega), rfl⟩
    · obtain rfl : b = true := HB.out.trans (decide_eq_true (by omega))
      have hA2 : ((n : Int) != 10) = true := by simp; omega
      clear HB
      go_enter Tryz.func223, Tryz.ntmps223
      go_wp2
      go_ret
      exact ⟨ret_bool (by simp <;> omega), rfl⟩
  · have hA1 : decide ((n : Int) < 33) = false := by simp; omega
    by_cases h3 : 127 ≤ n
    · obtain rfl : b = true := HB.out.trans (decide_eq_true (by omega))
      have hA3 : decide ((127 : Int) ≤ (n : Int)) = true := by simp; omega
      clear HB
      go_enter Tryz.func223, Tryz.ntmps223
      go_wp2
      go_ret
      exact ⟨ret_bool (by simp <;> omega), rfl⟩
    · obtain rfl : b = false := HB.out.trans (decide_eq_false (by omega))
      have hA3 : decide ((127 : Int) ≤ (n : Int)) = false := by simp; omega
      clear HB
      go_enter Tryz.func223, Tryz.ntmps223
      go_wp2
      go_ret
      exact ⟨ret_bool (by simp <;> omega), rfl⟩
theorem qt_take (s : ByteArray) (k : Nat) (h : k < s.size) : (s.data.toList.take (k + 1)).flatMap qtC = (s.data.toList.take k).flatMap qtC ++ qtC s[k] := by
  rw [List.take_succ_eq_append_getElem (by simpa using h), List.flatMap_append]
  simp
  rfl
theorem qt_take_len (s : ByteArray) (k : Nat) : ((s.data.toList.take k).flatMap qtC).length ≤ 4 * s.size := by
  have h1 := fm_qt (s.data.toList.take k)
  have h2 : (s.data.toList.take k).length ≤ s.size := by
    rw [List.length_take]
    exact Nat.min_le_right _ _
  omega
theorem WriteByte_at (B b : Nat) (l : List UInt8) (c : UInt8) (z : Int) (w : World) (hz : (c.toNat : Int) = z) (h : BdIs B b l w) (hlen : l.length + 1 ≤ 1000000) (hBw : B ≤ w.heap.size) :
    Calls Tryz.prog 245 #[.pointer (some ⟨b, 0, none⟩), .int .u8 z] w fun e w' => e = .returned .nilIface ∧ BdIs B b (l ++ [c]) w' ∧ Below B w w' := by
  rw [← hz]
  exact WriteByte_any B b l c w h hlen hBw
theorem WriteString_at (B b : Nat) (l r : List UInt8) (s : ByteArray) (w : World) (hr : s.data.toList = r) (h : BdIs B b l w) (hlen : l.length + s.size ≤ 1000000) (hBw : B ≤ w.heap.size) :
    Calls Tryz.prog 101 #[.pointer (some ⟨b, 0, none⟩), .string s] w fun e w' => e = .returned (.tuple #[.int .i64 s.size, .nilIface]) ∧ BdIs B b (l ++ r) w' ∧ Below B w w' := by
  rw [← hr]
  exact WriteString_any B b l s w h hlen hBw
theorem sz2 {a b : UInt8} : (⟨#[a, b]⟩ : ByteArray).size = 2 := rfl
theorem hex_at {q : Nat} (h : q < 16) : (⟨#[48, 49, 50, 51, 52, 53, 54, 55, 56, 57, 97, 98, 99, 100, 101, 102]⟩ : ByteArray)[q]'h = hexL.getD q 0 := by
  have key : ∀ q : Fin 16, (⟨#[48, 49, 50, 51, 52, 53, 54, 55, 56, 57, 97, 98, 99, 100, 101, 102]⟩ : ByteArray)[q.1]'q.2 = hexL.getD q.1 0 := by decide
  exact key ⟨q, h⟩
theorem quB_eq (s : ByteArray) (l : List UInt8) (h : l = 34 :: (s.data.toList.flatMap qtC)) : (⟨(l ++ [34]).toArray⟩ : ByteArray) = quB s := by
  subst h
  rfl
/-- what a text so far says -/
def BdQ (B : Nat) (s : ByteArray) (k : Nat) (wr : World) : Prop := BdIs B B (34 :: (s.data.toList.take k).flatMap qtC) wr

set_option maxHeartbeats 16000000 in
set_option maxRecDepth 100000 in
theorem Quote_any (s : ByteArray) (w : World) (hs : s.size ≤ 1000) : Calls Tryz.prog 198 #[.string s] w (TxtO w (quB s)) := by
  have HF := Lib.hid (Lib.fresh_isBuilder 119 5 w)
  have HB0 := Lib.hid ((Below.refl w.heap.size w).alloc (Nat.le_refl _) (.cells #[.pointer none, .slice none 0 0] 119))
  go_enter Tryz.func198, Tryz.ntmps198
  go_upto_region 2 with (fail)
  generalize w.alloc (.cells #[.pointer none, .slice none 0 0] 119) = w0 at *
  obtain ⟨b, hb⟩ : ∃ z, w.heap.size = z := ⟨_, rfl⟩
  rw [hb] at HF HB0 ⊢
  have HBW := Lib.hid hb
  clear hb
  go_wp2_with fail
  have HF1 : BdIs b b [] w0 := HF.out
  with_reducible refine (WriteByte_at b b [] 34 34 w0 rfl HF1 (by decide) (by have := HB0.out.size; have := HBW.out; omega)).mono ?_
  rintro e w1 ⟨rfl, h1, hb1⟩
  have HQ1 : Hid (BdQ b s 0 w1) := Lib.hid h1
  have HB1 := Lib.hid (HB0.out.trans hb1)
  clear HF HF1 HB0 h1 hb1
  go_wp2_with fail
  go_loopw [4, 5, 9] (fun _ _ i wr => ∃ k : Nat, k ≤ s.size ∧ i = .int .i64 k ∧ BdQ b s k wr ∧ Below b w wr) (fun _ _ i _ => s.size - (intOf i).toNat)
  case atStart => exact ⟨0, Nat.zero_le _, rfl, HQ1.out, HB1.out⟩
  case round =>
    obtain ⟨k, hk, rfl, hQ, hB⟩ := hrel
    have HQ := Lib.hid hQ
    have HB := Lib.hid hB
    clear hQ hB HQ1 HB1
    by_cases hlt : k < s.size
    · have HT := Lib.hid (qt_take s k hlt)
      have hlen := qt_take_len s k
      have CH := Lib.hid (fun w => hidden_any s[k] w)
      obtain ⟨c, hc⟩ : ∃ c, s[k] = c := ⟨_, rfl⟩
      rw [hc] at HT CH
      have hcl := c.toNat_lt
      obtain ⟨l, hl⟩ : ∃ z, 34 :: (s.data.toList.take k).flatMap qtC = z := ⟨_, rfl⟩
      have hll : l.length ≤ 4 * s.size + 1 := by rw [← hl, List.length_cons]; omega
      have HL : Hid (34 :: (s.data.toList.take (k + 1)).flatMap qtC = l ++ qtC c) := Lib.hid (by rw [HT.out, ← hl]; rfl)
      have HQl : Hid (BdIs b b l wr) := Lib.hid (by have h := HQ.out; unfold BdQ at h; rw [hl] at h; exact h)
      have hbz := Nat.le_trans (show b ≤ w.heap.size by have := HBW.out; omega) HB.out.size
      clear HT hlen hl HQ
      by_cases h34 : c.toNat = 34 ∨ c.toNat = 92
      · have HC : Hid (l ++ qtC c = l ++ [92] ++ [c]) := Lib.hid (by
          have e : qtC c = [92, c] := by
            unfold qtC
            rw [if_pos (by rcases h34 with h | h; exact .inl (UInt8.toNat_inj.1 h); exact .inr (UInt8.toNat_inj.1 h))]
          rw [e]
          simp)
        have hA34 : ((c.toNat : Int) == 34 || (c.toNat : Int) == 92) = true := by simp; omega
        obtain ⟨x1, hx1⟩ : ∃ x, ((c.toNat : Int) == 34) = x := ⟨_, rfl⟩
        obtain ⟨x2, hx2⟩ : ∃ x, ((c.toNat : Int) == 92) = x := ⟨_, rfl⟩
        rw [hx1, hx2] at hA34
        clear CH
        cases x1 with
        | true =>
          go_wp2_with fail
          with_reducible refine (WriteByte_at b b l 92 92 _ rfl HQl.out (by omega) hbz).mono ?_
          rintro e w2 ⟨rfl, q2, b2⟩
          have HQ2 := Lib.hid q2
          have HB2 := Lib.hid (HB.out.trans b2)
          have hbz2 := Nat.le_trans (show b ≤ w.heap.size by have := HBW.out; omega) HB2.out.size
          clear q2 b2
          go_wp2_with fail
          with_reducible refine (WriteByte_at b b (l ++ [92]) c _ _ rfl HQ2.out (by simp only [List.length_append, List.length_cons, List.length_nil]; omega) hbz2).mono ?_
          rintro e w3 ⟨rfl, q3, b3⟩
          have HQ3 : Hid (BdQ b s (k + 1) w3) := Lib.hid (by unfold BdQ; rw [HL.out, HC.out]; exact q3)
          have HB3 := Lib.hid (HB2.out.trans b3)
          clear q3 b3
          go_wp2_with fail
          go_roundw
          case rel => exact ⟨k + 1, by omega, by go_num, HQ3.out, HB3.out⟩
          case measure => simp [intOf]; omega
        | false =>
          obtain rfl : x2 = true := by simpa using hA34
          go_wp2_with fail
          with_reducible refine (WriteByte_at b b l 92 92 _ rfl HQl.out (by omega) hbz).mono ?_
          rintro e w2 ⟨rfl, q2, b2⟩
          have HQ2 := Lib.hid q2
          have HB2 := Lib.hid (HB.out.trans b2)
          have hbz2 := Nat.le_trans (show b ≤ w.heap.size by have := HBW.out; omega) HB2.out.size
          clear q2 b2
          go_wp2_with fail
          with_reducible refine (WriteByte_at b b (l ++ [92]) c _ _ rfl HQ2.out (by simp only [List.length_append, List.length_cons, List.length_nil]; omega) hbz2).mono ?_
          rintro e w3 ⟨rfl, q3, b3⟩
          have HQ3 : Hid (BdQ b s (k + 1) w3) := Lib.hid (by unfold BdQ; rw [HL.out, HC.out]; exact q3)
          have HB3 := Lib.hid (HB2.out.trans b3)
          clear q3 b3
          go_wp2_with fail
          go_roundw
          case rel => exact ⟨k + 1, by omega, by go_num, HQ3.out, HB3.out⟩
          case measure => simp [intOf]; omega
      · have hA34 : ((c.toNat : Int) == 34) = false := by simp; omega
        have hA92 : ((c.toNat : Int) == 92) = false := by simp; omega
        have hn34 : ¬ (c = 34 ∨ c = 92) := fun h => h34 (by rcases h with rfl | rfl; exact .inl rfl; exact .inr rfl)
        by_cases h10 : c.toNat = 10
        · have HC : Hid (l ++ qtC c = l ++ [92, 110]) := Lib.hid (by
            have e : qtC c = [92, 110] := by
              unfold qtC
              rw [if_neg hn34, if_pos (UInt8.toNat_inj.1 h10)]
            rw [e])
          have hA10 : ((c.toNat : Int) == 10) = true := by simp; omega
          clear CH hn34
          go_wp2_with fail
          with_reducible refine (WriteString_at b b l [92, 110] _ _ rfl HQl.out (by rw [sz2]; omega) hbz).mono ?_
          rintro e w2 ⟨rfl, q2, b2⟩
          have HQ2 : Hid (BdQ b s (k + 1) w2) := Lib.hid (by unfold BdQ; rw [HL.out, HC.out]; exact q2)
          have HB2 := Lib.hid (HB.out.trans b2)
          clear q2 b2
          go_wp2_with fail
          go_roundw
          case rel => exact ⟨k + 1, by omega, by go_num, HQ2.out, HB2.out⟩
          case measure => simp [intOf]; omega
        · have hA10 : ((c.toNat : Int) == 10) = false := by simp; omega
          have hn10 : c ≠ 10 := fun h => h10 (by rw [h]; rfl)
          by_cases hh : c.toNat < 33 ∨ 126 < c.toNat
          · have HH : hidB c = true := decide_eq_true (by omega)
            rw [HH] at CH
            obtain ⟨q, hq⟩ : ∃ q, c.toNat / 16 = q := ⟨_, rfl⟩
            obtain ⟨r, hr⟩ : ∃ q, c.toNat % 16 = q := ⟨_, rfl⟩
            have hq16 : q < 16 := by omega
            have hr16 : r < 16 := by omega
            have HC : Hid (l ++ qtC c = l ++ [92, 120] ++ [hexL.getD q 0] ++ [hexL.getD r 0]) := Lib.hid (by
              have e : qtC c = [92, 120, hexL.getD q 0, hexL.getD r 0] := by
                unfold qtC
                rw [if_neg hn34, if_neg hn10, if_pos hh, hq, hr]
              rw [e]
              simp)
            have hqi : ((c.toNat : Int) / 16) = (q : Int) := by omega
            have hri : ((c.toNat : Int) % 16) = (r : Int) := by omega
            have hxq := hex_at hq16
            have hxr := hex_at hr16
            clear hn34 hn10 HH hq hr
            go_wp2_with fail
            with_reducible refine (CH.out _).mono ?_
            rintro e w2 ⟨rfl, rfl⟩
            go_wp2_with fail
            with_reducible refine (WriteString_at b b l [92, 120] _ _ rfl HQl.out (by rw [sz2]; omega) hbz).mono ?_
            rintro e w2 ⟨rfl, q2, b2⟩
            have HQ2 := Lib.hid q2
            have HB2 := Lib.hid (HB.out.trans b2)
            have hbz2 := Nat.le_trans (show b ≤ w.heap.size by have := HBW.out; omega) HB2.out.size
            clear q2 b2
            go_wp2_with fail
            with_reducible refine (WriteByte_at b b (l ++ [92, 120]) (hexL.getD q 0) _ _ ?hq1 HQ2.out (by simp only [List.length_append, List.length_cons, List.length_nil]; omega) hbz2).mono ?_
            case hq1 => first | rfl | (rw [hxq])
            rintro e w3 ⟨rfl, q3, b3⟩
            have HQ3 := Lib.hid q3
            have HB3 := Lib.hid (HB2.out.trans b3)
            have hbz3 := Nat.le_trans (show b ≤ w.heap.size by have := HBW.out; omega) HB3.out.size
            clear q3 b3
            go_wp2_with fail
            with_reducible refine (WriteByte_at b b (l ++ [92, 120] ++ [hexL.getD q 0]) (hexL.getD r 0) _ _ ?hr1 HQ3.out (by simp only [List.length_append, List.length_cons, List.length_nil]; omega) hbz3).mono ?_
            case hr1 => first | rfl | (rw [hxr])
            rintro e w4 ⟨rfl, q4, b4⟩
            have HQ4 : Hid (BdQ b s (k + 1) w4) := Lib.hid (by unfold BdQ; rw [HL.out, HC.out]; exact q4)
            have HB4 := Lib.hid (HB3.out.trans b4)
            clear q4 b4
            go_wp2_with fail
            go_roundw
            case rel => exact ⟨k + 1, by omega, by go_num, HQ4.out, HB4.out⟩
            case measure => simp [intOf]; omega
          · have HH : hidB c = false := decide_eq_false (by omega)
            rw [HH] at CH
            have HC : Hid (l ++ qtC c = l ++ [c]) := Lib.hid (by
              have e : qtC c = [c] := by
                unfold qtC
                rw [if_neg hn34, if_neg hn10, if_neg hh]
              rw [e])
            clear hn34 hn10 HH
            go_wp2_with fail
            with_reducible refine (CH.out _).mono ?_
            rintro e w2 ⟨rfl, rfl⟩
            go_wp2_with fail
            with_reducible refine (WriteByte_at b b l c _ _ rfl HQl.out (by omega) hbz).mono ?_
            rintro e w2 ⟨rfl, q2, b2⟩
            have HQ2 : Hid (BdQ b s (k + 1) w2) := Lib.hid (by unfold BdQ; rw [HL.out, HC.out]; exact q2)
            have HB2 := Lib.hid (HB.out.trans b2)
            clear q2 b2
            go_wp2_with fail
            go_roundw
            case rel => exact ⟨k + 1, by omega, by go_num, HQ2.out, HB2.out⟩
            case measure => simp [intOf]; omega
    · obtain rfl : k = s.size := by omega
      have hlen := fm_qt s.data.toList
      have e0 : s.data.toList.length = s.size := rfl
      have HQl : Hid (BdIs b b (34 :: s.data.toList.flatMap qtC) wr) := Lib.hid (by have h := HQ.out; unfold BdQ at h; rw [List.take_of_length_le (by rw [e0]; exact Nat.le_refl _)] at h; exact h)
      have hbz := Nat.le_trans (show b ≤ w.heap.size by have := HBW.out; omega) HB.out.size
      clear HQ
      go_wp2_with fail
      with_reducible refine (WriteByte_at b b (34 :: s.data.toList.flatMap qtC) 34 34 _ rfl HQl.out (by rw [List.length_cons]; omega) hbz).mono ?_
      rintro e w2 ⟨rfl, q2, b2⟩
      have HQ2 := Lib.hid q2
      have HB2 := Lib.hid (HB.out.trans b2)
      clear q2 b2
      go_wp2_with fail
      with_reducible refine (Tryz.Builder_String b b (34 :: s.data.toList.flatMap qtC ++ [34]) w2 HQ2.out (by simp)).mono ?_
      rintro e w3 ⟨rfl, b3⟩
      have HB3 := Lib.hid (HB2.out.trans b3)
      clear b3
      go_wp2_with fail
      go_ret
      exact ⟨ret_strX (quB_eq s _ rfl), by have h := HB3.out; rw [← HBW.out] at h; exact h⟩
end Go.Proofs.YtfdpfkdfglombaaGreatDoor
/- A text between quotes, as the reference writes it: handref2.Quoted. -/
set_option linter.unusedVariables false
namespace Go.Proofs.YtfdpfkdfglombaaGreatDoor
open Go.RowKit

theorem u8_in {z : Int} (h0 : 0 ≤ z) (h1 : z < 256) : IntKind.u8.wrap z = z := by
  unfold IntKind.wrap
  simp [IntKind.signed, IntKind.bits]
  omega
/-- bytes in a row of one's own -/
def BqIs (b0 : Nat) (v : Value) (l : List UInt8) (w : World) : Prop := w.ownsRow b0 5 1 v l.length (Lib.byteCells l)
theorem BqIs.app {b0 : Nat} {v' : Value} {l r : List UInt8} {w' : World} (own' : w'.ownsRow b0 5 1 v' (l.length + r.length) (Lib.byteCells l ++ Lib.byteCells r)) : BqIs b0 v' (l ++ r) w' := by
  unfold BqIs
  rw [List.length_append, Lib.byteCells_append]
  exact own'
theorem bq_string {b0 : Nat} {v : Value} {l : List UInt8} {w : World} (h : BqIs b0 v l w) : (convert 117 9 v).run Tryz.prog w = .ok (.string ⟨l.toArray⟩) w := by
  have h' : w.ownsRow b0 5 1 v l.length (Lib.byteCells l) := h
  obtain ⟨hl, ⟨rfl, h0⟩ | ⟨g, cap, cur, rfl, -, -, hcap, -⟩⟩ := h'
  · have hl0 : l = [] := List.eq_nil_of_length_eq_zero h0
    subst hl0
    exact run_convert_bytes_string (P := Tryz.prog) w 117 9 5 none 0 0 Tryz.underlying117 Tryz.underlying5 Tryz.underlying9
  · refine run_convert_bytes_back (P := Tryz.prog) w 117 9 5 ⟨g, 0, none⟩ cap l Tryz.underlying117 Tryz.underlying5 Tryz.underlying9 (fun j hj => ?_)
    have e : (Addr.add ⟨g, 0, none⟩ j) = ⟨g, j, none⟩ := by
      unfold Addr.add
      split
      · rename_i h0; subst h0; rfl
      · simp
    have h2 : w.ownsRow b0 5 1 (.slice (some ⟨g, 0, none⟩) l.length cap) l.length (Lib.byteCells l) := h
    rw [e, h2.cellAt j (by omega)]
    unfold Lib.byteCells
    rw [List.getElem?_map, List.getElem?_eq_getElem hj]
    rfl
def BqQ (b0 : Nat) (v : Value) (s : ByteArray) (k : Nat) (wr : World) : Prop := BqIs b0 v (34 :: (s.data.toList.take k).flatMap qtC) wr

set_option maxHeartbeats 16000000 in
set_option maxRecDepth 100000 in
theorem Quoted_any (s : ByteArray) (w : World) (hs : s.size ≤ 1000) : Calls Tryz.prog 103 #[.string s] w (TxtO w (quB s)) := by
  obtain ⟨i0, hi, hz0, hz1, hz2⟩ := info_parts bdInfo8
  have HO : Hid (BqQ w.heap.size (.slice (some ⟨w.heap.size, 0, none⟩) 1 1) s 0 (w.alloc (.cells #[.int .u8 34] 5))) := Lib.hid (World.ownsRow_lit w #[.int .u8 34] 1 (Nat.le_refl _) (by unfold maxLen; omega) rfl)
  have HB0 := Lib.hid ((Below.refl w.heap.size w).alloc (Nat.le_refl _) (.cells #[.int .u8 34] 5))
  go_enter Tryz.func103, Tryz.ntmps103
  go_upto_region 2 with (fail)
  generalize w.alloc (.cells #[.int .u8 34] 5) = w0 at *
  obtain ⟨b, hb⟩ : ∃ z, w.heap.size = z := ⟨_, rfl⟩
  rw [hb] at HO HB0 ⊢
  have HBW := Lib.hid hb
  clear hb
  go_wp2_with fail
  go_loopw [3, 4, 5, 9] (fun v _ _ i wr => ∃ k : Nat, k ≤ s.size ∧ i = .int .i64 k ∧ BqQ b v s k wr ∧ Below b w wr) (fun _ _ _ i _ => s.size - (intOf i).toNat)
  case atStart => exact ⟨0, Nat.zero_le _, rfl, HO.out, HB0.out⟩
  case round =>
    obtain ⟨k, hk, rfl, hQ, hB⟩ := hrel
    have HQ := Lib.hid hQ
    have HB := Lib.hid hB
    clear hQ hB HO HB0
    have hbz := Nat.le_trans (show b ≤ w.heap.size by have := HBW.out; omega) HB.out.size
    by_cases hlt : k < s.size
    · have HT := Lib.hid (qt_take s k hlt)
      have hlen := qt_take_len s k
      obtain ⟨c, hc⟩ : ∃ c, s[k] = c := ⟨_, rfl⟩
      rw [hc] at HT
      have hcl := c.toNat_lt
      obtain ⟨l, hl⟩ : ∃ z, 34 :: (s.data.toList.take k).flatMap qtC = z := ⟨_, rfl⟩
      have hll : l.length ≤ 4 * s.size + 1 := by rw [← hl, List.length_cons]; omega
      have HL : Hid (34 :: (s.data.toList.take (k + 1)).flatMap qtC = l ++ qtC c) := Lib.hid (by rw [HT.out, ← hl]; rfl)
      have HQl : Hid (BqIs b u3 l wr) := Lib.hid (by have h := HQ.out; unfold BqQ at h; rw [hl] at h; exact h)
      have own : wr.ownsRow b 5 1 u3 l.length (Lib.byteCells l) := HQl.out
      clear HT hlen hl HQ
      by_cases h34 : c.toNat = 34 ∨ c.toNat = 92
      · have HC : Hid (l ++ qtC c = l ++ [92, c]) := Lib.hid (by
          have e : qtC c = [92, c] := by
            unfold qtC
            rw [if_pos (by rcases h34 with h | h; exact .inl (UInt8.toNat_inj.1 h); exact .inr (UInt8.toNat_inj.1 h))]
          rw [e])
        have hA34 : ((c.toNat : Int) == 34 || (c.toNat : Int) == 92) = true := by simp; omega
        obtain ⟨x1, hx1⟩ : ∃ x, ((c.toNat : Int) == 34) = x := ⟨_, rfl⟩
        obtain ⟨x2, hx2⟩ : ∃ x, ((c.toNat : Int) == 92) = x := ⟨_, rfl⟩
        rw [hx1, hx2] at hA34
        cases x1 with
        | true =>
          go_wp2_with (at_builtin; refine wpList_append_own _ rfl _ _ 117 rfl b 5 i0 (.int .u8 0) 1 1 Tryz.underlying117 hi hz0 hz1 hz2 rfl (by decide) _ _ _ rfl (own.alloc _) ⟨wr.heap.size, 0, none⟩ 2 2 [.int .u8 92, .int .u8 (c.toNat : Int)] rfl rfl ?c1 ?c2 ?c3 ?c4 ?c5 ?_)
          case c1 => exact cells_new wr #[.int .u8 92, .int .u8 (c.toNat : Int)] 5
          case c2 => simp [Value.oneCell']
          case c3 => unfold maxLen; omega
          case c4 => omega
          case c5 => simp; omega
          intro v' w2 own' hgrow _
          have HQ2 : Hid (BqQ b v' s (k + 1) w2) := Lib.hid (by unfold BqQ; rw [HL.out, HC.out]; exact BqIs.app own')
          have HB2 := Lib.hid ((HB.out.alloc (by have := HB.out.size; omega) _).grown hgrow (by have := HB.out.size; simp; omega) (fun q hq => (own.lt q hq).1))
          clear own' hgrow
          go_wp2_with fail
          go_roundw
          case rel => exact ⟨k + 1, by omega, by go_num, HQ2.out, HB2.out⟩
          case measure => simp [intOf]; omega
        | false =>
          obtain rfl : x2 = true := by simpa using hA34
          go_wp2_with (at_builtin; refine wpList_append_own _ rfl _ _ 117 rfl b 5 i0 (.int .u8 0) 1 1 Tryz.underlying117 hi hz0 hz1 hz2 rfl (by decide) _ _ _ rfl (own.alloc _) ⟨wr.heap.size, 0, none⟩ 2 2 [.int .u8 92, .int .u8 (c.toNat : Int)] rfl rfl ?c1 ?c2 ?c3 ?c4 ?c5 ?_)
          case c1 => exact cells_new wr #[.int .u8 92, .int .u8 (c.toNat : Int)] 5
          case c2 => simp [Value.oneCell']
          case c3 => unfold maxLen; omega
          case c4 => omega
          case c5 => simp; omega
          intro v' w2 own' hgrow _
          have HQ2 : Hid (BqQ b v' s (k + 1) w2) := Lib.hid (by unfold BqQ; rw [HL.out, HC.out]; exact BqIs.app own')
          have HB2 := Lib.hid ((HB.out.alloc (by have := HB.out.size; omega) _).grown hgrow (by have := HB.out.size; simp; omega) (fun q hq => (own.lt q hq).1))
          clear own' hgrow
          go_wp2_with fail
          go_roundw
          case rel => exact ⟨k + 1, by omega, by go_num, HQ2.out, HB2.out⟩
          case measure => simp [intOf]; omega
      · have hA34 : ((c.toNat : Int) == 34) = false := by simp; omega
        have hA92 : ((c.toNat : Int) == 92) = false := by simp; omega
        have hn34 : ¬ (c = 34 ∨ c = 92) := fun h => h34 (by rcases h with rfl | rfl; exact .inl rfl; exact .inr rfl)
        by_cases h10 : c.toNat = 10
        · have HC : Hid (l ++ qtC c = l ++ [92, 110]) := Lib.hid (by
            have e : qtC c = [92, 110] := by
              unfold qtC
              rw [if_neg hn34, if_pos (UInt8.toNat_inj.1 h10)]
            rw [e])
          have hA10 : ((c.toNat : Int) == 10) = true := by simp; omega
          clear hn34
          go_wp2_with (at_builtin; refine Lib.wpList_append_own_string _ rfl _ _ 117 9 rfl b 5 i0 Tryz.underlying117 Tryz.underlying9 hi hz0 hz1 hz2 _ _ _ rfl own ⟨#[92, 110]⟩ rfl ?c3 ?c4 ?c5 ?_)
          case c3 => rw [sz2]; unfold maxLen; omega
          case c4 => rw [sz2]; omega
          case c5 => exact hbz
          intro v' w2 own' hgrow _
          have HQ2 : Hid (BqQ b v' s (k + 1) w2) := Lib.hid (by unfold BqQ; rw [HL.out, HC.out]; exact BqIs.app own')
          have HB2 := Lib.hid (HB.out.grown hgrow (by have := HB.out.size; omega) (fun q hq => (own.lt q hq).1))
          clear own' hgrow
          go_wp2_with fail
          go_roundw
          case rel => exact ⟨k + 1, by omega, by go_num, HQ2.out, HB2.out⟩
          case measure => simp [intOf]; omega
        · have hA10 : ((c.toNat : Int) == 10) = false := by simp; omega
          have hn10 : c ≠ 10 := fun h => h10 (by rw [h]; rfl)
          by_cases hh : c.toNat < 33 ∨ 126 < c.toNat
          · obtain ⟨q, hq⟩ : ∃ q, c.toNat / 16 = q := ⟨_, rfl⟩
            obtain ⟨r, hr⟩ : ∃ q, c.toNat % 16 = q := ⟨_, rfl⟩
            have hq16 : q < 16 := by omega
            have hr16 : r < 16 := by omega
            have HC : Hid (l ++ qtC c = l ++ [92, 120, hexL.getD q 0, hexL.getD r 0]) := Lib.hid (by
              have e : qtC c = [92, 120, hexL.getD q 0, hexL.getD r 0] := by
                unfold qtC
                rw [if_neg hn34, if_neg hn10, if_pos hh, hq, hr]
              rw [e])
            have hqi : ((c.toNat : Int) / 16) = (q : Int) := by omega
            have hri : ((c.toNat : Int) % 16) = (r : Int) := by omega
            have hxq := hex_at hq16
            have hxr := hex_at hr16
            have HH : (decide ((c.toNat : Int) < 33) || decide ((126 : Int) < (c.toNat : Int))) = true := by simp; omega
            obtain ⟨x1, hx1⟩ : ∃ x, decide ((c.toNat : Int) < 33) = x := ⟨_, rfl⟩
            obtain ⟨x2, hx2⟩ : ∃ x, decide ((126 : Int) < (c.toNat : Int)) = x := ⟨_, rfl⟩
            rw [hx1, hx2] at HH
            clear hn34 hn10 hq hr
            cases x1 with
            | true =>
              go_upto_region 12 with (fail)
              refine wp_region_any (by kernel_rfl) ?_
              change wpAny _ _ _ _ _ _ _ (World.drew _)
              have ownd : wr.drew.ownsRow b 5 1 u3 l.length (Lib.byteCells l) := own
              have HBd : Hid (Below b w wr.drew) := Lib.hid (below_drewN HB.out 1)
              have hbd : b ≤ wr.drew.heap.size := hbz
              clear own HB HQl hbz
              generalize wr.drew = wd at *
              refine wpAny_take (i := 0) (oi := ⟨some 42, _, _, _, _, _⟩) (v := u3) rfl (by kernel_rfl) (by kernel_rfl) (by kernel_rfl) (fun _ _ _ h => h) (Or.inl ⟨by rfl, fun w => by go_simp⟩) ?_
              refine wpAny_take (i := 1) (oi := ⟨some 43, _, _, _, _, _⟩) (v := .int .u8 (c.toNat : Int)) rfl (by kernel_rfl) (by kernel_rfl) (by kernel_rfl) (fun _ _ _ h => h) (Or.inl ⟨by rfl, fun w => by go_simp⟩) ?_
              refine wpAny_take (i := 2) (oi := ⟨some 44, _, _, _, _, _⟩) (v := .int .u8 (q : Int)) rfl (by kernel_rfl) (by kernel_rfl) (by kernel_rfl) (fun _ _ _ h => h) (Or.inl ⟨by rfl, fun w => by go_simp; exact u8_in (by omega) (by omega)⟩) ?_
              refine wpAny_take (i := 3) (oi := ⟨some 45, _, _, _, _, _⟩) (v := .int .u8 ((hexL.getD q 0).toNat : Int)) rfl (by kernel_rfl) (by kernel_rfl) (by kernel_rfl) (fun _ _ _ h => h) (Or.inl ⟨by rfl, fun w => by go_simp; intro h; omega⟩) ?_
              refine wpAny_take (i := 4) (oi := ⟨some 46, _, _, _, _, _⟩) (v := .int .u8 (c.toNat : Int)) rfl (by kernel_rfl) (by kernel_rfl) (by kernel_rfl) (fun _ _ _ h => h) (Or.inl ⟨by rfl, fun w => by go_simp⟩) ?_
              refine wpAny_take (i := 5) (oi := ⟨some 47, _, _, _, _, _⟩) (v := .int .u8 (r : Int)) rfl (by kernel_rfl) (by kernel_rfl) (by kernel_rfl) (fun _ _ _ h => h) (Or.inl ⟨by rfl, fun w => by go_simp; rw [Int.tmod_eq_emod_of_nonneg (by omega)]; exact hri⟩) ?_
              refine wpAny_take (i := 6) (oi := ⟨some 48, _, _, _, _, _⟩) (v := .int .u8 ((hexL.getD r 0).toNat : Int)) rfl (by kernel_rfl) (by kernel_rfl) (by kernel_rfl) (fun _ _ _ h => h) (Or.inl ⟨by rfl, fun w => by go_simp; intro h; omega⟩) ?_
              refine wpAny_ready (rs := [7]) (by kernel_rfl) (by simp) ?_
              refine AllReady.cons rfl (fun K9 hK9 => ?_) AllReady.nil
              go_simp
              refine hK9 _ _ ?_
              clear hK9 K9
              have hcn := cells_new wd #[.int .u8 92, .int .u8 120, .int .u8 ((hexL.getD q 0).toNat : Int), .int .u8 ((hexL.getD r 0).toNat : Int)] 5
              refine wpAny_ready (rs := [8]) (by kernel_rfl) (by simp) ?_
              refine AllReady.cons rfl (fun K6 hK6 => ?_) AllReady.nil
              refine step_append_lies (o := ⟨some 50, _, _, _, _, _⟩) _ (by rfl) (.tmp 42) (.tmp 49) 117 (by rfl) b 5 i0 _ 1 1 Tryz.underlying117 hi hz0 hz1 hz2 rfl (by decide) u3 l.length _ (by kernel_rfl) (ownd.alloc _) ⟨wd.heap.size, 0, none⟩ 4 4 [.int .u8 92, .int .u8 120, .int .u8 ((hexL.getD q 0).toNat : Int), .int .u8 ((hexL.getD r 0).toNat : Int)] (by kernel_rfl) (by rfl) hcn (by simp [Value.oneCell']) (by decide) (by unfold maxLen; omega) (by omega) (by simp; omega) _ rfl ?_
              intro g cap w2 own' hgrow _ _
              have HQ2 : Hid (BqQ b (.slice (some ⟨g, 0, none⟩) (l.length + 4) cap) s (k + 1) w2) := Lib.hid (by unfold BqQ; rw [HL.out, HC.out]; exact BqIs.app own')
              have HB2 := Lib.hid ((HBd.out.alloc (by have := HBd.out.size; omega) _).grown hgrow (by have := HBd.out.size; simp; omega) (fun q hq => (ownd.lt q hq).1))
              refine hK6 _ _ ?_
              clear hK6 K6 own' hgrow ownd hcn
              refine wpAny_ready (rs := [9]) (by kernel_rfl) (by simp) ?_
              refine AllReady.cons rfl (fun K8 hK8 => ?_) AllReady.nil
              go_simp
              refine hK8 _ _ ?_
              clear hK8 K8
              refine wpAny_done (by kernel_rfl) ?_ _
              go_wp2_with fail
              go_roundw
              case rel => exact ⟨k + 1, by omega, by go_num, HQ2.out, HB2.out⟩
              case measure => simp [intOf]; omega
            | false =>
              obtain rfl : x2 = true := by simpa using HH
              go_upto_region 12 with (fail)
              refine wp_region_any (by kernel_rfl) ?_
              change wpAny _ _ _ _ _ _ _ (World.drew _)
              have ownd : wr.drew.ownsRow b 5 1 u3 l.length (Lib.byteCells l) := own
              have HBd : Hid (Below b w wr.drew) := Lib.hid (below_drewN HB.out 1)
              have hbd : b ≤ wr.drew.heap.size := hbz
              clear own HB HQl hbz
              generalize wr.drew = wd at *
              refine wpAny_take (i := 0) (oi := ⟨some 42, _, _, _, _, _⟩) (v := u3) rfl (by kernel_rfl) (by kernel_rfl) (by kernel_rfl) (fun _ _ _ h => h) (Or.inl ⟨by rfl, fun w => by go_simp⟩) ?_
              refine wpAny_take (i := 1) (oi := ⟨some 43, _, _, _, _, _⟩) (v := .int .u8 (c.toNat : Int)) rfl (by kernel_rfl) (by kernel_rfl) (by kernel_rfl) (fun _ _ _ h => h) (Or.inl ⟨by rfl, fun w => by go_simp⟩) ?_
              refine wpAny_take (i := 2) (oi := ⟨some 44, _, _, _, _, _⟩) (v := .int .u8 (q : Int)) rfl (by kernel_rfl) (by kernel_rfl) (by kernel_rfl) (fun _ _ _ h => h) (Or.inl ⟨by rfl, fun w => by go_simp; exact u8_in (by omega) (by omega)⟩) ?_
              refine wpAny_take (i := 3) (oi := ⟨some 45, _, _, _, _, _⟩) (v := .int .u8 ((hexL.getD q 0).toNat : Int)) rfl (by kernel_rfl) (by kernel_rfl) (by kernel_rfl) (fun _ _ _ h => h) (Or.inl ⟨by rfl, fun w => by go_simp; intro h; omega⟩) ?_
              refine wpAny_take (i := 4) (oi := ⟨some 46, _, _, _, _, _⟩) (v := .int .u8 (c.toNat : Int)) rfl (by kernel_rfl) (by kernel_rfl) (by kernel_rfl) (fun _ _ _ h => h) (Or.inl ⟨by rfl, fun w => by go_simp⟩) ?_
              refine wpAny_take (i := 5) (oi := ⟨some 47, _, _, _, _, _⟩) (v := .int .u8 (r : Int)) rfl (by kernel_rfl) (by kernel_rfl) (by kernel_rfl) (fun _ _ _ h => h) (Or.inl ⟨by rfl, fun w => by go_simp; rw [Int.tmod_eq_emod_of_nonneg (by omega)]; exact hri⟩) ?_
              refine wpAny_take (i := 6) (oi := ⟨some 48, _, _, _, _, _⟩) (v := .int .u8 ((hexL.getD r 0).toNat : Int)) rfl (by kernel_rfl) (by kernel_rfl) (by kernel_rfl) (fun _ _ _ h => h) (Or.inl ⟨by rfl, fun w => by go_simp; intro h; omega⟩) ?_
              refine wpAny_ready (rs := [7]) (by kernel_rfl) (by simp) ?_
              refine AllReady.cons rfl (fun K9 hK9 => ?_) AllReady.nil
              go_simp
              refine hK9 _ _ ?_
              clear hK9 K9
              have hcn := cells_new wd #[.int .u8 92, .int .u8 120, .int .u8 ((hexL.getD q 0).toNat : Int), .int .u8 ((hexL.getD r 0).toNat : Int)] 5
              refine wpAny_ready (rs := [8]) (by kernel_rfl) (by simp) ?_
              refine AllReady.cons rfl (fun K6 hK6 => ?_) AllReady.nil
              refine step_append_lies (o := ⟨some 50, _, _, _, _, _⟩) _ (by rfl) (.tmp 42) (.tmp 49) 117 (by rfl) b 5 i0 _ 1 1 Tryz.underlying117 hi hz0 hz1 hz2 rfl (by decide) u3 l.length _ (by kernel_rfl) (ownd.alloc _) ⟨wd.heap.size, 0, none⟩ 4 4 [.int .u8 92, .int .u8 120, .int .u8 ((hexL.getD q 0).toNat : Int), .int .u8 ((hexL.getD r 0).toNat : Int)] (by kernel_rfl) (by rfl) hcn (by simp [Value.oneCell']) (by decide) (by unfold maxLen; omega) (by omega) (by simp; omega) _ rfl ?_
              intro g cap w2 own' hgrow _ _
              have HQ2 : Hid (BqQ b (.slice (some ⟨g, 0, none⟩) (l.length + 4) cap) s (k + 1) w2) := Lib.hid (by unfold BqQ; rw [HL.out, HC.out]; exact BqIs.app own')
              have HB2 := Lib.hid ((HBd.out.alloc (by have := HBd.out.size; omega) _).grown hgrow (by have := HBd.out.size; simp; omega) (fun q hq => (ownd.lt q hq).1))
              refine hK6 _ _ ?_
              clear hK6 K6 own' hgrow ownd hcn
              refine wpAny_ready (rs := [9]) (by kernel_rfl) (by simp) ?_
              refine AllReady.cons rfl (fun K8 hK8 => ?_) AllReady.nil
              go_simp
              refine hK8 _ _ ?_
              clear hK8 K8
              refine wpAny_done (by kernel_rfl) ?_ _
              go_wp2_with fail
              go_roundw
              case rel => exact ⟨k + 1, by omega, by go_num, HQ2.out, HB2.out⟩
              case measure => simp [intOf]; omega
          · have hA1 : decide ((c.toNat : Int) < 33) = false := by simp; omega
            have hA2 : decide ((126 : Int) < (c.toNat : Int)) = false := by simp; omega
            have HC : Hid (l ++ qtC c = l ++ [c]) := Lib.hid (by
              have e : qtC c = [c] := by
                unfold qtC
                rw [if_neg hn34, if_neg hn10, if_neg hh]
              rw [e])
            clear hn34 hn10
            go_wp2_with (at_builtin; refine wpList_append_own _ rfl _ _ 117 rfl b 5 i0 (.int .u8 0) 1 1 Tryz.underlying117 hi hz0 hz1 hz2 rfl (by decide) _ _ _ rfl (own.alloc _) ⟨wr.heap.size, 0, none⟩ 1 1 [.int .u8 (c.toNat : Int)] rfl rfl ?c1 ?c2 ?c3 ?c4 ?c5 ?_)
            case c1 => exact cells_new wr #[.int .u8 (c.toNat : Int)] 5
            case c2 => simp [Value.oneCell']
            case c3 => unfold maxLen; omega
            case c4 => omega
            case c5 => simp; omega
            intro v' w2 own' hgrow _
            have HQ2 : Hid (BqQ b v' s (k + 1) w2) := Lib.hid (by unfold BqQ; rw [HL.out, HC.out]; exact BqIs.app own')
            have HB2 := Lib.hid ((HB.out.alloc (by have := HB.out.size; omega) _).grown hgrow (by have := HB.out.size; simp; omega) (fun q hq => (own.lt q hq).1))
            clear own' hgrow
            go_wp2_with fail
            go_roundw
            case rel => exact ⟨k + 1, by omega, by go_num, HQ2.out, HB2.out⟩
            case measure => simp [intOf]; omega
    · obtain rfl : k = s.size := by omega
      have hlen := fm_qt s.data.toList
      have e0 : s.data.toList.length = s.size := rfl
      have HQl : Hid (BqIs b u3 (34 :: s.data.toList.flatMap qtC) wr) := Lib.hid (by have h := HQ.out; unfold BqQ at h; rw [List.take_of_length_le (by rw [e0]; exact Nat.le_refl _)] at h; exact h)
      have own : wr.ownsRow b 5 1 u3 (34 :: s.data.toList.flatMap qtC).length (Lib.byteCells (34 :: s.data.toList.flatMap qtC)) := HQl.out
      have hl1 : (34 :: s.data.toList.flatMap qtC).length ≤ 4 * s.size + 1 := by rw [List.length_cons]; omega
      obtain ⟨l, hl⟩ : ∃ z, 34 :: s.data.toList.flatMap qtC = z := ⟨_, rfl⟩
      have HL := Lib.hid hl
      rw [hl] at own hl1
      clear HQ HQl hl hlen e0
      go_wp2_with (at_builtin; refine wpList_append_own _ rfl _ _ 117 rfl b 5 i0 (.int .u8 0) 1 1 Tryz.underlying117 hi hz0 hz1 hz2 rfl (by decide) _ _ _ rfl (own.alloc _) ⟨wr.heap.size, 0, none⟩ 1 1 [.int .u8 34] rfl rfl ?c1 ?c2 ?c3 ?c4 ?c5 ?_)
      case c1 => exact cells_new wr #[.int .u8 34] 5
      case c2 => simp [Value.oneCell']
      case c3 => unfold maxLen; omega
      case c4 => omega
      case c5 => simp; omega
      intro v' w2 own' hgrow _
      have hq : BqIs b v' (l ++ [34]) w2 := BqIs.app own'
      have HCV := bq_string hq
      have HB2 := Lib.hid ((HB.out.alloc (by have := HB.out.size; omega) _).grown hgrow (by have := HB.out.size; simp; omega) (fun q hq => (own.lt q hq).1))
      clear own' hgrow hq own
      go_wp2_with fail
      go_ret
      exact ⟨ret_strX (quB_eq s l HL.out.symm), by have h := HB2.out; rw [← HBW.out] at h; exact h⟩
end Go.Proofs.YtfdpfkdfglombaaGreatDoor
/- The text of a value: segment.valueText, person.ValueWord, handref1.valueText. -/
set_option linter.unusedVariables false
namespace Go.Proofs.YtfdpfkdfglombaaGreatDoor
open Go.RowKit

/-- what a right value is -/
theorem vl_right {v : Vl} (h : vlE v = 0) : (1 ≤ v.kind ∧ v.kind ≤ 4) ∧ (v.kind = 3 → v.num = 0 ∨ v.num = 1) ∧ v.text.size ≤ 200 := by
  unfold vlE at h
  split at h
  · cases h
  rename_i hk
  refine ⟨by omega, fun h3 => ?_, ?_⟩
  · rw [if_neg (by omega)] at h
    split at h
    · cases h
    split at h
    · cases h
    rename_i hn
    unfold loV hiV at hn
    rw [if_neg (by omega), if_neg (by omega), if_pos h3] at hn
    omega
  · split at h
    · split at h
      · cases h
      split at h
      · cases h
      · omega
    · split at h
      · cases h
      · omega
theorem vtB_size {v : Vl} (hok : v.ok) : (vtB v).size ≤ 4 * v.text.size + 22 := by
  have h1 := quB_size v.text
  have h2 := itB_size (n := v.num) hok.2.2
  unfold vtB
  split
  · omega
  · split
    · split
      · show 3 ≤ _; omega
      · show 2 ≤ _; omega
    · split
      · rw [ap_size]; show 1 + _ ≤ _; omega
      · omega

set_option maxHeartbeats 4000000 in
set_option maxRecDepth 100000 in
theorem ValueWord_any (v : Vl) (w : World) (hok : v.ok) (h3 : v.kind ≠ 3) (htab : P10x w) :
    Calls Tryz.prog 157 #[.agg #[.int .i64 v.kind, .string v.text, .int .i64 v.num]] w (TxtO w (vtB v)) := by
  have HR := Lib.hid (show vtB v = if v.kind = 1 then quB v.text else if v.kind = 3 then (if v.num = 1 then ⟨#[121, 101, 115]⟩ else ⟨#[110, 111]⟩) else if v.kind = 4 then ⟨#[64]⟩ ++ itB v.num else itB v.num from rfl)
  have CQ := Lib.hid (fun w => Quote_any v.text w (Nat.le_trans hok.2.1 (by decide)))
  have CI := Lib.hid (fun w h => itX_any v.num hok.2.2 w h)
  have hs := itB_size (n := v.num) hok.2.2
  generalize vtB v = R at *
  obtain ⟨kind, text, num⟩ := v
  simp only at *
  have HB := Lib.hid ((Below.refl w.heap.size w).alloc (Nat.le_refl _) (.cells #[.int .i64 kind, .string text, .int .i64 num] 72))
  have HP := Lib.hid (p10x_below htab HB.out)
  clear htab hok
  have hA3 : (kind == 3) = false := by simpa using h3
  by_cases h1 : kind = 1
  · have hA1 : (kind == 1) = true := by simpa using h1
    have HR1 := Lib.hid (HR.out.trans (if_pos h1))
    clear HR CI h1
    go_enter Tryz.func157, Tryz.ntmps157
    go_wp2_with fail
    ((with_reducible refine (CQ.out _).mono ?_); rintro e w1 ⟨rfl, hb⟩)
    have HB1 := Lib.hid (HB.out.trans (hb.mono HB.out.size))
    clear hb
    go_wp2_with fail
    go_ret
    exact ⟨ret_strX HR1.out.symm, HB1.out⟩
  · have hA1 : (kind == 1) = false := by simpa using h1
    have HR1 := Lib.hid ((HR.out.trans (if_neg h1)).trans (if_neg h3))
    clear HR CQ h1 h3
    by_cases h4 : kind = 4
    · have hA4 : (kind == 4) = true := by simpa using h4
      have HR2 := Lib.hid (HR1.out.trans (if_pos h4))
      clear HR1 h4
      go_enter Tryz.func157, Tryz.ntmps157
      go_wp2_with fail
      ((with_reducible refine (CI.out _ HP.out).mono ?_); rintro e w1 ⟨rfl, hb⟩)
      have HB1 := Lib.hid (HB.out.trans (hb.mono HB.out.size))
      clear hb
      go_wp2_with fail
      go_ret
      exact ⟨ret_strX HR2.out.symm, HB1.out⟩
    · have hA4 : (kind == 4) = false := by simpa using h4
      have HR2 := Lib.hid (HR1.out.trans (if_neg h4))
      clear HR1 h4
      go_enter Tryz.func157, Tryz.ntmps157
      go_wp2_with fail
      ((with_reducible refine (CI.out _ HP.out).mono ?_); rintro e w1 ⟨rfl, hb⟩)
      have HB1 := Lib.hid (HB.out.trans (hb.mono HB.out.size))
      clear hb
      go_wp2_with fail
      go_ret
      exact ⟨ret_strX HR2.out.symm, HB1.out⟩

set_option maxHeartbeats 4000000 in
set_option maxRecDepth 100000 in
theorem valueTextP_any (v : Vl) (w : World) (hok : v.ok) (htab : P10x w) :
    Calls Tryz.prog 91 #[.agg #[.int .i64 v.kind, .string v.text, .int .i64 v.num]] w (TxtO w (vtB v)) := by
  have HR := Lib.hid (show vtB v = if v.kind = 1 then quB v.text else if v.kind = 3 then (if v.num = 1 then ⟨#[121, 101, 115]⟩ else ⟨#[110, 111]⟩) else if v.kind = 4 then ⟨#[64]⟩ ++ itB v.num else itB v.num from rfl)
  have CV := Lib.hid (fun w h h2 => ValueWord_any v w hok h h2)
  generalize vtB v = R at *
  obtain ⟨kind, text, num⟩ := v
  simp only at *
  have HB := Lib.hid ((Below.refl w.heap.size w).alloc (Nat.le_refl _) (.cells #[.int .i64 kind, .string text, .int .i64 num] 72))
  have HP := Lib.hid (p10x_below htab HB.out)
  clear htab hok
  by_cases h3 : kind = 3
  · have hA3 : (kind == 3) = true := by simpa using h3
    have HR1 := Lib.hid ((HR.out.trans (if_neg (by omega))).trans (if_pos h3))
    clear HR CV h3
    by_cases h1 : num = 1
    · have hA1 : (num == 1) = true := by simpa using h1
      have HR2 := Lib.hid (HR1.out.trans (if_pos h1))
      clear HR1 h1
      go_enter Tryz.func91, Tryz.ntmps91
      go_wp2_with fail
      go_ret
      exact ⟨ret_strX HR2.out.symm, HB.out⟩
    · have hA1 : (num == 1) = false := by simpa using h1
      have HR2 := Lib.hid (HR1.out.trans (if_neg h1))
      clear HR1 h1
      go_enter Tryz.func91, Tryz.ntmps91
      go_wp2_with fail
      go_ret
      exact ⟨ret_strX HR2.out.symm, HB.out⟩
  · have hA3 : (kind == 3) = false := by simpa using h3
    have C1 := Lib.hid (fun w h2 => CV.out w h3 h2)
    clear HR CV h3
    go_enter Tryz.func91, Tryz.ntmps91
    go_wp2_with fail
    ((with_reducible refine (C1.out _ HP.out).mono ?_); rintro e w1 ⟨rfl, hb⟩)
    have HB1 := Lib.hid (HB.out.trans (hb.mono HB.out.size))
    clear hb
    go_wp2_with fail
    go_ret
    exact ⟨rfl, HB1.out⟩

set_option maxHeartbeats 4000000 in
set_option maxRecDepth 100000 in
theorem valueTextR_any (v : Vl) (w : World) (hok : v.ok) (hr : v.kind = 3 → v.num = 0 ∨ v.num = 1) (htab : P10x w) :
    Calls Tryz.prog 48 #[.agg #[.int .i64 v.kind, .string v.text, .int .i64 v.num]] w (TxtO w (vtB v)) := by
  have HR := Lib.hid (show vtB v = if v.kind = 1 then quB v.text else if v.kind = 3 then (if v.num = 1 then ⟨#[121, 101, 115]⟩ else ⟨#[110, 111]⟩) else if v.kind = 4 then ⟨#[64]⟩ ++ itB v.num else itB v.num from rfl)
  have CQ := Lib.hid (fun w => Quoted_any v.text w (Nat.le_trans hok.2.1 (by decide)))
  have CI := Lib.hid (fun w h => itX_any v.num hok.2.2 w h)
  have hs := itB_size (n := v.num) hok.2.2
  generalize vtB v = R at *
  obtain ⟨kind, text, num⟩ := v
  simp only at *
  have HB := Lib.hid ((Below.refl w.heap.size w).alloc (Nat.le_refl _) (.cells #[.int .i64 kind, .string text, .int .i64 num] 72))
  have HP := Lib.hid (p10x_below htab HB.out)
  clear htab hok
  by_cases h1 : kind = 1
  · have hA1 : (kind == 1) = true := by simpa using h1
    have HR1 := Lib.hid (HR.out.trans (if_pos h1))
    clear HR CI h1 hr
    go_enter Tryz.func48, Tryz.ntmps48
    go_wp2_with fail
    ((with_reducible refine (CQ.out _).mono ?_); rintro e w1 ⟨rfl, hb⟩)
    have HB1 := Lib.hid (HB.out.trans (hb.mono HB.out.size))
    clear hb
    go_wp2_with fail
    go_ret
    exact ⟨ret_strX HR1.out.symm, HB1.out⟩
  · have hA1 : (kind == 1) = false := by simpa using h1
    have HR1 := Lib.hid (HR.out.trans (if_neg h1))
    clear HR CQ h1
    by_cases h3 : kind = 3
    · have hA3 : (kind == 3) = true := by simpa using h3
      have HR2 := Lib.hid (HR1.out.trans (if_pos h3))
      have hn := hr h3
      clear HR1 h3 hr CI
      rcases hn with rfl | rfl
      · have HR3 := Lib.hid (HR2.out.trans (if_neg (by decide)))
        go_enter Tryz.func48, Tryz.ntmps48
        go_wp2_with fail
        go_ret
        exact ⟨ret_strX HR3.out.symm, HB.out.alloc HB.out.size _⟩
      · have HR3 := Lib.hid (HR2.out.trans (if_pos rfl))
        go_enter Tryz.func48, Tryz.ntmps48
        go_wp2_with fail
        go_ret
        exact ⟨ret_strX HR3.out.symm, HB.out.alloc HB.out.size _⟩
    · have hA3 : (kind == 3) = false := by simpa using h3
      have HR2 := Lib.hid (HR1.out.trans (if_neg h3))
      clear HR1 h3 hr
      by_cases h4 : kind = 4
      · have hA4 : (kind == 4) = true := by simpa using h4
        have HR3 := Lib.hid (HR2.out.trans (if_pos h4))
        clear HR2 h4
        go_enter Tryz.func48, Tryz.ntmps48
        go_wp2_with fail
        ((with_reducible refine (CI.out _ HP.out).mono ?_); rintro e w1 ⟨rfl, hb⟩)
        have HB1 := Lib.hid (HB.out.trans (hb.mono HB.out.size))
        clear hb
        go_wp2_with fail
        go_ret
        exact ⟨ret_strX HR3.out.symm, HB1.out⟩
      · have hA4 : (kind == 4) = false := by simpa using h4
        have HR3 := Lib.hid (HR2.out.trans (if_neg h4))
        clear HR2 h4
        go_enter Tryz.func48, Tryz.ntmps48
        go_wp2_with fail
        ((with_reducible refine (CI.out _ HP.out).mono ?_); rintro e w1 ⟨rfl, hb⟩)
        have HB1 := Lib.hid (HB.out.trans (hb.mono HB.out.size))
        clear hb
        go_wp2_with fail
        go_ret
        exact ⟨ret_strX HR3.out.symm, HB1.out⟩
end Go.Proofs.YtfdpfkdfglombaaGreatDoor
/- A map[int]string of one's own: a literal that is looked up; strings.Join at a row of one's own. -/
set_option linter.unusedVariables false
namespace Go.Proofs.YtfdpfkdfglombaaGreatDoor
open Go.RowKit Go.Maps

theorem key_intX : Keyed Tryz.prog 3 := int_keyed Tryz.underlying3
theorem zero_strX (w : World) : (zeroValue 9).run Tryz.prog w = .ok (.string ⟨#[]⟩) w := by kernel_rfl
theorem wf_i64X (n : Int) (h0 : -9223372036854775808 ≤ n) (h1 : n ≤ 9223372036854775807) : (Lit.int .i64 n).wf = true := by
  unfold Lit.wf
  rw [Bool.and_eq_true, decide_eq_true_eq, decide_eq_true_eq]
  exact ⟨h0, h1⟩
/-- what the map gives at k: the last pair's value -/
def imS (l : List (Int × ByteArray)) (k : Int) : ByteArray := l.foldl (fun c p => if p.1 = k then p.2 else c) ⟨#[]⟩
theorem imS_snoc (l : List (Int × ByteArray)) (i : Int) (v : ByteArray) (k : Int) : imS (l ++ [(i, v)]) k = if i = k then v else imS l k := by
  unfold imS
  rw [List.foldl_append]
  rfl
def IMs (w : World) (b n : Nat) (l : List (Int × ByteArray)) : Prop :=
  ∃ D : DataW Unit, w.ownsMap Tryz.prog 3 (plainElem Tryz.prog 9) b n D ∧ IsMap D ∧ ∀ k : Int, D.atKey (.int .i64 k) (.lit (.string [])) = .lit (.string (imS l k).data.toList)
theorem IMs.made (w : World) : IMs (w.alloc (.map #[] 0)) w.heap.size 0 [] :=
  ⟨.map [], World.ownsMap_made _ _ _ _, isMap_empty, fun s => rfl⟩
theorem wpList_lookup_ims {ops : Array Oper} {rest : List Oper} {o : Oper} {a : Act} {Q : Exit → Act → World → Prop} (w : World) (hg : o.guard = none) (m x : Operand) (hop : o.op = Op.lookup 172 m x false)
    (b n : Nat) (l : List (Int × ByteArray)) (hm : a.eval m = .map (some b)) (hs : IMs w b n l) (k : Int) (hx : a.eval x = .int .i64 k) (h0 : -9223372036854775808 ≤ k) (h1 : k ≤ 9223372036854775807) (r : ByteArray) (hr : imS l k = r)
    (hK : wpList Tryz.prog ops Q rest (a.put o.dst (.string r)) w) : wpList Tryz.prog ops Q (o :: rest) a w := by
  obtain ⟨D, hown, _, hat⟩ := hs
  refine wpList_plain hg fun K' hK' => ?_
  obtain ⟨v, ps, hrun, hv⟩ := hown.lookup key_intX Tryz.underlying172 (zero_strX w) (plainElem_string Tryz.underlying9 (by decide)) (keyOf_int_mk Tryz.underlying3 (wf_i64X k h0 h1))
  obtain ⟨s, rfl, h2, -⟩ := plainElem_string_inv Tryz.underlying9 hv
  have h3 := (hat k).symm.trans (congrArg Prod.fst h2)
  injection h3 with h3
  injection h3 with h3
  obtain rfl : s = r := by rw [← hr]; exact (ba_ext h3).symm
  unfold Oper.wp
  simp [execOp, hop, hm, hx, hrun, Result.andThen]
  exact hK' _ _ hK
theorem IMs.put {w' : World} {b n : Nat} {l : List (Int × ByteArray)} {D : DataW Unit} (hD : IsMap D) (hat : ∀ k : Int, D.atKey (.int .i64 k) (.lit (.string [])) = .lit (.string (imS l k).data.toList)) (k : Int) (z : ByteArray) (h4 : w'.ownsMap Tryz.prog 3 (plainElem Tryz.prog 9) b (n + 1) (D.put (.int .i64 k) (.lit (.string z.data.toList)))) : IMs w' b (n + 1) (l ++ [(k, z)]) := by
  refine ⟨_, h4, hD.put _ _, fun s => ?_⟩
  rw [imS_snoc]
  by_cases he : k = s
  · subst he
    rw [atKey_put_same hD (by unfold WideAt.IsKeyLit; trivial), if_pos rfl]
  · rw [atKey_put_other (by intro e; injection e with e1 e2; exact he e2.symm), hat s, if_neg he]
theorem wpList_insert_ims {ops : Array Oper} {rest : List Oper} {o : Oper} {a : Act} {Q : Exit → Act → World → Prop} (w : World) (hg : o.guard = none) (m x v : Operand) (hop : o.op = Op.insert 172 m x v)
    (b n : Nat) (l : List (Int × ByteArray)) (hm : a.eval m = .map (some b)) (hs : IMs w b n l) (hn : n < maxLen) (k : Int) (z : ByteArray) (hx : a.eval x = .int .i64 k) (hv : a.eval v = .string z) (h0 : -9223372036854775808 ≤ k) (h1 : k ≤ 9223372036854775807) (h2 : z.size ≤ maxLen)
    (hK : ∀ w', IMs w' b (n + 1) (l ++ [(k, z)]) → w.grownBy w' (some b) → wpList Tryz.prog ops Q rest (a.put o.dst undef) w') : wpList Tryz.prog ops Q (o :: rest) a w := by
  obtain ⟨D, hown, hD, hat⟩ := hs
  refine wpList_plain hg fun K' hK' => ?_
  obtain ⟨w', hrun, r1, r2⟩ := hown.update key_intX Tryz.underlying172 hn (keyOf_int_mk Tryz.underlying3 (wf_i64X k h0 h1)) (plainElem_string Tryz.underlying9 h2)
  unfold Oper.wp
  simp [execOp, hop, hm, hx, hv, hrun, Result.andThen]
  exact hK' _ _ (hK w' (IMs.put hD hat k z r1) r2)

/-! ### strings.Join at a row of one's own -/
theorem join_own (b0 : Nat) (v : Value) (l : List ByteArray) (sep : ByteArray) (w : World) (h : w.ownsRow b0 9 1 v l.length (l.map Value.string)) (hn : l.length ≤ 1000) (hs : (jn sep l).size ≤ 1000000000) :
    Calls Tryz.prog 47 #[v, .string sep] w (TxtO w (jn sep l)) := by
  have h2 := h
  rcases h2.2 with ⟨rfl, h0⟩ | ⟨g, cap, cur, rfl, hbg, hg, hnc, hcm, _⟩
  · have : l = [] := List.eq_nil_of_length_eq_zero h0
    subst this
    refine (Tryz.strings_Join_none none 0 sep w).mono ?_
    rintro e w' ⟨rfl, rfl⟩
    exact ⟨rfl, Below.refl _ _⟩
  · refine (Tryz.strings_Join g 0 cap l sep w (fun j x hx => ?_) (Array.getElem?_eq_some_iff.1 hg).1 (by omega) hnc ?_).mono ?_
    · obtain ⟨hj, rfl⟩ := List.getElem?_eq_some_iff.1 hx
      rw [Nat.zero_add, h.cellAt j (by omega), List.getElem?_map, List.getElem?_eq_getElem hj]
      rfl
    · have e : (jn sep l).size = (Lib.join (l.map (·.data.toList)) sep.data.toList).length := by
        show (Lib.join (l.map (·.data.toList)) sep.data.toList).toArray.size = _
        simp
      omega
    · rintro e w' ⟨rfl, hb⟩
      exact ⟨rfl, hb⟩
end Go.Proofs.YtfdpfkdfglombaaGreatDoor
