/- slices.BinarySearchFunc over cells, by their keys. -/
import Derived.Test.YtmhnnbffhciinaaDoorCheckCells
import Derived.Test.YtmhnnbffhciinaaDoorSortCe
import Derived.Deep.DeepCutAuto
set_option linter.unusedVariables false
namespace Go.Proofs.YtmhnnbffhciinaaDoor
open Go.RowKit

theorem foldOf1_any (x : Ce) (tv' : Option Addr) (ks' : List ByteArray) (n' tc' : Nat) (w : World) (h : StrsAt w x.tv x.keys) (h' : StrsAt w tv' ks') (hl : x.keys.length ≤ 1000) (hn : ks'.length = n') (hl' : n' ≤ 1000) :
    Calls Tryd.prog 33 #[.agg #[.slice x.tv x.keys.length x.tc, .int .i64 x.many, .int .i64 x.cents], .slice tv' n' tc'] w fun e w' => e = .returned (.int .i64 (cmpL x.keys ks')) ∧ Below w.heap.size w w' := by
  obtain ⟨tv, tc, ks, many, cents⟩ := x
  simp only at h hl ⊢
  have C := Lib.hid (fun w (h : StrsAt w tv ks) (h' : StrsAt w tv' ks') => compare_strs tv tv' ks ks' ks.length n' tc tc' w rfl hn hl hl' h h')
  generalize cmpL ks ks' = R at *
  obtain ⟨n, hn2⟩ : ∃ n, ks.length = n := ⟨_, rfl⟩
  rw [hn2] at C ⊢
  have HT1 := Lib.hid (h.below ((Below.refl _ _).alloc (Nat.le_refl _) (.cells #[.slice tv n tc, .int .i64 many, .int .i64 cents] 44)))
  have HT2 := Lib.hid (h'.below ((Below.refl _ _).alloc (Nat.le_refl _) (.cells #[.slice tv n tc, .int .i64 many, .int .i64 cents] 44)))
  clear h h' hl hl' hn hn2
  go_enter Tryd.func33, Tryd.ntmps33
  go_wp2_with fail
  with_reducible refine (C.out _ HT1.out HT2.out).mono ?_
  rintro e w1 ⟨rfl, rfl⟩
  go_wp2_with fail
  go_ret
  exact ⟨rfl, (Below.refl _ _).alloc (Nat.le_refl _) _⟩

/-- the keys are there -/
def fndB (o : List Ce) (ks : List ByteArray) (i : Nat) : Bool := decide (i < o.length) && decide (cmpL (o.getD i ⟨none, 0, [], 0, 0⟩).keys ks = 0)
def LoQ (o : List Ce) (ks : List ByteArray) (i : Nat) : Prop := ∀ t (ht : t < o.length), t < i → cmpL o[t].keys ks < 0
def HiQ (o : List Ce) (ks : List ByteArray) (j : Nat) : Prop := ∀ t (ht : t < o.length), j ≤ t → ¬ cmpL o[t].keys ks < 0
/-- what a search gives -/
def SearchOut (o : List Ce) (ks : List ByteArray) (w : World) (e : Ending) (w' : World) : Prop := ∃ i : Nat, plF cmpL ks (o.map Ce.el) = i ∧ i ≤ o.length ∧ e = .returned (.tuple #[.int .i64 i, .bool (fndB o ks i)]) ∧ Below w.heap.size w w'
theorem SearchOut.mk {o : List Ce} {ks : List ByteArray} {w w' : World} {i n : Nat} {b : Bool} (h : plF cmpL ks (o.map Ce.el) = i) (hn : o.length = n) (hi : i ≤ n) (hb : fndB o ks i = b) (hw : Below w.heap.size w w') : SearchOut o ks w (.returned (.tuple #[.int .i64 i, .bool b])) w' := ⟨i, h, by omega, by rw [hb], hw⟩
set_option maxRecDepth 100000 in
set_option maxHeartbeats 8000000 in
theorem search_ce (a : Option Addr) (o : List Ce) (n c : Nat) (tv : Option Addr) (ks : List ByteArray) (nk tc : Nat) (w : World) (hn : o.length = n) (hn1 : n ≤ 1000) (hI : RAt w a 3 Ce.cells o) (hT : TagsAt Ce.tv Ce.keys w o) (hok : ∀ x ∈ o, x.keys.length ≤ 1000) (hK : StrsAt w tv ks) (hnk : ks.length = nk) (hnk1 : nk ≤ 1000) (hs : (o.map Ce.el).Pairwise fun y z => cmpL y.1 z.1 < 0) :
    Calls Tryd.prog 32 #[.slice a n c, .slice tv nk tc, .func (.func 33) #[] #[]] w (SearchOut o ks w) := by
  have HN := Lib.hid hn
  have HI := Lib.hid hI
  have HT := Lib.hid hT
  have HOK := Lib.hid hok
  have HK := Lib.hid hK
  have HNK := Lib.hid hnk
  have HS := Lib.hid hs
  clear hn hI hT hok hK hnk hs
  go_enter Tryd.func32, Tryd.ntmps32
  go_wp2_with fail
  go_loopw [9, 10, 11] (fun u v _ wr => ∃ (i j : Nat), i ≤ j ∧ j ≤ n ∧ u = .int .i64 i ∧ v = .int .i64 j ∧ Below w.heap.size w wr ∧ Hid (LoQ o ks i) ∧ Hid (HiQ o ks j)) (fun u v _ _ => (intOf v).toNat - (intOf u).toNat)
  case atStart => exact ⟨0, n, Nat.zero_le _, Nat.le_refl _, rfl, rfl, Below.refl _ _, Lib.hid (fun t ht h => by omega), Lib.hid (fun t ht h => by have := HN.out; omega)⟩
  case round =>
    obtain ⟨i, j, hij, hjn, rfl, rfl, hB, H1, H2⟩ := hrel
    by_cases hlt : i < j
    · obtain ⟨m, hm⟩ : ∃ m, (i + j) / 2 = m := ⟨_, rfl⟩
      have hmi : i ≤ m := by omega
      have hmj : m < j := by omega
      have hmn : m < n := by omega
      have hkl : m < o.length := by have := HN.out; omega
      have hq : ((i : Int) + (j : Int)) / 2 = (m : Int) := by omega
      obtain ⟨p, off, rfl, hp, c0, c1, c2⟩ := (HI.out.below hB).at3 hkl (v0 := .slice o[m].tv o[m].keys.length o[m].tc) (v1 := .int .i64 o[m].many) (v2 := .int .i64 o[m].cents) rfl
      have C := Lib.hid (foldOf1_any o[m] tv ks nk tc wr ((HT.out.below hB) o[m] (List.getElem_mem hkl)) (HK.out.below hB) (HOK.out _ (List.getElem_mem hkl)) HNK.out hnk1)
      have hml : m < (o.map Ce.el).length := by simpa using hkl
      have HLO := Lib.hid (fun h : cmpL o[m].keys ks < 0 => show LoQ o ks (m + 1) from fun t ht htm => by
        have := half_lo cmpL_tot HS.out hml (k := ks) (by simpa [Ce.el] using h) t (by simpa using ht) htm
        simpa [Ce.el] using this)
      have HHI := Lib.hid (fun h : ¬ cmpL o[m].keys ks < 0 => show HiQ o ks m from fun t ht htm => by
        have := half_hi cmpL_tot HS.out hml (k := ks) (by simpa [Ce.el] using h) t (by simpa using ht) htm
        simpa [Ce.el] using this)
      generalize o[m] = x at *
      obtain ⟨tv1, tc1, ks1, many, cents⟩ := x
      simp only at c0 c1 c2 C HLO HHI
      generalize cmpL ks1 ks = v at *
      clear hm hml
      by_cases hv : v < 0
      · have HLO1 := Lib.hid (HLO.out hv)
        clear HLO HHI
        go_wp2_with fail
        clear hq
        with_reducible refine C.out.mono ?_
        rintro e w1 ⟨rfl, b1⟩
        have HB1 := Lib.hid (hB.trans (b1.mono hB.size))
        go_wp2_with fail
        go_roundw
        case rel => exact ⟨m + 1, j, by omega, by omega, by go_num, rfl, HB1.out, HLO1, H2⟩
        case measure => simp [intOf]; omega
      · have HHI1 := Lib.hid (HHI.out hv)
        clear HLO HHI
        go_wp2_with fail
        clear hq
        with_reducible refine C.out.mono ?_
        rintro e w1 ⟨rfl, b1⟩
        have HB1 := Lib.hid (hB.trans (b1.mono hB.size))
        go_wp2_with fail
        go_roundw
        case rel => exact ⟨i, m, by omega, by omega, rfl, rfl, HB1.out, H1, HHI1⟩
        case measure => simp [intOf]; omega
    · obtain rfl : i = j := by omega
      have HP := Lib.hid (plF_eq ks (o.map Ce.el) i (by have := HN.out; simp; omega) (fun t h ht => by have := H1.out t (by simpa using h) ht; simpa [Ce.el] using this) (fun h => by have := H2.out i (by simpa using h) (Nat.le_refl _); simpa [Ce.el] using this))
      by_cases hin : i < n
      · have hkl : i < o.length := by have := HN.out; omega
        obtain ⟨p, off, rfl, hp, c0, c1, c2⟩ := (HI.out.below hB).at3 hkl (v0 := .slice o[i].tv o[i].keys.length o[i].tc) (v1 := .int .i64 o[i].many) (v2 := .int .i64 o[i].cents) rfl
        have C := Lib.hid (foldOf1_any o[i] tv ks nk tc wr ((HT.out.below hB) o[i] (List.getElem_mem hkl)) (HK.out.below hB) (HOK.out _ (List.getElem_mem hkl)) HNK.out hnk1)
        have HF := Lib.hid (show fndB o ks i = decide (cmpL o[i].keys ks = 0) by
          unfold fndB
          rw [decide_eq_true hkl, Bool.true_and, List.getD_eq_getElem?_getD, List.getElem?_eq_getElem hkl]
          rfl)
        generalize o[i] = x at *
        obtain ⟨tv1, tc1, ks1, many, cents⟩ := x
        simp only at c0 c1 c2 C HF
        generalize cmpL ks1 ks = v at *
        by_cases hv : v = 0
        · subst hv
          have HF1 := Lib.hid (HF.out.trans (decide_eq_true rfl))
          clear HF
          go_wp2_with fail
          with_reducible refine C.out.mono ?_
          rintro e w1 ⟨rfl, b1⟩
          have HB1 := Lib.hid (hB.trans (b1.mono hB.size))
          go_wp2_with fail
          go_ret2
          exact SearchOut.mk HP.out HN.out (by omega) HF1.out HB1.out
        · have HF1 := Lib.hid (HF.out.trans (decide_eq_false hv))
          have hA : (v == 0) = false := by simpa using hv
          clear HF
          go_wp2_with fail
          with_reducible refine C.out.mono ?_
          rintro e w1 ⟨rfl, b1⟩
          have HB1 := Lib.hid (hB.trans (b1.mono hB.size))
          go_wp2_with fail
          go_ret2
          exact SearchOut.mk HP.out HN.out (by omega) HF1.out HB1.out
      · have HF1 := Lib.hid (show fndB o ks i = false by
          unfold fndB
          rw [decide_eq_false (by have := HN.out; omega), Bool.false_and])
        go_wp2_with fail
        go_ret2
        exact SearchOut.mk HP.out HN.out (by omega) HF1.out hB
end Go.Proofs.YtmhnnbffhciinaaDoor
