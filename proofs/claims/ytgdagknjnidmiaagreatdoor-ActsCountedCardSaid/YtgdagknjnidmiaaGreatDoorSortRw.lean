/- slices.SortFunc at rows (printed by gen_rw.py). -/
import Derived.Test.YtgdagknjnidmiaaGreatDoorSortK
import Derived.Test.YtgdagknjnidmiaaGreatDoorActP
import Derived.Test.YtgdagknjnidmiaaGreatDoorStPerm
import Derived.Test.YtgdagknjnidmiaaGreatDoorShelf
import Derived.Maps.OwnOps
import Derived.Deep.Cut
set_option linter.unusedVariables false
namespace Go.Proofs.YtgdagknjnidmiaaGreatDoor
open Go.RowKit Go.Shelf Go.Lib Go.Sort

def cmpRW (x y : Rw) : Int := cmpB x.letter y.letter
def srtW (l : List Rw) : List Rw := (Sort.insertionSort (ltOf cmpRW) l.toArray 0 l.length).toList
theorem srtW_len (l : List Rw) : (srtW l).length = l.length := by
  have h := ins_pm (ltOf cmpRW) l.toArray 0 l.length (by simp)
  unfold Pm at h
  exact h.length_eq
theorem srtW_isort (l : List Rw) : srtW l = isort cmpB Rw.letter l := rfl
theorem compareBytes_cmpRW (a b : ByteArray) : Lib.compareBytes a.data.toList b.data.toList = cmpB a b := by
  rw [← Lib.toList_data, ← Lib.toList_data]
  unfold cmpB
  generalize a.toList = x
  generalize b.toList = y
  induction x generalizing y with
  | nil => cases y <;> simp [Lib.compareBytes, lexC]
  | cons c x ih =>
    cases y with
    | nil => simp [Lib.compareBytes, lexC]
    | cons e y =>
      simp only [Lib.compareBytes, lexC, ih]
      unfold cmpU
      by_cases h1 : c < e
      · simp [h1]
      · by_cases h2 : e < c
        · have h3 : ¬ c = e := by intro e3; subst e3; exact h1 h2
          simp [h1, h2, h3]
        · have h3 : c = e := UInt8.le_antisymm (UInt8.not_lt.1 h2) (UInt8.not_lt.1 h1)
          subst h3
          simp [h1]
theorem strCompareW (a b : ByteArray) (w : World) : Calls Tryz.prog 43 #[.string a, .string b] w fun e w' => e = .returned (.int .i64 (cmpB a b)) ∧ w = w' := by
  rw [← compareBytes_cmpRW]
  refine (Tryz.strings_Compare a b w).mono ?_
  rintro e w' ⟨rfl, rfl⟩
  exact ⟨rfl, rfl⟩
set_option maxHeartbeats 4000000 in
theorem cmpRw_any (x y : Rw) (w : World) :
    Calls Tryz.prog 42 #[.agg x.cells.toArray, .agg y.cells.toArray] w fun e w' => e = .returned (.int .i64 (cmpRW x y)) ∧ ∃ q os, w' = grow (w.drewN q) os := by
  obtain ⟨s0, f0⟩ := x
  obtain ⟨s1, f1⟩ := y
  rw [show (Rw.cells ⟨s0, f0⟩).toArray = #[.string s0, .int .i64 (f0 1 : Int), .int .i64 (f0 2 : Int), .int .i64 (f0 3 : Int), .int .i64 (f0 4 : Int), .int .i64 (f0 5 : Int)] from rfl, show (Rw.cells ⟨s1, f1⟩).toArray = #[.string s1, .int .i64 (f1 1 : Int), .int .i64 (f1 2 : Int), .int .i64 (f1 3 : Int), .int .i64 (f1 4 : Int), .int .i64 (f1 5 : Int)] from rfl, show cmpRW ⟨s0, f0⟩ ⟨s1, f1⟩ = cmpB s0 s1 from rfl]
  obtain ⟨w2, hw2⟩ : ∃ w2, (w.alloc (.cells #[.string s0, .int .i64 (f0 1 : Int), .int .i64 (f0 2 : Int), .int .i64 (f0 3 : Int), .int .i64 (f0 4 : Int), .int .i64 (f0 5 : Int)] 37)).alloc (.cells #[.string s1, .int .i64 (f1 1 : Int), .int .i64 (f1 2 : Int), .int .i64 (f1 3 : Int), .int .i64 (f1 4 : Int), .int .i64 (f1 5 : Int)] 37) = w2 := ⟨_, rfl⟩
  have HG : ∃ q os, w2 = grow (w.drewN q) os := ⟨0, #[_, _], by rw [← hw2, World.drewN_zero, alloc_eq_grow, alloc_eq_grow, grow_grow]; rfl⟩
  have X := (XB.new w [.string s0, .int .i64 (f0 1 : Int), .int .i64 (f0 2 : Int), .int .i64 (f0 3 : Int), .int .i64 (f0 4 : Int), .int .i64 (f0 5 : Int)] 37).alloc (.cells #[.string s1, .int .i64 (f1 1 : Int), .int .i64 (f1 2 : Int), .int .i64 (f1 3 : Int), .int .i64 (f1 4 : Int), .int .i64 (f1 5 : Int)] 37)
  have Y := XB.new (w.alloc (.cells #[.string s0, .int .i64 (f0 1 : Int), .int .i64 (f0 2 : Int), .int .i64 (f0 3 : Int), .int .i64 (f0 4 : Int), .int .i64 (f0 5 : Int)] 37)) [.string s1, .int .i64 (f1 1 : Int), .int .i64 (f1 2 : Int), .int .i64 (f1 3 : Int), .int .i64 (f1 4 : Int), .int .i64 (f1 5 : Int)] 37
  simp only [List.toArray] at X Y
  rw [show (w.alloc (.cells #[.string s0, .int .i64 (f0 1 : Int), .int .i64 (f0 2 : Int), .int .i64 (f0 3 : Int), .int .i64 (f0 4 : Int), .int .i64 (f0 5 : Int)] 37)).heap.size = w.heap.size + 1 by simp] at Y
  rw [hw2] at X Y
  have x0 := X.2 0 _ rfl
  have y0 := Y.2 0 _ rfl
  clear X Y
  go_enter Tryz.func42, Tryz.ntmps42
  go_upto_region 1 with (fail)
  clear hw2
  go_wp2_with fail
  with_reducible refine (strCompareW _ _ _).mono ?_
  rintro e w' ⟨rfl, rfl⟩
  go_wp2_with fail
  go_ret
  exact ⟨rfl, HG⟩
def rwRen : Go.Shelf.Ren := ⟨fun | 20 => 94 | n => n, fun | 22 => 31 | 24 => 37 | 25 => 89 | n => n, fun | n => n⟩
theorem lays_rw : Go.Proofs.SlLaysF0.n20 Tryz.prog rwRen := {
  mixed := by kernel_rfl
  f20 := ⟨"slices.insertionSortCmpFunc[handbill/api.Row]", by decide, Tryz.func94.trans (congrArg some (by kernel_rfl))⟩
  t0 := Tryz.underlying0
  a0 := Tryz.isAgg0
  z0 := Tryz.sizeOf0
  v0 := Tryz.zeroValue0
  t3 := Tryz.underlying3
  a3 := Tryz.isAgg3
  z3 := Tryz.sizeOf3
  v3 := Tryz.zeroValue3
  t4 := Tryz.underlying4
  a4 := Tryz.isAgg4
  z4 := Tryz.sizeOf4
  v4 := Tryz.zeroValue4
  t22 := Tryz.underlying31
  a22 := Tryz.isAgg31
  z22 := Tryz.sizeOf31
  v22 := Tryz.zeroValue31
  t25 := Tryz.underlying89
  a25 := Tryz.isAgg89
  z25 := Tryz.sizeOf89
  v25 := Tryz.zeroValue89 }
/-- what a sort of rows leaves -/
def SrtRwOut (b0 : Nat) (w : World) (v : Value) (l : List Rw) (e : Ending) (w' : World) : Prop := e = .returned (.tuple #[]) ∧ w'.ownsRow b0 37 6 v l.length ((srtW l).flatMap Rw.cells) ∧ w.grownBy w' v.ownBlock
theorem insRw_nil (w : World) (c : FuncId) : Calls Tryz.prog 94 #[.slice none 0 0, .int .i64 0, .int .i64 0, .func (.func c) #[] #[]] w fun e w' => e = .returned (.tuple #[]) ∧ w = w' := by
  go_enter Tryz.func94, Tryz.ntmps94
  go_wp2_with fail
  refine wp_loop_rounds 1 ?_
  rw [rounds_succ]
  go_wp2
  go_end0
  exact ⟨rfl, rfl⟩

theorem insRw_some (w : World) (g n cap : Nat) (d : Array Rw) (hH : HoldsK Rw.cells 6 w g 0 d) (hg : g < w.heap.size) (hn : d.size = n) (hn1 : n < 1000) :
    Calls Tryz.prog 94 #[.slice (some ⟨g, 0, none⟩) n cap, .int .i64 0, .int .i64 n, .func (.func 42) #[] #[]] w fun e w' =>
      e = .returned (.tuple #[]) ∧ ∃ m os, w' = sortWorldK Rw.cells 6 w g 0 m (Sort.insertionSort (ltOf cmpRW) d 0 n) os := by
  subst hn
  have := AnyQ.insertionSortCmpFunc lays_rw 6 (fun w => by kernel_rfl) (fun w => by kernel_rfl) Rw.cells (fun x => rfl) (fun x v hv => by
      simp only [Rw.cells, List.mem_cons, List.mem_nil_iff, or_false] at hv
      rcases hv with rfl | rfl | rfl | rfl | rfl | rfl <;> rfl) cmpRW 42 #[] g 0 cap 0 d.size d w (enters_of Tryz.func42 (by kernel_rfl) rfl) (by
      intro m os dk hdk x y
      refine (cmpRw_any x y _).mono ?_
      rintro e w' ⟨rfl, q, os2, rfl⟩
      exact ⟨rfl, q, os2, rfl⟩) hH hg (Nat.zero_le _) (Nat.le_refl _) (by omega)
  exact this
theorem insRw_any (b0 : Nat) (w : World) (a : Option Addr) (n c : Nat) (l : List Rw) (own : w.ownsRow b0 37 6 (.slice a n c) n (l.flatMap Rw.cells)) (hn : l.length = n) (hn1 : n < 1000) :
    Calls Tryz.prog 94 #[.slice a n c, .int .i64 0, .int .i64 n, .func (.func 42) #[] #[]] w (SrtRwOut b0 w (.slice a n c) l) := by
  subst hn
  rcases own.2 with ⟨e, h0⟩ | ⟨g, cap, cur, e, hb, hg, hnc, hcm, hs, ht⟩
  · injection e with e1 e2 e3
    subst e1 e3
    obtain rfl := List.eq_nil_of_length_eq_zero h0
    refine (insRw_nil w _).mono ?_
    rintro e w' ⟨rfl, rfl⟩
    exact ⟨rfl, (by rw [show srtW [] = [] from List.eq_nil_of_length_eq_zero (srtW_len [])]; exact own), ⟨rfl, rfl, rfl, Nat.le_refl _, fun _ _ _ => rfl⟩⟩
  · injection e with e1 e2 e3
    subst e1 e3
    have hH := rowK_holds Rw.cells 6 w g l.toArray (n := l.length) (t := 37) (b0 := b0) (cap := c) (by simpa using own) (fun _ => rfl) (by omega) (by simp)
    have hlt := (Array.getElem?_eq_some_iff.1 hg).1
    refine (insRw_some w g l.length c l.toArray hH hlt (by simp) hn1).mono ?_
    rintro e w' ⟨rfl, m, os, rfl⟩
    have hrow := sortK_row Rw.cells 6 w g m (Sort.insertionSort (ltOf cmpRW) l.toArray 0 l.length) os own (fun _ => rfl) (by omega) (by
      have := srtW_len l
      unfold srtW at this
      simpa using this)
    exact ⟨rfl, hrow, sortK_grown Rw.cells 6 w g m (Sort.insertionSort (ltOf cmpRW) l.toArray 0 l.length) os⟩
set_option maxRecDepth 100000 in
theorem sortRw_any (b0 : Nat) (w : World) (a : Option Addr) (n c : Nat) (l : List Rw) (own : w.ownsRow b0 37 6 (.slice a n c) n (l.flatMap Rw.cells)) (hn : l.length = n) (hn1 : n ≤ 12) :
    Calls Tryz.prog 41 #[.slice a n c, .func (.func 42) #[] #[]] w (SrtRwOut b0 w (.slice a n c) l) := by
  have C := Lib.hid (insRw_any b0 w a n c l own hn (by omega))
  have C2 := Lib.hid (Tryz.bits_Len n w (by omega) (by omega))
  clear own hn
  have CS : ∀ z : Int, Calls Tryz.prog 69 #[.slice a n c, .int .i64 0, .int .i64 n, .int .i64 z, .func (.func 42) #[] #[]] w (SrtRwOut b0 w (.slice a n c) l) := by
    intro z
    go_enter Tryz.func69, Tryz.ntmps69
    go_wp2_with fail
    refine wp_loop_rounds 1 ?_
    rw [rounds_succ]
    go_wp2_with fail
    with_reducible refine C.out.mono ?_
    rintro e w' hS
    have HS := Lib.hid hS
    obtain ⟨rfl, -⟩ := hS
    go_wp2
    refine bodyPost_ret (results_none rfl _ _ _) rfl ?_
    exact HS.out
  have CS' := Lib.hid CS
  clear CS C
  go_enter Tryz.func41, Tryz.ntmps41
  go_wp2_with fail
  with_reducible refine C2.out.mono ?_
  rintro e w' ⟨rfl, hw⟩
  rw [hw]
  clear hw w'
  go_wp2_with fail
  with_reducible refine (CS'.out _).mono ?_
  rintro e w' hS
  have HS := Lib.hid hS
  obtain ⟨rfl, -⟩ := hS
  go_wp2
  go_end0
  exact HS.out

end Go.Proofs.YtgdagknjnidmiaaGreatDoor
