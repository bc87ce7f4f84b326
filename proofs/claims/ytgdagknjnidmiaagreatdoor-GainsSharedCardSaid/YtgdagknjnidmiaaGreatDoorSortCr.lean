/- slices.SortFunc at credits (printed by gen_sortcr.py). -/
import Derived.Test.YtgdagknjnidmiaaGreatDoorSortK
import Derived.Test.YtgdagknjnidmiaaGreatDoorM3
import Derived.Test.YtgdagknjnidmiaaGreatDoorStPerm
import Derived.Test.YtgdagknjnidmiaaGreatDoorShelf
import Derived.Maps.OwnOps
import Derived.Deep.Cut
set_option linter.unusedVariables false
namespace Go.Proofs.YtgdagknjnidmiaaGreatDoor
open Go.RowKit Go.Shelf Go.Lib Go.Sort

def cmpC (x y : Cdt) : Int := cmpB x.letter y.letter
def srtC (l : List Cdt) : List Cdt := (Sort.insertionSort (ltOf cmpC) l.toArray 0 l.length).toList
theorem srtC_len (l : List Cdt) : (srtC l).length = l.length := by
  have h := ins_pm (ltOf cmpC) l.toArray 0 l.length (by simp)
  unfold Pm at h
  exact h.length_eq
theorem srtC_isort (l : List Cdt) : srtC l = isort cmpB Cdt.letter l := rfl
theorem compareBytes_cmpC (a b : ByteArray) : Lib.compareBytes a.data.toList b.data.toList = cmpB a b := by
  rw [← Lib.toList_data, ← Lib.toList_data]
  unfold cmpB
  generalize a.toList = x
  generalize b.toList = y
  induction x generalizing y with
  | nil => cases y <;> simp [Lib.compareBytes, lexC]
  | cons c x ih =>
    cases y with
    | nil => simp [Lib.compareBytes, lexC]
    | cons e y =>
      simp only [Lib.compareBytes, lexC, ih]
      unfold cmpU
      by_cases h1 : c < e
      · simp [h1]
      · by_cases h2 : e < c
        · have h3 : ¬ c = e := by intro e3; subst e3; exact h1 h2
          simp [h1, h2, h3]
        · have h3 : c = e := UInt8.le_antisymm (UInt8.not_lt.1 h2) (UInt8.not_lt.1 h1)
          subst h3
          simp [h1]
theorem strCompareC (a b : ByteArray) (w : World) : Calls Tryz.prog 43 #[.string a, .string b] w fun e w' => e = .returned (.int .i64 (cmpB a b)) ∧ w = w' := by
  rw [← compareBytes_cmpC]
  refine (Tryz.strings_Compare a b w).mono ?_
  rintro e w' ⟨rfl, rfl⟩
  exact ⟨rfl, rfl⟩
set_option maxHeartbeats 4000000 in
theorem cmpCr_any (x y : Cdt) (w : World) :
    Calls Tryz.prog 59 #[.agg x.cells.toArray, .agg y.cells.toArray] w fun e w' => e = .returned (.int .i64 (cmpC x y)) ∧ ∃ q os, w' = grow (w.drewN q) os := by
  obtain ⟨s0, c0, g0⟩ := x
  obtain ⟨s1, c1, g1⟩ := y
  rw [show (Cdt.cells ⟨s0, c0, g0⟩).toArray = #[.string s0, .int .i64 (g0 : Int), .int .i64 (c0 : Int)] from rfl, show (Cdt.cells ⟨s1, c1, g1⟩).toArray = #[.string s1, .int .i64 (g1 : Int), .int .i64 (c1 : Int)] from rfl, show cmpC ⟨s0, c0, g0⟩ ⟨s1, c1, g1⟩ = cmpB s0 s1 from rfl]
  obtain ⟨w2, hw2⟩ : ∃ w2, (w.alloc (.cells #[.string s0, .int .i64 (g0 : Int), .int .i64 (c0 : Int)] 58)).alloc (.cells #[.string s1, .int .i64 (g1 : Int), .int .i64 (c1 : Int)] 58) = w2 := ⟨_, rfl⟩
  have HG : ∃ q os, w2 = grow (w.drewN q) os := ⟨0, #[_, _], by rw [← hw2, World.drewN_zero, alloc_eq_grow, alloc_eq_grow, grow_grow]; rfl⟩
  have X := (XB.new w [.string s0, .int .i64 (g0 : Int), .int .i64 (c0 : Int)] 58).alloc (.cells #[.string s1, .int .i64 (g1 : Int), .int .i64 (c1 : Int)] 58)
  have Y := XB.new (w.alloc (.cells #[.string s0, .int .i64 (g0 : Int), .int .i64 (c0 : Int)] 58)) [.string s1, .int .i64 (g1 : Int), .int .i64 (c1 : Int)] 58
  simp only [List.toArray] at X Y
  rw [show (w.alloc (.cells #[.string s0, .int .i64 (g0 : Int), .int .i64 (c0 : Int)] 58)).heap.size = w.heap.size + 1 by simp] at Y
  rw [hw2] at X Y
  have x0 := X.2 0 _ rfl
  have y0 := Y.2 0 _ rfl
  clear X Y
  go_enter Tryz.func59, Tryz.ntmps59
  go_upto_region 1 with (fail)
  clear hw2
  go_wp2_with fail
  with_reducible refine (strCompareC _ _ _).mono ?_
  rintro e w' ⟨rfl, rfl⟩
  go_wp2_with fail
  go_ret
  exact ⟨rfl, HG⟩
def crRen : Go.Shelf.Ren := ⟨fun | 20 => 115 | n => n, fun | 22 => 53 | 24 => 58 | 25 => 117 | n => n, fun | n => n⟩
theorem lays_cr : Go.Proofs.SlLaysF0.n20 Tryz.prog crRen := {
  mixed := by kernel_rfl
  f20 := ⟨"slices.insertionSortCmpFunc[handbill/api.Credit]", by decide, Tryz.func115.trans (congrArg some (by kernel_rfl))⟩
  t0 := Tryz.underlying0
  a0 := Tryz.isAgg0
  z0 := Tryz.sizeOf0
  v0 := Tryz.zeroValue0
  t3 := Tryz.underlying3
  a3 := Tryz.isAgg3
  z3 := Tryz.sizeOf3
  v3 := Tryz.zeroValue3
  t4 := Tryz.underlying4
  a4 := Tryz.isAgg4
  z4 := Tryz.sizeOf4
  v4 := Tryz.zeroValue4
  t22 := Tryz.underlying53
  a22 := Tryz.isAgg53
  z22 := Tryz.sizeOf53
  v22 := Tryz.zeroValue53
  t25 := Tryz.underlying117
  a25 := Tryz.isAgg117
  z25 := Tryz.sizeOf117
  v25 := Tryz.zeroValue117 }
/-- what a sort of offers leaves -/
def SrtCrOut (b0 : Nat) (w : World) (v : Value) (l : List Cdt) (e : Ending) (w' : World) : Prop := e = .returned (.tuple #[]) ∧ w'.ownsRow b0 58 3 v l.length ((srtC l).flatMap Cdt.cells) ∧ w.grownBy w' v.ownBlock
theorem insCr_nil (w : World) (c : FuncId) : Calls Tryz.prog 115 #[.slice none 0 0, .int .i64 0, .int .i64 0, .func (.func c) #[] #[]] w fun e w' => e = .returned (.tuple #[]) ∧ w = w' := by
  go_enter Tryz.func115, Tryz.ntmps115
  go_wp2_with fail
  refine wp_loop_rounds 1 ?_
  rw [rounds_succ]
  go_wp2
  go_end0
  exact ⟨rfl, rfl⟩

theorem insCr_some (w : World) (g n cap : Nat) (d : Array Cdt) (hH : HoldsK Cdt.cells 3 w g 0 d) (hg : g < w.heap.size) (hn : d.size = n) (hn1 : n < 1000) :
    Calls Tryz.prog 115 #[.slice (some ⟨g, 0, none⟩) n cap, .int .i64 0, .int .i64 n, .func (.func 59) #[] #[]] w fun e w' =>
      e = .returned (.tuple #[]) ∧ ∃ m os, w' = sortWorldK Cdt.cells 3 w g 0 m (Sort.insertionSort (ltOf cmpC) d 0 n) os := by
  subst hn
  have := AnyQ.insertionSortCmpFunc lays_cr 3 (fun w => by kernel_rfl) (fun w => by kernel_rfl) Cdt.cells (fun x => rfl) (fun x v hv => by
      simp only [Cdt.cells, List.mem_cons, List.mem_nil_iff, or_false] at hv
      rcases hv with rfl | rfl | rfl <;> rfl) cmpC 59 #[] g 0 cap 0 d.size d w (enters_of Tryz.func59 (by kernel_rfl) rfl) (by
      intro m os dk hdk x y
      refine (cmpCr_any x y _).mono ?_
      rintro e w' ⟨rfl, q, os2, rfl⟩
      exact ⟨rfl, q, os2, rfl⟩) hH hg (Nat.zero_le _) (Nat.le_refl _) (by omega)
  exact this
theorem insCr_any (b0 : Nat) (w : World) (a : Option Addr) (n c : Nat) (l : List Cdt) (own : w.ownsRow b0 58 3 (.slice a n c) n (l.flatMap Cdt.cells)) (hn : l.length = n) (hn1 : n < 1000) :
    Calls Tryz.prog 115 #[.slice a n c, .int .i64 0, .int .i64 n, .func (.func 59) #[] #[]] w (SrtCrOut b0 w (.slice a n c) l) := by
  subst hn
  rcases own.2 with ⟨e, h0⟩ | ⟨g, cap, cur, e, hb, hg, hnc, hcm, hs, ht⟩
  · injection e with e1 e2 e3
    subst e1 e3
    obtain rfl := List.eq_nil_of_length_eq_zero h0
    refine (insCr_nil w _).mono ?_
    rintro e w' ⟨rfl, rfl⟩
    exact ⟨rfl, (by rw [show srtC [] = [] from List.eq_nil_of_length_eq_zero (srtC_len [])]; exact own), ⟨rfl, rfl, rfl, Nat.le_refl _, fun _ _ _ => rfl⟩⟩
  · injection e with e1 e2 e3
    subst e1 e3
    have hH := rowK_holds Cdt.cells 3 w g l.toArray (n := l.length) (t := 58) (b0 := b0) (cap := c) (by simpa using own) (fun _ => rfl) (by omega) (by simp)
    have hlt := (Array.getElem?_eq_some_iff.1 hg).1
    refine (insCr_some w g l.length c l.toArray hH hlt (by simp) hn1).mono ?_
    rintro e w' ⟨rfl, m, os, rfl⟩
    have hrow := sortK_row Cdt.cells 3 w g m (Sort.insertionSort (ltOf cmpC) l.toArray 0 l.length) os own (fun _ => rfl) (by omega) (by
      have := srtC_len l
      unfold srtC at this
      simpa using this)
    exact ⟨rfl, hrow, sortK_grown Cdt.cells 3 w g m (Sort.insertionSort (ltOf cmpC) l.toArray 0 l.length) os⟩
set_option maxRecDepth 100000 in
theorem sortCr_any (b0 : Nat) (w : World) (a : Option Addr) (n c : Nat) (l : List Cdt) (own : w.ownsRow b0 58 3 (.slice a n c) n (l.flatMap Cdt.cells)) (hn : l.length = n) (hn1 : n ≤ 12) :
    Calls Tryz.prog 58 #[.slice a n c, .func (.func 59) #[] #[]] w (SrtCrOut b0 w (.slice a n c) l) := by
  have C := Lib.hid (insCr_any b0 w a n c l own hn (by omega))
  have C2 := Lib.hid (Tryz.bits_Len n w (by omega) (by omega))
  clear own hn
  have CS : ∀ z : Int, Calls Tryz.prog 85 #[.slice a n c, .int .i64 0, .int .i64 n, .int .i64 z, .func (.func 59) #[] #[]] w (SrtCrOut b0 w (.slice a n c) l) := by
    intro z
    go_enter Tryz.func85, Tryz.ntmps85
    go_wp2_with fail
    refine wp_loop_rounds 1 ?_
    rw [rounds_succ]
    go_wp2_with fail
    with_reducible refine C.out.mono ?_
    rintro e w' hS
    have HS := Lib.hid hS
    obtain ⟨rfl, -⟩ := hS
    go_wp2
    refine bodyPost_ret (results_none rfl _ _ _) rfl ?_
    exact HS.out
  have CS' := Lib.hid CS
  clear CS C
  go_enter Tryz.func58, Tryz.ntmps58
  go_wp2_with fail
  with_reducible refine C2.out.mono ?_
  rintro e w' ⟨rfl, hw⟩
  rw [hw]
  clear hw w'
  go_wp2_with fail
  with_reducible refine (CS'.out _).mono ?_
  rintro e w' hS
  have HS := Lib.hid hS
  obtain ⟨rfl, -⟩ := hS
  go_wp2
  go_end0
  exact HS.out

end Go.Proofs.YtgdagknjnidmiaaGreatDoor
