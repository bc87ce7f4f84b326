/- What is told of the list of raw numbers that comes in, and the stream that is made over it. -/
import Derived.Test.YtfdpfkdfglombaaGreatDoorMem
import Derived.Test.YtfdpfkdfglombaaGreatDoorTbs
import Derived.LaidSub
import Derived.Lib.LaidU8T
namespace Go.Proofs.YtfdpfkdfglombaaGreatDoor
open Go.RowKit

/-- a slice of integers that came in: it is nil; or it leads to a row of 'cap' cells, the numbers zs, each fitting its kind -/
def IsRow (k : IntKind) (w : World) (a : Option Addr) (len cap : Nat) (zs : List Int) : Prop :=
  (a = none ∧ len = 0 ∧ cap = 0 ∧ zs = []) ∨
  ∃ x, a = some x ∧ len ≤ cap ∧ cap ≤ maxLen ∧ zs.length = cap ∧ (∀ i, i < zs.length → w.cell? (x.add i) = some (.int k (zs.getD i 0))) ∧ ∀ n ∈ zs, (Lit.int k n).wf = true

theorem bnd64 {n : Int} (h : (Lit.int .i64 n).wf = true) : -9223372036854775808 ≤ n ∧ n ≤ 9223372036854775807 := by
  simp [Lit.wf, IntKind.min, IntKind.max, IntKind.bits, IntKind.signed] at h
  omega

theorem strm_start {w : World} {a : Option Addr} {len cap : Nat} {zs : List Int} (h : IsRow .i64 w a len cap zs) :
    Strm (w.alloc (.cells #[.slice a len cap, .int .i64 0] 25)) ⟨w.heap.size, w.heap.size, a, len, cap⟩ 0 := by
  refine ⟨⟨0, Nat.le_refl _, heap_alloc_new w _⟩, Nat.le_refl _, ?_, ?_⟩
  · rcases h with ⟨_, rfl, _, _⟩ | ⟨x, _, h1, h2, _⟩
    · exact Nat.zero_le _
    · exact Nat.le_trans h1 h2
  · intro i hi
    rcases h with ⟨_, rfl, _, _⟩ | ⟨x, rfl, h1, h2, h3, h4, h5⟩
    · simp at hi
    · simp only at hi
      have hc := h4 i (by omega)
      have hs := World.cell?_spot hc
      obtain ⟨b, off, spot⟩ := x
      have hspot : spot = none := by simpa [Addr.add] using World.cell?_spot (h4 0 (by omega))
      subst hspot
      have e : (Addr.add ⟨b, off, none⟩ i) = ⟨b, off + i, none⟩ := by
        unfold Addr.add
        split
        · rename_i h0; subst h0; rfl
        · rfl
      rw [e] at hc
      have hlt := World.block_lt_of_cell? w _ hc
      have hw := bnd64 (h5 (zs.getD i 0) (by rw [List.getD_eq_getElem?_getD, List.getElem?_eq_getElem (by omega)]; exact List.getElem_mem _))
      exact ⟨b, off, _, rfl, hlt, (World.cell?_alloc_lt w _ _ hlt).trans hc, hw⟩
theorem strm_begin {w : World} {a : Option Addr} {len cap : Nat} {zs : List Int} (h : IsRow .i64 w a len cap zs) :
    ∃ S : SC, w.heap.size ≤ S.g ∧ Value.pointer (some ⟨w.heap.size, 0, none⟩) = S.p ∧ Strm (w.alloc (.cells #[.slice a len cap, .int .i64 0] 25)) S 0 ∧
      w.grownBy (w.alloc (.cells #[.slice a len cap, .int .i64 0] 25)) (some S.g) :=
  ⟨_, Nat.le_refl _, rfl, strm_start h, World.grownBy_alloc w _ _⟩
theorem below_of_grown {w w' : World} {g : Nat} (h : w.grownBy w' (some g)) (hg : w.heap.size ≤ g) : Below w.heap.size w w' :=
  ⟨h.os, h.tape, h.output, h.size, fun k hk => h.block k hk (by simp; omega)⟩
end Go.Proofs.YtfdpfkdfglombaaGreatDoor
/- From the row's list to the tables that conditions come to. -/
set_option linter.unusedVariables false
namespace Go.Proofs.YtfdpfkdfglombaaGreatDoor
open Go.RowKit Go.Lib Go.Proofs

theorem tbs_of_laid {l : List (String × DataW Unit)} {w : World} (h : laidMetH Tryz.prog l w) (h1 : ("strings.asciiSpace", Lib.tabData .u8 Lib.asciiSpaceTab) ∈ l) (h2 : ("unicode/utf8.first", Lib.firstData) ∈ l) (h3 : ("unicode/utf8.acceptRanges", Lib.acceptData) ∈ l) : Tbs w := by
  have hd := (laidMetH_iff.1 h).1
  refine ⟨utf8Tabs_of_readsT (U8Types.of196 Tryz.laysValid) ⟨by kernel_rfl, by kernel_rfl, by kernel_rfl, by kernel_rfl, by kernel_rfl, by kernel_rfl, by kernel_rfl⟩ (Lib.laidMet.reads hd (List.mem_filter.2 ⟨h2, rfl⟩)) (Lib.laidMet.reads hd (List.mem_filter.2 ⟨h3, rfl⟩)), ?_⟩
  obtain ⟨g, t, cs, fuel, p, e1, e2, e3, e4⟩ := Lib.laidMet.reads hd (List.mem_filter.2 ⟨h1, rfl⟩)
  obtain rfl := Option.some.inj (asc_glb.symm.trans e1)
  obtain rfl := Option.some.inj ((show (Tryz.prog.globals[1]?).map (·.type) = some 250 by kernel_rfl).symm.trans e2)
  unfold Lib.TabIs
  rw [e3, ← Lib.cells_of_tab (n := 256) (e := 5) (by kernel_rfl) (by kernel_rfl) (by kernel_rfl) (by kernel_rfl) e4]
end Go.Proofs.YtfdpfkdfglombaaGreatDoor
