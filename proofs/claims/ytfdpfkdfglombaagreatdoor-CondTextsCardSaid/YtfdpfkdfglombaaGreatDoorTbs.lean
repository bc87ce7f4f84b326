/- The tables of Go's library that conditions come to, as their initialisers lay them; whatever leaves them alone keeps them. -/
import Derived.Test.YtfdpfkdfglombaaGreatDoorRecs
import Derived.Test.YtfdpfkdfglombaaGreatDoorShelf
import Derived.Shelf.Unicode.ValidAny
set_option linter.unusedVariables false
namespace Go.Proofs.YtfdpfkdfglombaaGreatDoor
open Go.RowKit

def Tbs (w : World) : Prop := Lib.Utf8Tabs 3 4 w ∧ Lib.TabIs Tryz.prog w "strings.asciiSpace" .u8 Lib.asciiSpaceTab
theorem asc_glb : Tryz.prog.globalNamed "strings.asciiSpace" = some 1 := by kernel_rfl
theorem asc_lt {w : World} (h : Lib.TabIs Tryz.prog w "strings.asciiSpace" .u8 Lib.asciiSpaceTab) : 1 < w.heap.size := by
  unfold Lib.TabIs World.var? at h
  rw [asc_glb] at h
  rcases Nat.lt_or_ge 1 w.heap.size with h' | h'
  · exact h'
  · simp [Array.getElem?_eq_none h'] at h
theorem asc_block {w w' : World} (h : Lib.TabIs Tryz.prog w "strings.asciiSpace" .u8 Lib.asciiSpaceTab) (e : w'.heap[1]? = w.heap[1]?) : Lib.TabIs Tryz.prog w' "strings.asciiSpace" .u8 Lib.asciiSpaceTab := by
  unfold Lib.TabIs World.var? at *
  rw [asc_glb] at *
  simp only [Option.bind_some] at *
  rw [e]; exact h
theorem cell_lt {w : World} {a : Addr} {v : Value} (hc : w.cell? a = some v) : a.block < w.heap.size := by
  rcases Nat.lt_or_ge a.block w.heap.size with h' | h'
  · exact h'
  · simp [World.cell?, Array.getElem?_eq_none h'] at hc
theorem Tbs.below {w w' : World} (h : Tbs w) (hb : Below w.heap.size w w') : Tbs w' :=
  ⟨Utf8Tabs_below h.1 hb, asc_block h.2 (hb.block _ (asc_lt h.2))⟩
theorem Tbs.grown {w w' : World} {q : Nat} (h : Tbs w) (k : w.grownBy w' (some q)) (h1 : 1 < q) (h2 : 3 < q) (h3 : 4 < q) : Tbs w' :=
  ⟨⟨fun c hc => k.cell (h.1.1 c hc) (fun e => by have := Option.some.inj e; simp only at this; omega), fun i hi => ⟨k.cell (h.1.2 i hi).1 (fun e => by have := Option.some.inj e; simp only at this; omega), k.cell (h.1.2 i hi).2 (fun e => by have := Option.some.inj e; simp only at this; omega)⟩⟩, asc_block h.2 (k.block _ (asc_lt h.2) (fun e => by have := Option.some.inj e; omega))⟩
theorem Tbs.alloc {w : World} (h : Tbs w) (o : Obj) : Tbs (w.alloc o) := h.below ((Below.refl _ _).alloc (Nat.le_refl _) o)
theorem Tbs.drew {w : World} (h : Tbs w) : Tbs w.drew := h
theorem valid_any (s : ByteArray) (w : World) (hs : s.size ≤ maxLen) (hT : Tbs w) :
    Calls Tryz.prog 236 #[.string s] w fun e w' => e = .returned (.bool (Lib.validD s.data.toList)) ∧ Below w.heap.size w w' :=
  Any.utf8_ValidString Tryz.laysValid s w (by unfold maxLen at hs; omega) hT.1
end Go.Proofs.YtfdpfkdfglombaaGreatDoor
