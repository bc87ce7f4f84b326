/- One of some strings: Stream.one, Stream.One, over a list that was just made. -/
import Derived.Test.YtfdpfkdfglombaaGreatDoorStream
import Derived.Test.YtfdpfkdfglombaaGreatDoorMem
set_option linter.unusedVariables false
namespace Go.Proofs.YtfdpfkdfglombaaGreatDoor
open Go.RowKit

/-- what the maker of a string leaves -/
def GenS (S : SC) (K : Nat) (w : World) (P : ByteArray → Prop) (e : Ending) (w' : World) : Prop :=
  ∃ s, P s ∧ e = .returned (.string s) ∧ w.grownBy w' (some S.g) ∧ Strm w' S K

theorem one_any (S : SC) (K : Nat) (h : Nat) (zs : List ByteArray) (n c : Nat) (w : World) (hs : Strm w S K) (hK : K ≤ 1099511627776) (hn : zs.length = n) (hn0 : 0 < n) (hn1 : n ≤ 1000)
    (hb : w.heap[h]? = some (.cells (zs.map Value.string).toArray 9 (0, 0))) (hg : h ≠ S.g) :
    Calls Tryz.prog 30 #[S.p, .slice (some ⟨h, 0, none⟩) n c] w (GenS S (K + 1) w fun r => r ∈ zs) := by
  have HB := Lib.hid hb
  have HN := Lib.hid hn
  clear hb hn
  go_enter Tryz.func30, Tryz.ntmps30
  go_wp2_with fail
  with_reducible refine (next_any S K _ _ hs hK (by omega)).mono ?_
  rintro e w' ⟨r, ⟨h0, h1, h2⟩, rfl, hgr, hs'⟩
  have hr : r.toNat < zs.length := by have := HN.out; have := h1 (by omega); omega
  have hlt := h1 (by omega)
  have hcell : w'.cell? ⟨h, r.toNat, none⟩ = some (.string zs[r.toNat]) := by
    refine hgr.cell ?_ (by simpa using hg)
    simp [World.cell?, HB.out, hr]
  have HM := Lib.hid (List.getElem_mem hr)
  clear h1
  generalize zs[r.toNat] = z at *
  go_wp2
  go_ret
  exact ⟨z, HM.out, rfl, hgr, hs'⟩

theorem one_at (S : SC) (K : Nat) (zs : List ByteArray) (n c p : Nat) (cs : Array Value) (w : World) (hs : Strm w S K) (hK : K ≤ 1099511627776) (hn : zs.length = n) (hn0 : 0 < n) (hn1 : n ≤ 1000)
    (hp : p = w.heap.size) (hcs : cs = (zs.map Value.string).toArray) :
    Calls Tryz.prog 30 #[S.p, .slice (some ⟨p, 0, none⟩) n c] (w.alloc (.cells cs 9)) (GenS S (K + 1) w fun r => r ∈ zs) := by
  subst hcs hp
  refine (one_any S K _ zs n c _ (strm_alloc hs _) hK hn hn0 hn1 (heap_alloc_new _ _) ?_).mono ?_
  · have := strm_lt hs; omega
  · rintro e w' ⟨r, h1, h2, h3, h4⟩
    exact ⟨r, h1, h2, grown_trans (World.grownBy_alloc w _ _) h3, h4⟩
end Go.Proofs.YtfdpfkdfglombaaGreatDoor
