/- Pick over a list that was just made. -/
import Derived.Test.YtfdpfkdfglombaaGreatDoorPick
import Derived.Test.YtfdpfkdfglombaaGreatDoorMem
namespace Go.Proofs.YtfdpfkdfglombaaGreatDoor
open Go.RowKit

theorem new_at {w : World} {o : Obj} {p : Nat} (hp : p = w.heap.size) : (w.alloc o).heap[p]? = some o := by
  subst hp
  exact heap_alloc_new w o
/-- a pick of the stream, and the list that it is made of -/
theorem pick_at (S : SC) (K : Nat) (zs : List Int) (n c p : Nat) (cs : Array Value) (w : World) (hs : Strm w S K) (hK : K ≤ 1099511627776) (hn : zs.length = n) (hn0 : 0 < n) (hn1 : n ≤ 1000)
    (hp : p = w.heap.size) (hcs : cs = (zs.map (Value.int .i64)).toArray) :
    Calls Tryz.prog 68 #[S.p, .slice (some ⟨p, 0, none⟩) n c] (w.alloc (.cells cs 3)) (GenI S (K + 1) w fun r => r ∈ zs) := by
  subst hcs hp
  refine (pick_any S K _ zs n c _ (strm_alloc hs _) hK hn hn0 hn1 (heap_alloc_new _ _) ?_).mono ?_
  · have := strm_lt hs; omega
  · rintro e w' ⟨r, h1, h2, h3, h4⟩
    exact ⟨r, h1, h2, grown_trans (World.grownBy_alloc w _ _) h3, h4⟩
end Go.Proofs.YtfdpfkdfglombaaGreatDoor
