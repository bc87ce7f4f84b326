/- More on the stream's memory. -/
import Derived.Test.YtfdpfkdfglombaaGreatDoorStream
import Derived.Deep.AppendLies
namespace Go.Proofs.YtfdpfkdfglombaaGreatDoor
open Go.RowKit

theorem strm_set {w : World} {S : SC} {K : Nat} (h : Strm w S K) {p : Addr} (hp : S.g < p.block) (u : Value) : Strm (w.setCell p u) S K := by
  obtain ⟨⟨k, hk, hbk⟩, hBg, hlen, hel⟩ := h
  refine ⟨⟨k, hk, (Below.heap_setCell w p u S.g (by omega)).trans hbk⟩, hBg, hlen, fun i hi => ?_⟩
  obtain ⟨b, off, n, h1, h2, h3, h4⟩ := hel i hi
  refine ⟨b, off, n, h1, h2, ?_, h4⟩
  refine (World.cell?_setCell_other w _ _ _ ?_).trans h3
  rintro rfl
  have : S.g < b := hp
  omega
end Go.Proofs.YtfdpfkdfglombaaGreatDoor
