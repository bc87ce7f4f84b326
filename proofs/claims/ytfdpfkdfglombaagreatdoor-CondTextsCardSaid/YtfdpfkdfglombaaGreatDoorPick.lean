/- Pick: one of some numbers. -/
import Derived.Test.YtfdpfkdfglombaaGreatDoorStream
namespace Go.Proofs.YtfdpfkdfglombaaGreatDoor
open Go.RowKit

theorem pick_any (S : SC) (K : Nat) (h : Nat) (zs : List Int) (n c : Nat) (w : World) (hs : Strm w S K) (hK : K ≤ 1099511627776) (hn : zs.length = n) (hn0 : 0 < n) (hn1 : n ≤ 1000)
    (hb : w.heap[h]? = some (.cells (zs.map (Value.int .i64)).toArray 3 (0, 0))) (hg : h ≠ S.g) :
    Calls Tryz.prog 68 #[S.p, .slice (some ⟨h, 0, none⟩) n c] w (GenI S (K + 1) w fun r => r ∈ zs) := by
  have HB := Lib.hid hb
  have HN := Lib.hid hn
  clear hb hn
  go_enter Tryz.func68, Tryz.ntmps68
  go_wp2_with fail
  with_reducible refine (next_any S K _ _ hs hK (by omega)).mono ?_
  rintro e w' ⟨r, ⟨h0, h1, h2⟩, rfl, hgr, hs'⟩
  have hr : r.toNat < zs.length := by have := HN.out; have := h1 (by omega); omega
  have hlt := h1 (by omega)
  have hcell : w'.cell? ⟨h, r.toNat, none⟩ = some (.int .i64 zs[r.toNat]) := by
    refine hgr.cell ?_ (by simpa using hg)
    simp [World.cell?, HB.out, hr]
  have HM := Lib.hid (List.getElem_mem hr)
  clear h1
  generalize zs[r.toNat] = z at *
  go_wp2
  go_ret
  exact ⟨z, HM.out, rfl, hgr, hs'⟩
end Go.Proofs.YtfdpfkdfglombaaGreatDoor
