/- Several lists of one's own that grow side by side. -/
import Derived.Test.YtdefjnefkdemiaaGreatDoorMem
import Derived.Deep.AppendLies
import Derived.Deep.RegionHeld3
set_option linter.unusedVariables false
namespace Go.Proofs.YtdefjnefkdemiaaGreatDoor
open Go.RowKit

/-- a slice that is owned: its element type, the cells of an element, the value, its length, its cells -/
structure Own where
  e : TypeId
  sz : Nat
  v : Value
  n : Nat
  l : List Value
structure Owns (b0 : Nat) (W : World) (rs : List Own) : Prop where
  own : ∀ r ∈ rs, W.ownsRow b0 r.e r.sz r.v r.n r.l
  apart : rs.Pairwise (fun r s => ∀ g, r.v.ownBlock = some g → s.v.ownBlock ≠ some g)

theorem grown_refl (w : World) (row : Option Nat) : w.grownBy w row := ⟨rfl, rfl, rfl, Nat.le_refl _, fun _ _ _ => rfl⟩
theorem none_ok {v : Value} : v.ownBlock = none ∨ v.ownBlock ≠ none := by
  cases v.ownBlock with
  | none => exact .inl rfl
  | some g => exact .inr (by simp)
theorem Owns.step {b0 : Nat} {w W : World} {rs : List Own} (h : Owns b0 w rs) (hR : w.grownBy W none) : Owns b0 W rs :=
  ⟨fun r hr => (h.own r hr).kept hR none_ok, h.apart⟩
theorem Owns.drewN {b0 : Nat} {w : World} {rs : List Own} (h : Owns b0 w rs) (n : Nat) : Owns b0 (w.drewN n) rs := ⟨h.own, h.apart⟩
theorem Owns.at_ {b0 : Nat} {w : World} (pre post : List Own) (r : Own) (h : Owns b0 w (pre ++ r :: post)) : w.ownsRow b0 r.e r.sz r.v r.n r.l := h.own r (by simp)
theorem Owns.app {b0 H : Nat} {w W w1 : World} (pre post : List Own) (r : Own) (h : Owns b0 w (pre ++ r :: post)) (hR : w.grownBy W none) (hb : b0 ≤ w.heap.size) {g n' cap : Nat} {l' : List Value}
    (hown : w1.ownsRow b0 r.e r.sz (.slice (some ⟨g, 0, none⟩) n' cap) n' l') (hgrow : W.grownBy w1 r.v.ownBlock) (hat : r.v.ownBlock = some g ∨ g = W.heap.size) (hH : ∀ k, r.v.ownBlock = some k → k < H) :
    Owns b0 w1 (pre ++ ⟨r.e, r.sz, .slice (some ⟨g, 0, none⟩) n' cap, n', l'⟩ :: post) ∧ Below b0 w w1 ∧ ∀ k u, H ≤ k → k < W.heap.size → W.cell? ⟨k, 0, none⟩ = some u → w1.cell? ⟨k, 0, none⟩ = some u := by
  have hS := h.step hR
  have hr := hS.at_ pre post r
  have hrow : ∀ k, r.v.ownBlock = some k → b0 ≤ k := fun k hk => (hr.lt k hk).1
  have ap := hS.apart
  rw [List.pairwise_append, List.pairwise_cons] at ap
  obtain ⟨ap1, ⟨ap2, ap3⟩, ap4⟩ := ap
  refine ⟨⟨fun s hs => ?_, ?_⟩, ?_, fun k u h1 h2 h3 => ?_⟩
  · have keep : ∀ s : Own, W.ownsRow b0 s.e s.sz s.v s.n s.l → (∀ k, r.v.ownBlock = some k → s.v.ownBlock ≠ some k) → w1.ownsRow b0 s.e s.sz s.v s.n s.l := fun s hs hne => by
      refine hs.kept hgrow ?_
      cases hv : r.v.ownBlock with
      | none => exact none_ok
      | some k => exact .inr (hne k hv)
    rcases List.mem_append.1 hs with hs | hs
    · exact keep s (hS.own s (by simp [hs])) (fun k hk hk' => ap4 s hs r (by simp) k hk' hk)
    · rcases List.mem_cons.1 hs with rfl | hs
      · exact hown
      · exact keep s (hS.own s (by simp [hs])) (fun k hk => ap2 s hs k hk)
  · have far : ∀ s ∈ pre ++ r :: post, (∀ k, r.v.ownBlock = some k → s.v.ownBlock ≠ some k) → s.v.ownBlock ≠ some g := fun s hs hne e => by
      rcases hat with hat | rfl
      · exact hne g hat e
      · have := ((hS.own s hs).lt _ e).2
        omega
    rw [List.pairwise_append, List.pairwise_cons]
    refine ⟨ap1, ⟨fun s hs k hk => ?_, ap3⟩, fun s hs s' hs' => ?_⟩
    · have : g = k := by simpa [Value.ownBlock] using hk
      subst this
      exact far s (by simp [hs]) (fun k hk => ap2 s hs k hk)
    · rcases List.mem_cons.1 hs' with rfl | hs'
      · intro k hk hk'
        have : g = k := by simpa [Value.ownBlock] using hk'
        subst this
        exact far s (by simp [hs]) (fun k hk hk' => ap4 s hs r (by simp) k hk' hk) hk
      · exact ap4 s hs s' (by simp [hs'])
  · have hz := hR.size
    have hB : Below b0 w W := ⟨hR.os, hR.tape, hR.output, hR.size, fun k hk => hR.block k (by omega) (by simp)⟩
    exact hB.grown hgrow (by omega) hrow
  · exact hgrow.cell h3 (fun e => by have := hH k e.symm; omega)
theorem Owns.set {b0 c : Nat} {w : World} {rs : List Own} (h : Owns b0 w rs) (hc : c < b0) (o : Nat) (u : Value) : Owns b0 (w.setCell ⟨c, o, none⟩ u) rs := by
  have hg : w.grownBy (w.setCell ⟨c, o, none⟩ u) (some c) := ⟨rfl, rfl, rfl, by simp [World.setCell], fun i _ hne => Below.heap_setCell w _ _ i (by rintro rfl; exact hne rfl)⟩
  refine ⟨fun r hr => (h.own r hr).kept hg ?_, h.apart⟩
  cases hv : r.v.ownBlock with
  | none => exact .inl rfl
  | some k =>
    refine .inr fun e => ?_
    have := ((h.own r hr).lt k hv).1
    simp at e
    omega
theorem new_cell {w : World} {k : Nat} {u : Value} {t : TypeId} (h : k = w.heap.size) : (w.alloc (.cells #[u] t (0, 0))).cell? ⟨k, 0, none⟩ = some u := by
  subst h
  have h := heap_alloc_new w (.cells #[u] t (0, 0))
  unfold World.cell?
  rw [h]
  rfl
theorem old_cell {w : World} {a : Addr} {u : Value} {o : Obj} (h : w.cell? a = some u) : (w.alloc o).cell? a = some u :=
  (World.cell?_alloc_lt w _ _ (World.block_lt_of_cell? w _ h)).trans h
theorem drew_cell {w : World} {a : Addr} {u : Value} (h : w.cell? a = some u) : w.drew.cell? a = some u := h
theorem cell_more {w : World} {a : Addr} {u : Value} (h : w.cell? a = some u) : ∀ o, (w.alloc o).cell? a = some u := fun o => old_cell h
theorem cell_more2 {w : World} {a : Addr} {u : Value} (h : w.cell? a = some u) : ∀ o o', ((w.alloc o).alloc o').cell? a = some u := fun o o' => old_cell (old_cell h)
theorem cell_more3 {w : World} {a : Addr} {u : Value} (h : w.cell? a = some u) : ∀ o o' o2, (((w.alloc o).alloc o').alloc o2).cell? a = some u := fun o o' o2 => old_cell (old_cell (old_cell h))
theorem news_one {w : World} {k : Nat} {u : Value} (h : w.cell? ⟨k, 0, none⟩ = some u) : ∀ j x, [u][j]? = some x → w.cell? ((⟨k, 0, none⟩ : Addr).add j) = some x := by
  intro j x hx
  rcases j with _ | j
  · simp at hx
    subst hx
    simpa [Addr.add] using h
  · simp at hx
end Go.Proofs.YtdefjnefkdemiaaGreatDoor
