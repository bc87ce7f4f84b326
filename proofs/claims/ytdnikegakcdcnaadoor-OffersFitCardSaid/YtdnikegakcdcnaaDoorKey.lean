/- Stream.key and Stream.One: one of some strings, seldom a wrong one. -/
import Derived.Test.YtdnikegakcdcnaaDoorOne
import Derived.Test.YtdnikegakcdcnaaDoorFlip
set_option linter.unusedVariables false
namespace Go.Proofs.YtdnikegakcdcnaaDoor
open Go.RowKit

theorem One_at (S : SC) (K : Nat) (zs : List ByteArray) (n c p : Nat) (cs : Array Value) (w : World) (hs : Strm w S K) (hK : K ≤ 1099511627776) (hn : zs.length = n) (hn0 : 0 < n) (hn1 : n ≤ 1000)
    (hp : p = w.heap.size) (hcs : cs = (zs.map Value.string).toArray) :
    Calls Tryd.prog 27 #[S.p, .slice (some ⟨p, 0, none⟩) n c] (w.alloc (.cells cs 9)) (GenS S (K + 1) w fun r => r ∈ zs) := by
  have C := Lib.hid (one_at S K zs n c p cs w hs hK hn hn0 hn1 hp hcs)
  clear hn hp hcs
  go_enter Tryd.func27, Tryd.ntmps27
  go_wp2_with fail
  with_reducible refine C.out.mono ?_
  rintro e w1 ⟨s, h1, rfl, h3, h4⟩
  go_wp2
  go_ret
  exact ⟨s, h1, rfl, h3, h4⟩

theorem key_at (S : SC) (K : Nat) (zs : List ByteArray) (n c p : Nat) (cs : Array Value) (w : World) (hs : Strm w S K) (hK : K + 2 ≤ 1000000) (hn : zs.length = n) (hn0 : 0 < n) (hn1 : n ≤ 1000)
    (hp : p = w.heap.size) (hcs : cs = (zs.map Value.string).toArray) :
    Calls Tryd.prog 90 #[S.p, .slice (some ⟨p, 0, none⟩) n c] (w.alloc (.cells cs 9)) (GenS S (K + 2) w fun r => r ∈ zs ∨ r ∈ [⟨#[]⟩, ⟨#[75, 101, 121]⟩, ⟨#[49, 97]⟩]) := by
  subst hcs hp
  have s0 := strm_alloc hs (.cells (zs.map Value.string).toArray 9)
  have hne : w.heap.size ≠ S.g := by have := strm_lt hs; omega
  have HB := Lib.hid (heap_alloc_new w (.cells (zs.map Value.string).toArray 9))
  have HG := Lib.hid (World.grownBy_alloc w (.cells (zs.map Value.string).toArray 9) (some S.g))
  have HN := Lib.hid hn
  clear hn
  generalize w.alloc (.cells (zs.map Value.string).toArray 9) = w1 at *
  go_enter Tryd.func90, Tryd.ntmps90
  go_wp2_with fail
  with_reducible refine (flip_any S _ _ _ s0 (by omega) (by omega)).mono ?_
  rintro e w2 ⟨b, rfl, k2, s2⟩
  cases b with
  | true =>
    go_wp2_with fail
    with_reducible refine (one_at S _ [⟨#[]⟩, ⟨#[75, 101, 121]⟩, ⟨#[49, 97]⟩] 3 _ _ _ _ s2 (by omega) rfl (by omega) (by omega) (by simp) (by simp)).mono ?_
    rintro e w3 ⟨s, h1, rfl, k3, s3⟩
    go_wp2
    go_ret
    exact ⟨s, .inr h1, rfl, grown_trans HG.out (grown_trans k2 k3), strm_mono s3 (by omega)⟩
  | false =>
    have HB2 := Lib.hid ((k2.block _ (by have h := HB.out; rcases Nat.lt_or_ge w.heap.size w1.heap.size with h' | h'; exact h'; rw [Array.getElem?_eq_none h'] at h; cases h) (by simpa using hne)).trans HB.out)
    go_wp2_with fail
    with_reducible refine (one_any S _ _ zs n _ _ s2 (by omega) HN.out hn0 hn1 HB2.out hne).mono ?_
    rintro e w3 ⟨s, h1, rfl, k3, s3⟩
    go_wp2
    go_ret
    exact ⟨s, .inl h1, rfl, grown_trans HG.out (grown_trans k2 k3), strm_mono s3 (by omega)⟩
end Go.Proofs.YtdnikegakcdcnaaDoor
