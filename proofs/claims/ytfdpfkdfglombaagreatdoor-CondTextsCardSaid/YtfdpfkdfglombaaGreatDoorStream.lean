/- The stream of raw numbers that every statement draws its values from: contracts of its methods. -/
import Derived.Test.YtfdpfkdfglombaaGreatDoorProg
import Derived.WalkKit
import Derived.WalkSpells
import Derived.LoopTactic
import Derived.RegionTactic
import Derived.Deep.QuietTactic
import Derived.BigQuiet
import Derived.Below
import Derived.Lib.Hide
import Derived.Deep.Draws
import Derived.Laws.OwnMore
import Derived.OwnWalk
namespace Go.Proofs.YtfdpfkdfglombaaGreatDoor
open Go.RowKit

theorem ret_int {k : IntKind} {a b : Int} (h : a = b) : Ending.returned (.int k a) = .returned (.int k b) := by rw [h]
theorem ret_bool {a b : Bool} (h : a = b) : Ending.returned (.bool a) = .returned (.bool b) := by rw [h]

/-- the number below n that x is reduced to -/
def bel (x n : Int) : Int := if n < 1 then 0 else x % n
theorem bel_nonneg (x n : Int) : 0 ≤ bel x n := by
  unfold bel; split
  · omega
  · exact Int.emod_nonneg x (by omega)
theorem bel_lt (x n : Int) (h : 1 ≤ n) : bel x n < n := by
  unfold bel; rw [if_neg (by omega)]; exact Int.emod_lt_of_pos x (by omega)
theorem bel_le (x n : Int) (h : n ≤ 9223372036854775807) : bel x n ≤ 9223372036854775806 := by
  by_cases h1 : 1 ≤ n
  · have := bel_lt x n h1; omega
  · unfold bel; rw [if_pos (by omega)]; omega
theorem tmod_bd (x n : Int) (hn : 1 ≤ n) (hx : x < 0) : -n < x.tmod n ∧ x.tmod n ≤ 0 := by
  have h := Int.neg_tmod (-x) n
  rw [Int.neg_neg, Int.tmod_eq_emod_of_nonneg (show 0 ≤ -x by omega)] at h
  have h1 := Int.emod_nonneg (-x) (show n ≠ 0 by omega)
  have h2 := Int.emod_lt_of_pos (-x) (show 0 < n by omega)
  omega
theorem emod_of_tmod (x n : Int) (hn : 1 ≤ n) : x % n = if x.tmod n < 0 then x.tmod n + n else x.tmod n := by
  by_cases hx : 0 ≤ x
  · rw [Int.tmod_eq_emod_of_nonneg hx, if_neg (by have := Int.emod_nonneg x (show n ≠ 0 by omega); omega)]
  · obtain ⟨h1, h2⟩ := tmod_bd x n hn (by omega)
    have e := Int.mul_tdiv_add_tmod x n
    split
    · rename_i h
      have : x = (x.tmod n + n) + n * (x.tdiv n - 1) := by rw [Int.mul_sub]; omega
      rw [this, Int.add_mul_emod_self_left, Int.emod_eq_of_lt (by omega) (by omega)]
      conv => rhs; rw [← this]
    · have h0 : x.tmod n = 0 := by omega
      rw [h0]; exact Int.emod_eq_zero_of_dvd (Int.dvd_of_tmod_eq_zero h0)

theorem below_any (x n : Int) (w : World) (hx : -9223372036854775808 ≤ x) (hx' : x ≤ 9223372036854775807) (hn' : n ≤ 9223372036854775807) :
    Calls Tryz.prog 73 #[.int .i64 x, .int .i64 n] w fun e w' => e = .returned (.int .i64 (bel x n)) ∧ w = w' := by
  by_cases h : n < 1
  · have H := Lib.hid (show bel x n = 0 by unfold bel; rw [if_pos h])
    go_enter Tryz.func73, Tryz.ntmps73
    go_wp2
    go_ret
    exact ⟨ret_int H.out.symm, rfl⟩
  · have H := Lib.hid (show bel x n = x % n by unfold bel; rw [if_neg h])
    by_cases h0 : 0 ≤ x
    · have hb := Int.emod_nonneg x (show n ≠ 0 by omega)
      go_enter Tryz.func73, Tryz.ntmps73
      go_wp2
      go_ret
      exact ⟨ret_int H.out.symm, rfl⟩
    · obtain ⟨h1, h2⟩ := tmod_bd x n (by omega) (by omega)
      have E := Lib.hid (emod_of_tmod x n (by omega))
      go_enter Tryz.func73, Tryz.ntmps73
      go_wp2
      · go_ret
        exact ⟨ret_int (by rw [H.out, E.out, if_pos (by assumption)]), rfl⟩
      · go_ret
        exact ⟨ret_int (by rw [H.out, E.out, if_neg (by omega)]), rfl⟩

/-- where a stream lies, and the list of raw numbers that it reads -/
structure SC where
  B : Nat
  g : Nat
  a : Option Addr
  len : Nat
  cap : Nat
def SC.p (S : SC) : Value := .pointer (some ⟨S.g, 0, none⟩)
def Strm (w : World) (S : SC) (K : Nat) : Prop :=
  (∃ k : Nat, k ≤ K ∧ w.heap[S.g]? = some (.cells #[.slice S.a S.len S.cap, .int .i64 k] 25 (0, 0))) ∧ S.B ≤ S.g ∧ S.len ≤ maxLen ∧
  ∀ i, i < S.len → ∃ b off n, S.a = some ⟨b, off, none⟩ ∧ b < S.B ∧ w.cell? ⟨b, off + i, none⟩ = some (.int .i64 n) ∧ -9223372036854775808 ≤ n ∧ n ≤ 9223372036854775807

/-- what a call that draws an int from the stream leaves -/
def GenI (S : SC) (K : Nat) (w : World) (P : Int → Prop) (e : Ending) (w' : World) : Prop :=
  ∃ r : Int, P r ∧ e = .returned (.int .i64 r) ∧ w.grownBy w' (some S.g) ∧ Strm w' S K

theorem wrap64_bd (x : Int) : -9223372036854775808 ≤ wrap64 x ∧ wrap64 x ≤ 9223372036854775807 := by
  unfold wrap64; omega

theorem strm_drewN {w : World} {S : SC} {K : Nat} (h : Strm w S K) (n : Nat) : Strm (w.drewN n) S K := h
theorem grownBy_drewN {a w : World} {row : Option Nat} (h : a.grownBy w row) (n : Nat) : a.grownBy (w.drewN n) row := ⟨h.os, h.tape, h.output, h.size, h.block⟩
theorem strm_step {w : World} {B g : Nat} {a : Option Addr} {len cap K k : Nat} (hb : w.heap[g]? = some (.cells #[.slice a len cap, .int .i64 (k : Int)] 25 (0, 0))) (hk : k ≤ K) (hBg : B ≤ g) (hlen : len ≤ maxLen)
    (hel : ∀ i, i < len → ∃ b off n, a = some ⟨b, off, none⟩ ∧ b < B ∧ w.cell? ⟨b, off + i, none⟩ = some (.int .i64 n) ∧ -9223372036854775808 ≤ n ∧ n ≤ 9223372036854775807) (m : Nat) :
    w.grownBy ((w.setCell ⟨g, 1, none⟩ (.int .i64 ((k : Int) + 1))).drewN m) (some g) ∧ Strm ((w.setCell ⟨g, 1, none⟩ (.int .i64 ((k : Int) + 1))).drewN m) ⟨B, g, a, len, cap⟩ (K + 1) := by
  have h1 : w.grownBy (w.setCell ⟨g, 1, none⟩ (.int .i64 ((k : Int) + 1))) (some g) := ⟨rfl, rfl, rfl, by simp [World.setCell], fun i _ hne => Below.heap_setCell w _ _ i (by rintro rfl; exact hne rfl)⟩
  refine ⟨grownBy_drewN h1 m, strm_drewN ⟨⟨k + 1, by omega, ?_⟩, hBg, hlen, fun i hi => ?_⟩ m⟩
  · simp [World.setCell, Array.getElem?_modify, hb]
  · obtain ⟨b, off, n, h1, h2, h3, h4, h5⟩ := hel i hi
    refine ⟨b, off, n, h1, h2, ?_, h4, h5⟩
    refine (World.cell?_setCell_other w _ _ _ ?_).trans h3
    intro e
    injection e
    omega

theorem next_any (S : SC) (K : Nat) (n : Int) (w : World) (hs : Strm w S K) (hK : K ≤ 1099511627776) (hn' : n ≤ 9223372036854775807) :
    Calls Tryz.prog 29 #[S.p, .int .i64 n] w (GenI S (K + 1) w fun r => 0 ≤ r ∧ (1 ≤ n → r < n) ∧ r ≤ 9223372036854775806) := by
  obtain ⟨⟨k, hk, hb⟩, hBg, hlen, hel⟩ := hs
  obtain ⟨B, g, a, len, cap⟩ := S
  simp only [SC.p] at *
  have HS := fun m => strm_step hb hk hBg hlen hel m
  have HX := Lib.hid HS
  clear HS
  unfold maxLen at hlen
  have hc0 : w.cell? ⟨g, 0, none⟩ = some (.slice a len cap) := by simp [World.cell?, hb]
  have hc1 : w.cell? ⟨g, 1, none⟩ = some (.int .i64 k) := by simp [World.cell?, hb]
  have hf1 : w.frozen? ⟨g, 1, none⟩ = false := by simp [World.frozen?, hb]
  have HB := Lib.hid hb
  have HE := Lib.hid hel
  clear hb hel
  by_cases h0 : len = 0
  · subst h0
    go_enter Tryz.func29, Tryz.ntmps29
    go_wp2_with fail
    with_reducible refine (below_any _ _ _ (by omega) (by omega) (by omega)).mono ?_
    rintro e w' ⟨rfl, rfl⟩
    go_wp2_with fail
    go_ret
    exact ⟨_, ⟨bel_nonneg _ _, bel_lt _ _, bel_le _ _ hn'⟩, rfl, HX.out 0⟩
  · obtain ⟨b, off, v, rfl, hbB, hcv, hv1, hv2⟩ := HE.out (k % len) (Nat.mod_lt _ (by omega))
    have hlt : k % len < len := Nat.mod_lt _ (by omega)
    have hne : ((len : Int) == 0) = false := by simp; omega
    have hbg : ¬ b = g := by omega
    go_enter Tryz.func29, Tryz.ntmps29
    go_wp2_with fail
    go_quiet (fail)
    go_wp2_with fail
    go_quiet (fail)
    go_wp2_with fail
    with_reducible refine (below_any _ _ _ (by omega) (by omega) (by omega)).mono ?_
    rintro e w' ⟨rfl, rfl⟩
    go_wp2_with fail
    with_reducible refine (below_any _ _ _ (wrap64_bd _).1 (wrap64_bd _).2 (by omega)).mono ?_
    rintro e w' ⟨rfl, rfl⟩
    go_wp2_with fail
    go_ret
    exact ⟨_, ⟨bel_nonneg _ _, bel_lt _ _, bel_le _ _ hn'⟩, rfl, HX.out _⟩
theorem strm_below {w w' : World} {S : SC} {K : Nat} (h : Strm w S K) (hb : Below w.heap.size w w') : Strm w' S K := by
  obtain ⟨⟨k, hk, hbk⟩, hBg, hlen, hel⟩ := h
  have hg : S.g < w.heap.size := by
    rcases Nat.lt_or_ge S.g w.heap.size with h | h
    · exact h
    · rw [Array.getElem?_eq_none h] at hbk; cases hbk
  refine ⟨⟨k, hk, (hb.block _ hg).trans hbk⟩, hBg, hlen, fun i hi => ?_⟩
  obtain ⟨b, off, n, h1, h2, h3, h4⟩ := hel i hi
  exact ⟨b, off, n, h1, h2, (hb.cell (p := ⟨b, off + i, none⟩) (by show b < _; omega)).trans h3, h4⟩
theorem strm_lt {w : World} {S : SC} {K : Nat} (h : Strm w S K) : S.g < w.heap.size := by
  obtain ⟨⟨k, hk, hbk⟩, _⟩ := h
  rcases Nat.lt_or_ge S.g w.heap.size with h | h
  · exact h
  · rw [Array.getElem?_eq_none h] at hbk; cases hbk
theorem strm_mono {w : World} {S : SC} {K K' : Nat} (h : Strm w S K) (hK : K ≤ K') : Strm w S K' := by
  obtain ⟨⟨k, hk, hbk⟩, h2⟩ := h
  exact ⟨⟨k, by omega, hbk⟩, h2⟩
theorem strm_alloc {w : World} {S : SC} {K : Nat} (h : Strm w S K) (o : Obj) : Strm (w.alloc o) S K := strm_below h ((Below.refl _ _).alloc (Nat.le_refl _) o)
theorem strm_drew {w : World} {S : SC} {K : Nat} (h : Strm w S K) : Strm w.drew S K := h
theorem grown_of_below {a w : World} (h : Below a.heap.size a w) (row : Option Nat) : a.grownBy w row := ⟨h.os, h.tape, h.output, h.size, fun i hi _ => h.block i hi⟩
theorem grown_trans {a b c : World} {row : Option Nat} (h : a.grownBy b row) (k : b.grownBy c row) : a.grownBy c row :=
  ⟨k.os.trans h.os, k.tape.trans h.tape, k.output.trans h.output, Nat.le_trans h.size k.size, fun i hi hne => (k.block i (Nat.lt_of_lt_of_le hi h.size) hne).trans (h.block i hi hne)⟩
theorem grown_alloc {a w : World} {row : Option Nat} (h : a.grownBy w row) (o : Obj) : a.grownBy (w.alloc o) row := grown_trans h (World.grownBy_alloc w o row)
theorem grown_drew {a w : World} {row : Option Nat} (h : a.grownBy w row) : a.grownBy w.drew row := ⟨h.os, h.tape, h.output, h.size, h.block⟩
theorem grown_set {a w : World} {g : Nat} (h : a.grownBy w (some g)) {p : Addr} (hp : p.block = g ∨ a.heap.size ≤ p.block) (u : Value) : a.grownBy (w.setCell p u) (some g) :=
  ⟨h.os, h.tape, h.output, by simpa [World.setCell] using h.size, fun i hi hne => (Below.heap_setCell w p u i (by
    rintro rfl
    rcases hp with hp | hp
    · exact hne (by rw [hp])
    · omega)).trans (h.block i hi hne)⟩
end Go.Proofs.YtfdpfkdfglombaaGreatDoor
