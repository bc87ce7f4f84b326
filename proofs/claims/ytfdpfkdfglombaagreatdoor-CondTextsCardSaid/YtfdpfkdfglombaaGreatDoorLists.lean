/- Lists of strings, and a row of such lists of one's own, each of which may grow. -/
import Derived.Test.YtfdpfkdfglombaaGreatDoorRowG
import Derived.Test.YtfdpfkdfglombaaGreatDoorRecs
import Derived.Test.YtfdpfkdfglombaaGreatDoorKeys
import Derived.Test.YtfdpfkdfglombaaGreatDoorShelf
import Derived.Test.YtfdpfkdfglombaaGreatDoorSeen
import Derived.Deep.AppendLies
import Derived.Shelf.Slices.Turned
set_option linter.unusedVariables false
namespace Go.Proofs.YtfdpfkdfglombaaGreatDoor
open Go.RowKit

/-- the slice at a reads as the strings l -/
def StrsAt (w : World) (a : Option Addr) (l : List ByteArray) : Prop :=
  ∀ j (hj : j < l.length), ∃ p off, a = some ⟨p, off, none⟩ ∧ p < w.heap.size ∧ w.cell? ⟨p, off + j, none⟩ = some (.string l[j])
theorem StrsAt.nil (w : World) (a : Option Addr) : StrsAt w a [] := fun j hj => by simp at hj
theorem StrsAt.of_rat {w : World} {a : Option Addr} {l : List ByteArray} (h : RAt w a 1 sCell l) : StrsAt w a l := by
  intro j hj
  obtain ⟨p, off, h1, h2, h3⟩ := h j hj
  have := h3 0 (.string l[j]) rfl
  rw [Nat.mul_one, Nat.add_zero] at this
  exact ⟨p, off, h1, h2, this⟩
theorem StrsAt.below {w w' : World} {a : Option Addr} {l : List ByteArray} (h : StrsAt w a l) (hb : Below w.heap.size w w') : StrsAt w' a l := by
  intro j hj
  obtain ⟨p, off, h1, h2, h3⟩ := h j hj
  exact ⟨p, off, h1, Nat.lt_of_lt_of_le h2 hb.size, (hb.cell (p := ⟨p, off + j, none⟩) h2).trans h3⟩
theorem StrsAt.grown {w w' : World} {a : Option Addr} {l : List ByteArray} {g : Nat} (h : StrsAt w a l) (hb : w.grownBy w' (some g)) (hg : ∀ p off, a = some ⟨p, off, none⟩ → p ≠ g) : StrsAt w' a l := by
  intro j hj
  obtain ⟨p, off, h1, h2, h3⟩ := h j hj
  exact ⟨p, off, h1, Nat.lt_of_lt_of_le h2 hb.size, hb.cell h3 (by have := hg p off h1; simpa using this)⟩
theorem StrsAt.of_own {w : World} {b0 : Nat} {t : TypeId} {v : Value} {l : List ByteArray} (h : w.ownsRow b0 t 1 v l.length (l.map Value.string)) : ∃ a c, v = .slice a l.length c ∧ StrsAt w a l := by
  have e : ∀ l : List ByteArray, l.map Value.string = l.flatMap sCell := fun l => by
    induction l with
    | nil => rfl
    | cons x l ih => rw [List.map_cons, List.flatMap_cons, ih]; rfl
  rw [e l] at h
  obtain ⟨a, c, h1, h2, -⟩ := RAt.of_own h (fun x _ => rfl)
  exact ⟨a, c, h1, .of_rat h2⟩

/-- the value v reads as the lists L -/
def SSAt (w : World) (v : Value) (L : List (List ByteArray)) : Prop :=
  ∃ a c, v = .slice a L.length c ∧ ∀ j (hj : j < L.length), ∃ p off, a = some ⟨p, off, none⟩ ∧ p < w.heap.size ∧ ∃ a' c', w.cell? ⟨p, off + j, none⟩ = some (.slice a' L[j].length c') ∧ StrsAt w a' L[j]
theorem SSAt.nil (w : World) : SSAt w (.slice none 0 0) [] := ⟨none, 0, rfl, fun j hj => by simp at hj⟩
theorem SSAt.below {w w' : World} {v : Value} {L : List (List ByteArray)} (h : SSAt w v L) (hb : Below w.heap.size w w') : SSAt w' v L := by
  obtain ⟨a, c, rfl, h⟩ := h
  refine ⟨a, c, rfl, fun j hj => ?_⟩
  obtain ⟨p, off, h1, h2, a', c', h3, h4⟩ := h j hj
  exact ⟨p, off, h1, Nat.lt_of_lt_of_le h2 hb.size, a', c', (hb.cell (p := ⟨p, off + j, none⟩) h2).trans h3, h4.below hb⟩

/-- block B is a row of m lists of one's own, which read as L -/
structure LL (b0 : Nat) (wr : World) (B m : Nat) (f : Nat → Value) (L : List (List ByteArray)) : Prop where
  len : L.length = m
  row : RowG wr B m f
  own : ∀ j (hj : j < L.length), wr.ownsRow b0 9 1 (f j) L[j].length (L[j].map Value.string)
  apart : ∀ i j, i < m → j < m → i ≠ j → ∀ g, (f i).ownBlock = some g → (f j).ownBlock ≠ some g
  hB : B < b0
section
variable {b0 : Nat} {wr wr' : World} {B m : Nat} {f : Nat → Value} {L : List (List ByteArray)}
theorem LL.below (h : LL b0 wr B m f L) (hb : Below wr.heap.size wr wr') : LL b0 wr' B m f L :=
  ⟨h.len, h.row.below hb, fun j hj => (h.own j hj).kept (grown_of_below hb none) (by cases (f j).ownBlock <;> simp), h.apart, h.hB⟩
theorem LL.ss (h : LL b0 wr B m f L) : SSAt wr (.slice (some ⟨B, 0, none⟩) m m) L := by
  have hl := h.len
  refine ⟨some ⟨B, 0, none⟩, m, by rw [hl], fun j hj => ⟨B, 0, rfl, h.row.lt, ?_⟩⟩
  obtain ⟨a, c, e, hs⟩ := StrsAt.of_own (h.own j hj)
  refine ⟨a, c, ?_, hs⟩
  rw [Nat.zero_add, h.row.cell j (by omega), e]
/-- a string more in list i -/
theorem LL.app {i g cap : Nat} {W w1 : World} {x : ByteArray} (h : LL b0 wr B m f L) (hi : i < L.length) (hR : wr.grownBy W none) (hb : b0 ≤ wr.heap.size)
    (hown : w1.ownsRow b0 9 1 (.slice (some ⟨g, 0, none⟩) (L[i].length + 1) cap) (L[i].length + 1) (L[i].map Value.string ++ [.string x])) (hgrow : W.grownBy w1 (f i).ownBlock) (hat : (f i).ownBlock = some g ∨ g = W.heap.size) :
    w1.cell? ⟨B, i, none⟩ = some (f i) ∧ w1.frozen? ⟨B, i, none⟩ = false ∧
    LL b0 (w1.setCell ⟨B, i, none⟩ (.slice (some ⟨g, 0, none⟩) (L[i].length + 1) cap)) B m (fun j => if j = i then .slice (some ⟨g, 0, none⟩) (L[i].length + 1) cap else f j) (L.set i (L[i] ++ [x])) := by
  have hl := h.len
  have hBb := h.hB
  have hrowlt : ∀ j (hj : j < L.length) k, (f j).ownBlock = some k → b0 ≤ k ∧ k < wr.heap.size := fun j hj k hk => (h.own j hj).lt k hk
  have hR1 : RowG w1 B m f := (h.row.grown hR (by simp)).grown hgrow (fun e => by have := (hrowlt i hi B e.symm).1; omega)
  have hz := hR.size
  have hset : w1.grownBy (w1.setCell ⟨B, i, none⟩ (.slice (some ⟨g, 0, none⟩) (L[i].length + 1) cap)) (some B) := ⟨rfl, rfl, rfl, by simp [World.setCell], fun k _ hne => Below.heap_setCell w1 _ _ k (by rintro rfl; exact hne rfl)⟩
  have hgb : b0 ≤ g := (hown.lt g (by simp [Value.ownBlock])).1
  refine ⟨hR1.cell i (by omega), hR1.free i (by omega), by simp [hl], hR1.set i (by omega) _, fun j hj => ?_, fun a b ha hb' hab k hk => ?_, h.hB⟩
  · have hj' : j < L.length := by simpa using hj
    by_cases e : j = i
    · subst e
      simp only [if_pos, List.getElem_set_self, List.length_append, List.length_singleton, List.map_append, List.map_cons, List.map_nil]
      exact hown.kept hset (.inr (by simp [Value.ownBlock]; omega))
    · rw [if_neg e]
      have hs : (L.set i (L[i] ++ [x]))[j] = L[j] := List.getElem_set_ne (fun h => e h.symm) _
      rw [hs]
      have h1 := h.own j hj'
      have h2 := h1.kept hR (by cases (f j).ownBlock <;> simp)
      have h3 := h2.kept hgrow (by
        cases hv : (f j).ownBlock with
        | none => exact .inl rfl
        | some k => exact .inr fun e' => h.apart i j (by omega) (by omega) (fun h => e h.symm) k e'.symm hv)
      refine h3.kept hset ?_
      cases hv : (f j).ownBlock with
      | none => exact .inl rfl
      | some k => exact .inr (by have := (hrowlt j hj' k hv).1; simp; omega)
  · have hfar : ∀ j, j < m → j ≠ i → (f j).ownBlock ≠ some g := fun j hj hji e => by
      rcases hat with hat | hat
      · exact h.apart i j (by omega) hj (fun h => hji h.symm) g hat e
      · have := (hrowlt j (by omega) g e).2
        omega
    by_cases e1 : a = i
    · rw [if_pos e1] at hk
      have : g = k := by simpa [Value.ownBlock] using hk
      subst this
      rw [if_neg (fun e2 => hab (e1.trans e2.symm))]
      exact hfar b hb' (fun e2 => hab (e1.trans e2.symm))
    · rw [if_neg e1] at hk
      by_cases e2 : b = i
      · rw [if_pos e2]
        intro hk'
        have : g = k := by simpa [Value.ownBlock] using hk'
        subst this
        exact hfar a ha e1 hk
      · rw [if_neg e2]
        exact h.apart a b ha hb' hab k hk
theorem LL.new {z : Value} (hz : z = .slice none 0 0) (h : RowG wr B m (fun _ => z)) (hB : B < b0) : LL b0 wr B m (fun _ => z) (List.replicate m []) := by
  subst hz
  refine ⟨by simp, h, fun j hj => ?_, fun i j _ _ _ g hg => by simp [Value.ownBlock] at hg, hB⟩
  rw [List.getElem_replicate]
  exact World.ownsRow_nil _ _ _ _
end

theorem contS_eq (l : List ByteArray) (x : ByteArray) : Lib.containsS l x = hasS l x := by
  rw [Bool.eq_iff_iff, Lib.containsS_iff]
  unfold hasS
  rw [List.any_eq_true]
  constructor
  · intro h; exact ⟨x, h, by simp⟩
  · rintro ⟨y, hy, e⟩
    have e' : y.data.toList = x.data.toList := of_decide_eq_true e
    have : y = x := by
      cases y; cases x
      simp only [ByteArray.mk.injEq]
      exact Array.toList_inj.1 e'
    exact this ▸ hy

/-- slices.Contains over strings -/
theorem contains_strs (a : Option Addr) (l : List ByteArray) (n c : Nat) (x : ByteArray) (w : World) (hn : l.length = n) (hn1 : n ≤ 1000) (h : StrsAt w a l) :
    Calls Tryz.prog 97 #[.slice a n c, .string x] w fun e w' => e = .returned (.bool (hasS l x)) ∧ w' = w := by
  subst hn
  cases l with
  | nil => exact Tryz.slices_Contains_string_empty a c x w
  | cons y l =>
    obtain ⟨p, off, rfl, -, -⟩ := h 0 (by simp)
    refine (Tryz.slices_Contains_string p off (y :: l).length c (y :: l) x w (Nat.le_refl _) (by omega) (fun j hj => ?_)).mono ?_
    · obtain ⟨p', off', h1, h2, h3⟩ := h j hj
      injection h1 with h1
      injection h1 with e1 e2
      subst e1 e2
      rw [h3, List.getD_eq_getElem?_getD, List.getElem?_eq_getElem hj]
      rfl
    · rintro e w' ⟨rfl, rfl⟩
      rw [List.take_length, contS_eq]
      exact ⟨rfl, rfl⟩
/-- slices.Equal over strings -/
theorem equal_strs (a a' : Option Addr) (l : List ByteArray) (n c c' : Nat) (w : World) (hn : l.length = n) (hn1 : n ≤ 1000) (h : StrsAt w a l) (h' : StrsAt w a' l) :
    Calls Tryz.prog 20 #[.slice a n c, .slice a' n c'] w fun e w' => e = .returned (.bool true) ∧ ∃ q, w' = w.drewN q := by
  subst hn
  cases l with
  | nil =>
    refine (Tryz.slices_Equal_string_empty a a' c 0 c' w (by omega)).mono ?_
    rintro e w' ⟨rfl, rfl⟩
    exact ⟨rfl, 0, rfl⟩
  | cons y l =>
    obtain ⟨p, off, rfl, -, -⟩ := h 0 (by simp)
    obtain ⟨p2, off2, rfl, -, -⟩ := h' 0 (by simp)
    refine (Tryz.slices_Equal_string p off (y :: l).length c p2 off2 (y :: l).length c' (y :: l) (y :: l) w (Nat.le_refl _) (Nat.le_refl _) (by omega) (by omega) (fun j hj => ?_) (fun j hj => ?_)).mono ?_
    · obtain ⟨p', off', h1, h2, h3⟩ := h j hj
      injection h1 with h1
      injection h1 with e1 e2
      subst e1 e2
      rw [h3, List.getD_eq_getElem?_getD, List.getElem?_eq_getElem hj]
      rfl
    · obtain ⟨p', off', h1, h2, h3⟩ := h' j hj
      injection h1 with h1
      injection h1 with e1 e2
      subst e1 e2
      rw [h3, List.getD_eq_getElem?_getD, List.getElem?_eq_getElem hj]
      rfl
    · rintro e w' ⟨rfl, hw⟩
      exact ⟨by simp, hw⟩
end Go.Proofs.YtfdpfkdfglombaaGreatDoor
