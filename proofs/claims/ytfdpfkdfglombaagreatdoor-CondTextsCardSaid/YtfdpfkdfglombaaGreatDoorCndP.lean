/- What is wrong with a condition, as plain lists: for each by itself, and for the whole. -/
import Derived.Test.YtfdpfkdfglombaaGreatDoorCnd
import Derived.Test.YtfdpfkdfglombaaGreatDoorSeen
import Derived.Test.YtfdpfkdfglombaaGreatDoorIsKey
import Derived.Lib.ValidAsc
set_option linter.unusedVariables false
namespace Go.Proofs.YtfdpfkdfglombaaGreatDoor
open Go.RowKit

/-- the words that are no names, and the signs -/
def wrdL : List ByteArray := [⟨#[97, 108, 108]⟩, ⟨#[110, 111, 110, 101]⟩, ⟨#[97, 110, 100]⟩, ⟨#[111, 114]⟩, ⟨#[110, 111, 116]⟩, ⟨#[104, 97, 115]⟩, ⟨#[105, 110]⟩, ⟨#[98, 101, 103, 105, 110, 115]⟩, ⟨#[99, 111, 110, 116, 97, 105, 110, 115]⟩, ⟨#[99, 111, 117, 110, 116]⟩, ⟨#[115, 117, 109]⟩, ⟨#[115, 105, 110, 99, 101]⟩, ⟨#[116, 104, 101, 110]⟩, ⟨#[119, 104, 101, 114, 101]⟩, ⟨#[119, 105, 116, 104, 105, 110]⟩, ⟨#[100, 97, 121, 115]⟩, ⟨#[104, 111, 117, 114, 115]⟩, ⟨#[109, 105, 110, 117, 116, 101, 115]⟩, ⟨#[121, 101, 115]⟩, ⟨#[110, 111]⟩]
def sgnL : List ByteArray := [⟨#[61]⟩, ⟨#[33, 61]⟩, ⟨#[60]⟩, ⟨#[60, 61]⟩, ⟨#[62]⟩, ⟨#[62, 61]⟩]
def nmB (s : ByteArray) : Bool := keyB s && !hasS wrdL s
/-- a text of a value -/
def txB (s : ByteArray) : Bool := Lib.validD s.data.toList && s.data.toList.all fun b => decide (32 ≤ b.toNat) && !decide (b.toNat = 127)
def loV (k : Int) : Int := if k = 2 then -1000000000000 else 0
def hiV (k : Int) : Int := if k = 2 then 1000000000000 else if k = 3 then 1 else 4321439
/-- what is wrong with a value -/
def vlE (v : Vl) : Int :=
  if v.kind < 1 ∨ 4 < v.kind then 4 else
  if v.kind = 1 then (if v.num ≠ 0 then 3 else if 200 < v.text.size then 2 else if txB v.text = false then 3 else 0) else
  if v.text.size ≠ 0 then 3 else if v.num < loV v.kind ∨ hiV v.kind < v.num then 1 else 0
/-- the first error of a list -/
def fstE {α : Type} (f : α → Int) : List α → Int
  | [] => 0
  | x :: r => if f x = 0 then fstE f r else f x
theorem fstE_drop {α : Type} (f : α → Int) (l : List α) (k : Nat) (h : k < l.length) : fstE f (l.drop k) = if f l[k] = 0 then fstE f (l.drop (k + 1)) else f l[k] := by
  rw [List.drop_eq_getElem_cons h]; rfl
theorem fstE_zero {α : Type} (f : α → Int) : ∀ (l : List α), fstE f l = 0 → ∀ x ∈ l, f x = 0
  | [], _, _, h => by cases h
  | y :: r, h, x, hx => by
    unfold fstE at h
    by_cases h0 : f y = 0
    · rw [if_pos h0] at h
      rcases List.mem_cons.1 hx with rfl | hx
      · exact h0
      · exact fstE_zero f r h x hx
    · rw [if_neg h0] at h; exact absurd h h0
/-- what is wrong with a comparison -/
def whE (x : Wh) : Int := if nmB x.field = false then 5 else if hasS sgnL x.sign = false then 4 else vlE x.val
/-- what a kind uses -/
def uNm (k : Int) : Bool := decide (6 ≤ k ∧ k ≤ 14)
def uFd (k : Int) : Bool := decide (k = 12 ∨ k = 14)
def uSg (k : Int) : Bool := decide (k = 7 ∨ k = 11 ∨ k = 12 ∨ k = 13)
def uWh (k : Int) : Bool := decide (k = 11 ∨ k = 12 ∨ k = 13)
def uWi (k : Int) : Bool := decide (k = 11 ∨ k = 12 ∨ k = 14)
def uNu (k : Int) : Bool := decide (k = 11 ∨ k = 12 ∨ k = 13)
def loVs (k : Int) : Nat := if k = 7 ∨ k = 8 ∨ k = 9 ∨ k = 10 then 1 else 0
def hiVs (k : Int) : Nat := if k = 8 then 50 else if k = 7 ∨ k = 9 ∨ k = 10 then 1 else 0
def loAs (k : Int) : Nat := if k = 3 ∨ k = 4 then 2 else if k = 5 then 1 else 0
def hiAs (k : Int) : Nat := if k = 3 ∨ k = 4 then 1073741824 else if k = 5 then 1 else 0
def hiWh (k : Int) : Nat := if uWh k = true then 5 else 0
/-- it has just what its kind uses -/
def frmB (n : Nd) (na : Nat) : Bool :=
  !((!uNm n.kind && !decide (n.name.size = 0)) || (!uFd n.kind && !decide (n.field.size = 0)) || (!uSg n.kind && !decide (n.sign.size = 0)) || (!uWi n.kind && !decide (n.within = 0)) || (!uNu n.kind && !decide (n.number = 0))) &&
  decide (loVs n.kind ≤ n.vals.length ∧ n.vals.length ≤ hiVs n.kind) && decide (loAs n.kind ≤ na ∧ na ≤ hiAs n.kind) && decide (n.whs.length ≤ hiWh n.kind)
def loNu (k : Int) : Int := if k = 13 then 0 else -5000000000000000
def hiNu (k : Int) : Int := if k = 13 then 4321440 else 5000000000000000
/-- what is wrong with a condition, without those in it -/
def ndE (n : Nd) (na : Nat) : Int :=
  if n.kind < 1 ∨ 14 < n.kind then 4 else
  if frmB n na = false then 3 else
  if (uNm n.kind = true ∧ nmB n.name = false) ∨ (uFd n.kind = true ∧ nmB n.field = false) then 5 else
  if uSg n.kind = true ∧ hasS sgnL n.sign = false then 4 else
  if fstE vlE n.vals ≠ 0 then fstE vlE n.vals else
  if (n.kind = 9 ∨ n.kind = 10) ∧ (n.vals.getD 0 default).kind ≠ 1 then 10 else
  if fstE whE n.whs ≠ 0 then fstE whE n.whs else
  if (n.within < 0 ∨ 4321440 < n.within) ∨ (n.number < loNu n.kind ∨ hiNu n.kind < n.number) then 1 else 0
/-- what is wrong with a condition and those in it -/
def trE : Nat → Cn → Int
  | 0, _ => 0
  | d + 1, c => if ndE c.nd c.args.length ≠ 0 then ndE c.nd c.args.length else fstE (trE d) c.args
/-- the whole -/
def cnE (d : Nat) (c : Cn) : Int := if 300 < szN d c ∨ 20 < dpN d c then 2 else trE d c

/-- how the program counts: it stops as soon as it is too much -/
def lgL (f : Cn → Nat → Bool × Nat) : List Cn → Nat → Bool × Nat
  | [], k => (false, k)
  | x :: r, k => if (f x k).1 = true then (true, (f x k).2) else lgL f r (f x k).2
def lgF : Nat → Nat → Cn → Nat → Bool × Nat
  | 0, _, _, k => (false, k)
  | d + 1, lv, c, k => if 300 < k + 1 ∨ 20 < lv then (true, k + 1) else lgL (lgF d (lv + 1)) c.args (k + 1)
theorem foldl_max_le : ∀ (l : List Nat) (a : Nat), a ≤ l.foldl max a ∧ ∀ x ∈ l, x ≤ l.foldl max a
  | [], a => ⟨Nat.le_refl _, fun _ h => by cases h⟩
  | y :: r, a => by
    obtain ⟨h1, h2⟩ := foldl_max_le r (max a y)
    refine ⟨by simp only [List.foldl_cons]; omega, fun x hx => ?_⟩
    simp only [List.foldl_cons]
    rcases List.mem_cons.1 hx with rfl | hx
    · omega
    · exact h2 x hx
theorem foldl_max_lt : ∀ (l : List Nat) (a M : Nat), a ≤ M → (∀ x ∈ l, x ≤ M) → l.foldl max a ≤ M
  | [], a, M, h, _ => h
  | y :: r, a, M, h, h2 => foldl_max_lt r (max a y) M (by have := h2 y (by simp); omega) (fun x hx => h2 x (by simp [hx]))
/-- what the count says, where it does not stop and where it does -/
theorem lgF_law : ∀ (d lv : Nat) (c : Cn) (k : Nat), k ≤ 300 → lv ≤ 21 →
    if 300 < k + szN d c ∨ 21 < lv + dpN d c then (lgF d lv c k).1 = true ∧ k ≤ (lgF d lv c k).2 else lgF d lv c k = (false, k + szN d c)
  | 0, lv, c, k, hk, hl => by
    have e1 : szN 0 c = 0 := rfl
    have e2 : dpN 0 c = 0 := rfl
    rw [if_neg (by omega)]
    rfl
  | d + 1, lv, c, k, hk, hl => by
    have key : ∀ (l : List Cn) (k : Nat), k ≤ 300 → lv ≤ 20 →
        if 300 < k + (l.map (szN d)).sum ∨ 21 < lv + 1 + (l.map (dpN d)).foldl max 0 then (lgL (lgF d (lv + 1)) l k).1 = true ∧ k ≤ (lgL (lgF d (lv + 1)) l k).2 else lgL (lgF d (lv + 1)) l k = (false, k + (l.map (szN d)).sum) := by
      intro l
      induction l with
      | nil =>
        intro k hk hl
        rw [if_neg (by simp; omega)]
        simp [lgL]
      | cons x r ih =>
        intro k hk hl
        have h0 := lgF_law d (lv + 1) x k hk (by omega)
        have hm : ((x :: r).map (dpN d)).foldl max 0 = max (dpN d x) ((r.map (dpN d)).foldl max 0) := by
          obtain ⟨a1, a2⟩ := foldl_max_le ((x :: r).map (dpN d)) 0
          obtain ⟨b1, b2⟩ := foldl_max_le (r.map (dpN d)) 0
          apply Nat.le_antisymm
          · refine foldl_max_lt _ _ _ (by omega) (fun y hy => ?_)
            rw [List.map_cons, List.mem_cons] at hy
            rcases hy with rfl | hy
            · omega
            · have := b2 y hy; omega
          · have h1 := a2 (dpN d x) (by simp)
            have h2 := foldl_max_lt (r.map (dpN d)) 0 (((x :: r).map (dpN d)).foldl max 0) (by omega) (fun y hy => a2 y (by rw [List.map_cons]; exact List.mem_cons_of_mem _ hy))
            omega
        have hs : ((x :: r).map (szN d)).sum = szN d x + (r.map (szN d)).sum := by simp
        rw [hm, hs]
        by_cases hc : 300 < k + szN d x ∨ 21 < lv + 1 + dpN d x
        · rw [if_pos hc] at h0
          rw [if_pos (by omega)]
          have : lgL (lgF d (lv + 1)) (x :: r) k = (true, (lgF d (lv + 1) x k).2) := by
            show (if _ then _ else _) = _
            rw [if_pos h0.1]
          rw [this]
          exact ⟨rfl, h0.2⟩
        · rw [if_neg hc] at h0
          have h2 := ih (k + szN d x) (by omega) hl
          have : lgL (lgF d (lv + 1)) (x :: r) k = lgL (lgF d (lv + 1)) r (k + szN d x) := by
            show (if _ then _ else _) = _
            rw [h0]
            rfl
          rw [this]
          by_cases hc2 : 300 < k + szN d x + (r.map (szN d)).sum ∨ 21 < lv + 1 + (r.map (dpN d)).foldl max 0
          · rw [if_pos hc2] at h2
            rw [if_pos (by omega)]
            exact ⟨h2.1, by omega⟩
          · rw [if_neg hc2] at h2
            rw [if_neg (by omega), h2, Nat.add_assoc]
    have e1 : szN (d + 1) c = 1 + (c.args.map (szN d)).sum := rfl
    have e2 : dpN (d + 1) c = 1 + (c.args.map (dpN d)).foldl max 0 := rfl
    have e3 : lgF (d + 1) lv c k = if 300 < k + 1 ∨ 20 < lv then (true, k + 1) else lgL (lgF d (lv + 1)) c.args (k + 1) := rfl
    rw [e1, e2, e3]
    by_cases h0 : 300 < k + 1 ∨ 20 < lv
    · rw [if_pos h0, if_pos (by omega)]
      exact ⟨rfl, by show k ≤ k + 1; omega⟩
    · rw [if_neg h0]
      have h2 := key c.args (k + 1) (by omega) (by omega)
      by_cases hc2 : 300 < k + 1 + (c.args.map (szN d)).sum ∨ 21 < lv + 1 + (c.args.map (dpN d)).foldl max 0
      · rw [if_pos hc2] at h2
        rw [if_pos (by omega)]
        exact ⟨h2.1, by omega⟩
      · rw [if_neg hc2] at h2
        rw [if_neg (by omega), h2]
        congr 1
        omega
/-- too large: as the program counts -/
theorem lg_large (d : Nat) (c : Cn) : (lgF d 1 c 0).1 = decide (300 < szN d c ∨ 20 < dpN d c) := by
  have h := lgF_law d 1 c 0 (by omega) (by omega)
  by_cases hc : 300 < szN d c ∨ 20 < dpN d c
  · rw [if_pos (by omega)] at h
    rw [h.1]; exact (decide_eq_true hc).symm
  · rw [if_neg (by omega)] at h
    rw [h]; exact (decide_eq_false hc).symm
end Go.Proofs.YtfdpfkdfglombaaGreatDoor
