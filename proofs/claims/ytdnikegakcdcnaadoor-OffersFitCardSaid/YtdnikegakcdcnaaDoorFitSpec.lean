/- Whether an offer fits a basket, in plain words. -/
import Derived.Test.YtdnikegakcdcnaaDoorOfSpec
set_option linter.unusedVariables false
namespace Go.Proofs.YtdnikegakcdcnaaDoor
open Go.RowKit

/-- the cents of the items that f takes -/
def fitS (f : It → Bool) : List It → Int
  | [] => 0
  | y :: l => (if f y = true then y.cents * y.many else 0) + fitS f l
theorem fitS_app (f : It → Bool) (l m : List It) : fitS f (l ++ m) = fitS f l + fitS f m := by
  induction l with
  | nil => simp [fitS]
  | cons x l ih => simp only [List.cons_append, fitS, ih]; omega
theorem fitS_succ (f : It → Bool) (l : List It) (k : Nat) (h : k < l.length) : fitS f (l.take (k + 1)) = fitS f (l.take k) + (if f l[k] = true then l[k].cents * l[k].many else 0) := by
  rw [List.take_succ_eq_append_getElem h, fitS_app]
  simp [fitS]
theorem itB_bd {x : It} (h : itB x = true) : 0 ≤ x.cents ∧ x.cents ≤ 10000000 ∧ 1 ≤ x.many ∧ x.many ≤ 100 := by
  unfold itB at h
  simp only [Bool.and_eq_true, decide_eq_true_eq] at h
  omega
theorem it_mul {x : It} (h : itB x = true) : 0 ≤ x.cents * x.many ∧ x.cents * x.many ≤ 1000000000 := by
  obtain ⟨h0, h1, h2, h3⟩ := itB_bd h
  have a1 : 0 ≤ x.cents * x.many := Int.mul_nonneg h0 (by omega)
  have a2 : x.cents * x.many ≤ 10000000 * x.many := Int.mul_le_mul_of_nonneg_right h1 (by omega)
  omega
theorem fitS_bd (f : It → Bool) (l : List It) (h : ∀ x ∈ l, itB x = true) : 0 ≤ fitS f l ∧ fitS f l ≤ 1000000000 * (l.length : Int) := by
  induction l with
  | nil => simp [fitS]
  | cons x l ih =>
    have h1 := it_mul (h x (by simp))
    have h2 := ih fun y hy => h y (by simp [hy])
    simp only [fitS, List.length_cons]
    split <;> omega
theorem fitS_eq (f g : It → Bool) (l : List It) (h : ∀ x ∈ l, f x = g x) : fitS f l = fitS g l := by
  induction l with
  | nil => rfl
  | cons x l ih => simp only [fitS]; rw [h x (by simp), ih fun y hy => h y (by simp [hy])]
/-- what the offer takes of the basket -/
def fitA (x : Of) (l : List It) : Int := fitS (fun y => mtB x y) l
def fitV (x : Of) (l : List It) (ship t : Int) : Int :=
  if t < x.from_ then 1 else if x.to_ ≤ t then 2 else if (if x.kind = 4 then ship = 0 else fitA x l = 0) then 3 else if fitA x l < x.least then 4 else 0
theorem itGo_ok : ∀ (r pre : List It), itGo pre r = 0 → ∀ x ∈ r, itB x = true
  | [], _, _ => by simp
  | y :: r, pre, h => by
    unfold itGo at h
    split at h
    · rename_i h0
      intro x hx
      rcases List.mem_cons.1 hx with rfl | hx
      · unfold itstepE itSt at h0
        split at h0
        · omega
        · split at h0
          · omega
          · split at h0
            · omega
            · rename_i h3
              simpa using h3
      · exact itGo_ok r (pre ++ [y]) h x hx
    · rename_i h0
      exact absurd h h0
end Go.Proofs.YtdnikegakcdcnaaDoor
/- Offers that can be used together, in plain words: one pass over the list, or all pairs. -/
set_option linter.unusedVariables false
namespace Go.Proofs.YtdnikegakcdcnaaDoor
open Go.RowKit

/-- an offer cannot be used beside those before it -/
def tgS (n : Nat) (pre : List Of) (x : Of) : Bool := (x.alone && decide (1 < n)) || (!decide (x.group.size = 0) && hasS (pre.map Of.group) x.group)
def togGo (n : Nat) : List Of → List Of → Bool
  | _, [] => true
  | pre, x :: r => if tgS n pre x = true then false else togGo n (pre ++ [x]) r
def togB (l : List Of) : Bool := togGo l.length [] l
/-- two offers cannot be used together -/
def prB (x y : Of) : Bool := x.alone || y.alone || (!decide (x.group.size = 0) && decide (y.group.data.toList = x.group.data.toList))
def refGo : List Of → List Of → Bool
  | _, [] => true
  | pre, x :: r => if (pre.any fun y => prB x y) = true then false else refGo (pre ++ [x]) r
theorem togGo_iff (n : Nat) : ∀ (r pre : List Of), togGo n pre r = true ↔ ∀ k (h : k < r.length), tgS n (pre ++ r.take k) r[k] = false
  | [], pre => by simp [togGo]
  | x :: r, pre => by
    unfold togGo
    cases hx : tgS n pre x with
    | true =>
      simp only [if_true]
      constructor
      · intro h; cases h
      · intro h
        have := h 0 (by simp)
        simp [hx] at this
    | false =>
      rw [if_neg (by simp)]
      rw [togGo_iff n r (pre ++ [x])]
      constructor
      · intro h k hk
        cases k with
        | zero => simpa using hx
        | succ k =>
          have := h k (by simpa using hk)
          simpa using this
      · intro h k hk
        have := h (k + 1) (by simpa using hk)
        simpa using this
theorem refGo_iff : ∀ (r pre : List Of), refGo pre r = true ↔ ∀ k (h : k < r.length), ((pre ++ r.take k).any fun y => prB r[k] y) = false
  | [], pre => by simp [refGo]
  | x :: r, pre => by
    unfold refGo
    cases hx : (pre.any fun y => prB x y) with
    | true =>
      simp only [if_true]
      constructor
      · intro h; cases h
      · intro h
        have := h 0 (by simp)
        rw [show pre ++ (x :: r).take 0 = pre by simp] at this
        rw [show (x :: r)[0] = x from rfl, hx] at this
        cases this
    | false =>
      rw [if_neg (by simp)]
      rw [refGo_iff r (pre ++ [x])]
      constructor
      · intro h k hk
        cases k with
        | zero =>
          rw [show pre ++ (x :: r).take 0 = pre by simp]
          exact hx
        | succ k =>
          have := h k (by simpa using hk)
          rw [show pre ++ (x :: r).take (k + 1) = pre ++ [x] ++ r.take k by simp]
          exact this
      · intro h k hk
        have := h (k + 1) (by simpa using hk)
        rw [show pre ++ (x :: r).take (k + 1) = pre ++ [x] ++ r.take k by simp] at this
        exact this
theorem bool_iff {a b : Bool} (h : a = true ↔ b = true) : a = b := by
  cases a <;> cases b <;> simp_all
theorem togB_ref (l : List Of) : togB l = refGo [] l := by
  refine bool_iff ?_
  unfold togB
  rw [togGo_iff, refGo_iff]
  simp only [List.nil_append]
  constructor
  · intro h k hk
    rw [List.any_eq_false]
    intro y hy
    obtain ⟨j, hj, rfl⟩ := List.mem_iff_getElem.1 hy
    have hjk : j < k := by simp at hj; omega
    have h1 := h k hk
    have h2 := h j (by omega)
    simp only [List.getElem_take]
    unfold tgS at h1 h2
    have hn : decide (1 < l.length) = true := decide_eq_true (by omega)
    rw [hn] at h1 h2
    simp only [Bool.and_true, Bool.or_eq_false_iff] at h1 h2
    unfold prB
    rw [h1.1, h2.1]
    simp only [Bool.false_or]
    intro hc
    rw [Bool.and_eq_true] at hc
    have h3 := h1.2
    rw [hc.1, Bool.true_and] at h3
    have : hasS ((l.take k).map Of.group) l[k].group = true := hasS_hit (x := l[j].group) (List.mem_map.2 ⟨l[j], List.mem_iff_getElem.2 ⟨j, by simp; omega, by simp⟩, rfl⟩) (of_decide_eq_true hc.2)
    rw [this] at h3
    cases h3
  · intro h k hk
    unfold tgS
    rw [Bool.or_eq_false_iff]
    constructor
    · cases ha : l[k].alone with
      | false => rfl
      | true =>
        rw [Bool.true_and]
        refine decide_eq_false fun h1 => ?_
        rcases Nat.eq_zero_or_pos k with rfl | hk0
        · have := h 1 h1
          rw [List.any_eq_false] at this
          have := this l[0] (List.mem_iff_getElem.2 ⟨0, by simp; omega, by simp⟩)
          unfold prB at this
          rw [ha] at this
          simp at this
        · have := h k hk
          rw [List.any_eq_false] at this
          have := this l[0] (List.mem_iff_getElem.2 ⟨0, by simp; omega, by simp⟩)
          unfold prB at this
          rw [ha] at this
          simp at this
    · cases hg : !decide (l[k].group.size = 0) with
      | false => rfl
      | true =>
        rw [Bool.true_and]
        cases hh : hasS ((l.take k).map Of.group) l[k].group with
        | false => rfl
        | true =>
          unfold hasS at hh
          rw [List.any_eq_true] at hh
          obtain ⟨s, hs, he⟩ := hh
          obtain ⟨y, hy, rfl⟩ := List.mem_map.1 hs
          have := h k hk
          rw [List.any_eq_false] at this
          have := this y hy
          unfold prB at this
          rw [hg, he] at this
          simp at this
/-- how far one pass has come -/
def TogInv (l : List Of) (k : Nat) : Prop := togB l = togGo l.length (l.take k) (l.drop k)
theorem TogInv.zero (l : List Of) : TogInv l 0 := rfl
theorem TogInv.step {l : List Of} {k : Nat} (h : TogInv l k) (hk : k < l.length) : (tgS l.length (l.take k) l[k] = true → togB l = false) ∧ (tgS l.length (l.take k) l[k] = false → TogInv l (k + 1)) := by
  unfold TogInv at *
  rw [List.drop_eq_getElem_cons hk, togGo] at h
  refine ⟨fun h0 => ?_, fun h0 => ?_⟩
  · rw [h, if_pos h0]
  · rw [h, if_neg (by rw [h0]; simp), List.take_succ_eq_append_getElem hk]
theorem TogInv.done {l : List Of} {k : Nat} (h : TogInv l k) (hk : l.length ≤ k) : togB l = true := by
  unfold TogInv at h
  rw [h, List.drop_eq_nil_of_le hk]
  rfl
def RefInv (l : List Of) (k : Nat) : Prop := togB l = refGo (l.take k) (l.drop k)
theorem RefInv.zero (l : List Of) : RefInv l 0 := togB_ref l
theorem RefInv.step {l : List Of} {k : Nat} (h : RefInv l k) (hk : k < l.length) : (((l.take k).any fun y => prB l[k] y) = true → togB l = false) ∧ (((l.take k).any fun y => prB l[k] y) = false → RefInv l (k + 1)) := by
  unfold RefInv at *
  rw [List.drop_eq_getElem_cons hk, refGo] at h
  refine ⟨fun h0 => ?_, fun h0 => ?_⟩
  · rw [h, if_pos h0]
  · rw [h, if_neg (by rw [h0]; simp), List.take_succ_eq_append_getElem hk]
theorem RefInv.done {l : List Of} {k : Nat} (h : RefInv l k) (hk : l.length ≤ k) : togB l = true := by
  unfold RefInv at h
  rw [h, List.drop_eq_nil_of_le hk]
  rfl
end Go.Proofs.YtdnikegakcdcnaaDoor
