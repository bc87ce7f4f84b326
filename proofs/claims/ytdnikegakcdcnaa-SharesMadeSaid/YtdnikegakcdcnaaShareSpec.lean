/- What Share answers, in plain words. -/
import Derived.Test.YtdnikegakcdcnaaDeal2
set_option linter.unusedVariables false
namespace Go.Proofs.Ytdnikegakcdcnaa.Deal

def okZ (M z : Int) : Bool := decide (0 ≤ z ∧ z ≤ M)
def okL (M : Int) (zs : List Int) : Bool := zs.all (okZ M)
def zeroL (zs : List Int) : Bool := zs.all fun z => z == 0
def shE (cents : Int) (zs : List Int) : Int :=
  if cents < 0 ∨ 1000000000000 < cents then 1 else if 50 < zs.length then 2 else if okL 1000000000000 zs = false then 1 else if zeroL zs = true then 8 else 0
def shL (cents : Int) (zs : List Int) : List Int := if shE cents zs = 0 then dealL false cents.toNat (zs.map Int.toNat) else []

theorem okL_mem {M : Int} {zs : List Int} (h : okL M zs = true) {z : Int} (hz : z ∈ zs) : 0 ≤ z ∧ z ≤ M := by
  simp [okL, okZ] at h
  exact h z hz
theorem okL_take (M : Int) (zs : List Int) (k : Nat) (hk : k < zs.length) (h : okL M (zs.take k) = true) : okL M (zs.take (k + 1)) = okZ M zs[k] := by
  unfold okL at *
  rw [List.take_succ_eq_append_getElem hk, List.all_append, h]
  simp
theorem okL_not (M : Int) (zs : List Int) (k : Nat) (hk : k < zs.length) (h : okZ M zs[k] = false) : okL M zs = false := by
  rw [← Bool.not_eq_true]
  intro h2
  have := okL_mem h2 (List.getElem_mem hk)
  simp [okZ] at h
  omega
theorem zeroL_take (zs : List Int) (k : Nat) (hk : k < zs.length) : zeroL (zs.take (k + 1)) = (zeroL (zs.take k) && (zs[k] == 0)) := by
  unfold zeroL
  rw [List.take_succ_eq_append_getElem hk, List.all_append]
  simp
theorem ws_cast {M : Int} {zs : List Int} (h : okL M zs = true) : (zs.map Int.toNat).map (fun (x : Nat) => (x : Int)) = zs := by
  rw [List.map_map]
  refine Eq.trans (List.map_congr_left (g := id) fun z hz => ?_) (List.map_id zs)
  have := okL_mem h hz
  simp
  omega
theorem ws_le {M : Nat} {zs : List Int} (h : okL M zs = true) : ∀ x ∈ zs.map Int.toNat, x ≤ M := by
  intro x hx
  obtain ⟨z, hz, rfl⟩ := List.mem_map.1 hx
  have := okL_mem h hz
  omega
theorem ws_sum_le (M : Nat) (l : List Nat) (h : ∀ x ∈ l, x ≤ M) : l.sum ≤ l.length * M := by
  induction l with
  | nil => simp
  | cons x l ih =>
    have h1 := h x (by simp)
    have h2 := ih (fun y hy => h y (by simp [hy]))
    simp only [List.sum_cons, List.length_cons, Nat.add_mul]
    omega
theorem ws_pos {M : Int} {zs : List Int} (h : okL M zs = true) (hz : zeroL zs = false) : 0 < (zs.map Int.toNat).sum := by
  induction zs with
  | nil => simp [zeroL] at hz
  | cons z l ih =>
    simp only [List.map_cons, List.sum_cons]
    have h1 := okL_mem h (z := z) (by simp)
    by_cases e : z = 0
    · have h2 : okL M l = true := by simp [okL] at h ⊢; exact h.2
      have h3 : zeroL l = false := by
        subst e
        simpa [zeroL] using hz
      have := ih h2 h3
      omega
    · omega
theorem zeroL_nil {zs : List Int} (h : zeroL zs = false) : 0 < zs.length := by
  cases zs with
  | nil => simp [zeroL] at h
  | cons z l => simp
theorem zero_sum {M : Int} {zs : List Int} (h : okL M zs = true) (hz : zeroL zs = true) : (zs.map Int.toNat).sum = 0 := by
  induction zs with
  | nil => rfl
  | cons z l ih =>
    simp [zeroL] at hz
    have h2 : okL M l = true := by simp [okL] at h ⊢; exact h.2
    have h3 : zeroL l = true := by simp [zeroL]; exact hz.2
    simp only [List.map_cons, List.sum_cons, ih h2 h3, hz.1]
    rfl
end Go.Proofs.Ytdnikegakcdcnaa.Deal
