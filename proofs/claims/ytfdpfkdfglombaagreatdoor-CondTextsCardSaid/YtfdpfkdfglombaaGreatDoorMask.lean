/- A region that draws its order, by an invariant that is told by which of its operations have come up. -/
import Derived.Test.YtfdpfkdfglombaaGreatDoorInv
set_option linter.unusedVariables false
namespace Go.Proofs.YtfdpfkdfglombaaGreatDoor
open Go.RowKit

section
variable {P : Program} {ops : Array Oper} {Q : Exit → Act → World → Prop}
abbrev Msk := Nat → Bool
def mset (b : Msk) (i : Nat) : Msk := fun j => if j = i then true else b j
theorem mset_at (b : Msk) (i : Nat) : mset b i i = true := by simp [mset]
theorem mset_ne (b : Msk) {i j : Nat} (h : j ≠ i) : mset b i j = b j := by simp [mset, h]
/-- the list of what has come up -/
def mlit (base : Array Bool) (T : List Nat) (b : Msk) : Array Bool := T.foldl (fun l i => if b i then l.setIfInBounds i true else l) base
def mtest (ops : Array Oper) (base : Array Bool) (T : List Nat) (D : Nat → List Nat) (b : Msk) : Bool :=
  !(T.all fun i => !b i || (D i).all b) || T.all b ||
    (!(Region.ready .any ops (mlit base T b)).isEmpty && (Region.ready .any ops (mlit base T b)).all fun i => T.contains i && !b i && (D i).all b)
def mall (t : Msk → Bool) : List Nat → Msk → Bool
  | [], b => t b
  | i :: T, b => mall t T b && mall t T (mset b i)
theorem mall_at {t : Msk → Bool} : ∀ (T : List Nat) (b0 b : Msk), mall t T b0 = true → (∀ i, i ∉ T → b i = b0 i) → (∀ i, b0 i = true → b i = true) → t b = true
  | [], b0, b, h, h1, h2 => by
    have e : b = b0 := funext fun i => h1 i (by simp)
    rw [e]; exact h
  | i :: T, b0, b, h, h1, h2 => by
    simp only [mall, Bool.and_eq_true] at h
    cases hb : b i with
    | true =>
      refine mall_at T (mset b0 i) b h.2 (fun j hj => ?_) (fun j hj => ?_)
      · by_cases hji : j = i
        · subst hji; rw [hb, mset_at]
        · rw [mset_ne _ hji]; exact h1 j (by simp [hji, hj])
      · by_cases hji : j = i
        · subst hji; exact hb
        · rw [mset_ne _ hji] at hj; exact h2 j hj
    | false =>
      refine mall_at T b0 b h.1 (fun j hj => ?_) h2
      by_cases hji : j = i
      · subst hji
        cases h0 : b0 j with
        | true => have := h2 j h0; rw [hb] at this; cases this
        | false => exact hb
      · exact h1 j (by simp [hji, hj])

theorem mlit_set {base : Array Bool} {b : Msk} : ∀ (T : List Nat) (base : Array Bool) (i : Nat), i ∈ T → (mlit base T b).setIfInBounds i true = mlit base T (mset b i) := by
  have hcom : ∀ (l : Array Bool) (i j : Nat), (l.setIfInBounds i true).setIfInBounds j true = (l.setIfInBounds j true).setIfInBounds i true := fun l i j => by
    by_cases h : i = j
    · subst h; rfl
    · exact Array.setIfInBounds_comm _ _ h
  have hout : ∀ (T : List Nat) (base : Array Bool) (i : Nat), (mlit base T b).setIfInBounds i true = mlit (base.setIfInBounds i true) T b := by
    intro T
    induction T with
    | nil => intro base i; rfl
    | cons j T ih =>
      intro base i
      simp only [mlit, List.foldl_cons] at ih ⊢
      rw [ih]
      split
      · rw [hcom]
      · rfl
  have hidem : ∀ (l : Array Bool) (i : Nat), (l.setIfInBounds i true).setIfInBounds i true = l.setIfInBounds i true := fun l i => by simp
  have hsame : ∀ (T : List Nat) (base : Array Bool) (i : Nat), mlit (base.setIfInBounds i true) T (mset b i) = mlit (base.setIfInBounds i true) T b := by
    intro T
    induction T with
    | nil => intro base i; rfl
    | cons j T ih =>
      intro base i
      simp only [mlit, List.foldl_cons] at ih ⊢
      by_cases hji : j = i
      · subst hji
        rw [mset_at, if_pos rfl, hidem, ih]
        split <;> rfl
      · rw [mset_ne _ hji]
        split
        · rw [hcom, ih]
        · rw [ih]
  intro T
  induction T with
  | nil => intro base i h; simp at h
  | cons j T ih =>
    intro base i h
    by_cases hji : j = i
    · subst hji
      have h1 := hout T (if b j then base.setIfInBounds j true else base) j
      simp only [mlit, List.foldl_cons] at h1 ⊢
      rw [h1]
      have h2 := hsame T base j
      simp only [mlit] at h2
      rw [mset_at, if_pos rfl, h2]
      split
      · rw [hidem]
      · rfl
    · have hi : i ∈ T := by
        rcases List.mem_cons.1 h with h | h
        · exact absurd h.symm hji
        · exact h
      have := ih (if b j then base.setIfInBounds j true else base) i hi
      simp only [mlit, List.foldl_cons] at this ⊢
      rw [this, mset_ne _ hji]

/-- a drawn region whose operations T come up in whatever order keeps D: J says what holds when those of b have come up -/
theorem wpAny_mask {a0 : Act} {w0 : World} {n m : Nat} (base : Array Bool) (T : List Nat) (D : Nat → List Nat) (ds : List Nat) (v0 : Nat → Value) (J : Msk → (Nat → Value) → World → Prop)
    (hm : m = n + T.length) (hnd : T.Nodup) (ha : a0 = setAll a0 ds v0) (hpos : mall (mtest ops base T D) T (fun _ => false) = true) (hst : J (fun _ => false) v0 w0)
    (hs : ∀ i ∈ T, ∀ b v w, b i = false → (∀ j ∈ D i, b j = true) → J b v w → wpOp P ops Q i (fun a' w' => ∃ v', a' = setAll a0 ds v' ∧ J (mset b i) v' w') (setAll a0 ds v) w)
    (hend : ∀ b v w, (∀ i ∈ T, b i = true) → J b v w → wpAny P .any ops Q n (mlit base T fun _ => true) (setAll a0 ds v) w) :
    wpAny P .any ops Q m base a0 w0 := by
  have hcnt : ∀ (T : List Nat) (b : Msk) (i : Nat), i ∈ T → T.Nodup → b i = false → (T.filter fun j => !b j).length = (T.filter fun j => !mset b i j).length + 1 := by
    intro T
    induction T with
    | nil => intro b i h; simp at h
    | cons j T ih =>
      intro b i h hn hb
      rw [List.nodup_cons] at hn
      by_cases hji : j = i
      · subst hji
        have hT : T.filter (fun k => !mset b j k) = T.filter fun k => !b k := List.filter_congr fun k hk => by
          rw [mset_ne _ (fun e : k = j => hn.1 (by rw [← e]; exact hk))]
        simp [hb, mset_at, hT]
      · have hi : i ∈ T := by
          rcases List.mem_cons.1 h with h | h
          · exact absurd h.symm hji
          · exact h
        have := ih b i hi hn.2 hb
        simp only [List.filter_cons, mset_ne _ hji]
        split
        · simp only [List.length_cons]; omega
        · exact this
  have hbase : base = mlit base T fun _ => false := by
    have : ∀ (T : List Nat) (base : Array Bool), base = mlit base T fun _ => false := by
      intro T
      induction T with
      | nil => intro _; rfl
      | cons i T ih => intro base; exact ih base
    exact this T base
  refine wpAny_inv ds v0 (fun fuel listed v w => ∃ b : Msk, (∀ i, i ∉ T → b i = false) ∧ (∀ i ∈ T, b i = true → ∀ j ∈ D i, b j = true) ∧ listed = mlit base T b ∧ fuel = n + (T.filter fun j => !b j).length ∧ J b v w) ha ⟨fun _ => false, fun _ _ => rfl, fun _ _ h => (by cases h), hbase, by rw [hm, show (T.filter fun j => !(fun _ => false : Msk) j) = T from List.filter_eq_self.2 fun _ _ => rfl], hst⟩ ?_
  rintro fuel listed v w ⟨b, hout, hdep, rfl, hf, hJ⟩
  have ht := mall_at T (fun _ => false) b hpos hout (fun _ h => by cases h)
  unfold mtest at ht
  have h0 : (T.all fun i => !b i || (D i).all b) = true := by
    rw [List.all_eq_true]
    intro i hi
    cases hb : b i with
    | false => rfl
    | true => rw [Bool.not_true, Bool.false_or, List.all_eq_true]; exact hdep i hi hb
  rw [h0, Bool.not_true, Bool.false_or] at ht
  cases hall : T.all b with
  | true =>
    have hall' := List.all_eq_true.1 hall
    left
    have e1 : mlit base T b = mlit base T fun _ => true := by
      have : ∀ (T : List Nat) (base : Array Bool), (∀ i ∈ T, b i = true) → mlit base T b = mlit base T fun _ => true := by
        intro T
        induction T with
        | nil => intro _ _; rfl
        | cons i T ih =>
          intro base h
          have := ih (base.setIfInBounds i true) fun j hj => h j (List.mem_cons_of_mem _ hj)
          simp only [mlit, List.foldl_cons, h i List.mem_cons_self, if_true] at this ⊢
          exact this
      exact this T base hall'
    have e2 : (T.filter fun j => !b j) = [] := List.filter_eq_nil_iff.2 fun j hj => by simp [hall' j hj]
    rw [e2] at hf
    subst hf
    rw [e1]
    exact hend b v w hall' hJ
  | false =>
    rw [hall, Bool.false_or, Bool.and_eq_true, List.all_eq_true] at ht
    obtain ⟨h1, h2⟩ := ht
    have hpos' : 0 < (T.filter fun j => !b j).length := by
      cases hx : T.filter fun j => !b j with
      | cons _ _ => simp
      | nil =>
        have h3 := List.filter_eq_nil_iff.1 hx
        have h4 : T.all b = true := List.all_eq_true.2 fun j hj => by simpa using h3 j hj
        rw [hall] at h4
        cases h4
    refine .inr ⟨fuel - 1, by omega, fun h => by rw [h] at h1; simp at h1, fun i hi => ?_⟩
    have h3 := h2 i hi
    simp only [Bool.and_eq_true, Bool.not_eq_true', List.contains_iff_mem, List.all_eq_true] at h3
    obtain ⟨⟨hiT, hbi⟩, hD⟩ := h3
    have hc := hcnt T b i hiT hnd hbi
    refine wpOp_mono ?_ (hs i hiT b v w hbi hD hJ)
    rintro a' w' ⟨v', e, h⟩
    refine ⟨v', e, mset b i, fun j hj => ?_, fun j hj hb k hk => ?_, mlit_set (base := base) T base i hiT, by omega, h⟩
    · rw [mset_ne _ (fun e : j = i => hj (by rw [e]; exact hiT))]; exact hout j hj
    · by_cases hki : k = i
      · subst hki; exact mset_at _ _
      · rw [mset_ne _ hki]
        by_cases hji : j = i
        · subst hji; exact hD k hk
        · rw [mset_ne _ hji] at hb; exact hdep j hj hb k hk
end
end Go.Proofs.YtfdpfkdfglombaaGreatDoor
