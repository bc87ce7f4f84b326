/- Sums by keys: sorted and put together, or put in one after the other; the order of lists of strings. -/
import Derived.Test.YtfdpfkdfglombaaGreatDoorSeen
import Derived.Lib.Strings
import Derived.Test.YtfdpfkdfglombaaGreatDoorSentSpec
import Derived.Sort.LotA
set_option linter.unusedVariables false
namespace Go.Proofs.YtfdpfkdfglombaaGreatDoor
open Go.RowKit

structure TotCmp {κ : Type} (c : κ → κ → Int) : Prop where
  eq : ∀ x y, c x y = 0 ↔ x = y
  anti : ∀ x y, c x y < 0 ↔ 0 < c y x
  tr : ∀ x y z, c x y < 0 → c y z < 0 → c x z < 0

abbrev El (κ : Type) := κ × Int × Int
section
variable {κ : Type} {c : κ → κ → Int}
abbrev addE (y x : El κ) : El κ := (y.1, y.2.1 + x.2.1, y.2.2 + x.2.2)
/-- x put in its place; where its key is already there, added -/
def insF (c : κ → κ → Int) (x : El κ) : List (El κ) → List (El κ)
  | [] => [x]
  | y :: r => if c y.1 x.1 < 0 then y :: insF c x r else if c y.1 x.1 = 0 then addE y x :: r else x :: y :: r
theorem addE_key (y x : El κ) : (addE y x).1 = y.1 := rfl
theorem TotCmp.self (h : TotCmp c) (x : κ) : c x x = 0 := (h.eq x x).2 rfl
theorem TotCmp.flip (h : TotCmp c) {x y : κ} (h1 : ¬ c x y < 0) (h2 : ¬ c x y = 0) : c y x < 0 := by
  rw [h.anti]
  omega
theorem insF_comm (h : TotCmp c) (x y : El κ) : ∀ l, insF c x (insF c y l) = insF c y (insF c x l)
  | [] => by
    simp only [insF]
    by_cases h1 : c y.1 x.1 < 0
    · have h2 : ¬ c x.1 y.1 < 0 := by have := (h.anti y.1 x.1).1 h1; omega
      have h3 : ¬ c x.1 y.1 = 0 := by have := (h.anti y.1 x.1).1 h1; omega
      rw [if_pos h1, if_neg h2, if_neg h3]
    · by_cases h2 : c y.1 x.1 = 0
      · have e := (h.eq y.1 x.1).1 h2
        have h3 : c x.1 y.1 = 0 := (h.eq _ _).2 e.symm
        rw [if_neg h1, if_pos h2, if_neg (by omega), if_pos h3]
        simp only [addE, e, Int.add_comm]
      · have h3 := h.flip h1 h2
        rw [if_neg h1, if_neg h2, if_pos h3]
  | z :: r => by
    have ih := insF_comm h x y r
    by_cases a1 : c z.1 y.1 < 0
    · by_cases b1 : c z.1 x.1 < 0
      · simp only [insF, if_pos a1, if_pos b1, ih]
      · by_cases b2 : c z.1 x.1 = 0
        · have e := (h.eq _ _).1 b2
          simp only [insF, if_pos a1, if_neg b1, if_pos b2]
        · have b3 := h.flip b1 b2
          have x1 : c x.1 y.1 < 0 := h.tr _ _ _ b3 a1
          simp only [insF, if_pos a1, if_neg b1, if_neg b2, if_pos x1]
    · by_cases a2 : c z.1 y.1 = 0
      · have e := (h.eq _ _).1 a2
        by_cases b1 : c z.1 x.1 < 0
        · simp only [insF, if_neg a1, if_pos a2, if_pos b1]
        · by_cases b2 : c z.1 x.1 = 0
          · simp only [insF, if_neg a1, if_pos a2, if_neg b1, if_pos b2]
            simp only [addE, Int.add_assoc, Int.add_comm x.2.1, Int.add_comm x.2.2]
          · have b3 := h.flip b1 b2
            have x1 : c x.1 y.1 < 0 := by rw [← e]; exact b3
            simp only [insF, if_neg a1, if_pos a2, if_neg b1, if_neg b2, if_pos x1]
      · have a3 := h.flip a1 a2
        by_cases b1 : c z.1 x.1 < 0
        · have x1 : c y.1 x.1 < 0 := h.tr _ _ _ a3 b1
          simp only [insF, if_neg a1, if_neg a2, if_pos b1, if_pos x1]
        · by_cases b2 : c z.1 x.1 = 0
          · have e := (h.eq _ _).1 b2
            have x1 : c y.1 x.1 < 0 := by rw [← e]; exact a3
            simp only [insF, if_neg a1, if_neg a2, if_neg b1, if_pos b2, if_pos x1]
          · have b3 := h.flip b1 b2
            by_cases x1 : c y.1 x.1 < 0
            · have x2 : ¬ c x.1 y.1 < 0 := by have := (h.anti _ _).1 x1; omega
              have x3 : ¬ c x.1 y.1 = 0 := by have := (h.anti _ _).1 x1; omega
              simp only [insF, if_neg a1, if_neg a2, if_neg b1, if_neg b2, if_pos x1, if_neg x2, if_neg x3]
            · by_cases x2 : c y.1 x.1 = 0
              · have e := (h.eq _ _).1 x2
                have x3 : c x.1 y.1 = 0 := (h.eq _ _).2 e.symm
                simp only [insF, if_neg a1, if_neg a2, if_neg b1, if_neg b2, if_neg x1, if_pos x2, if_neg (show ¬ c x.1 y.1 < 0 by omega), if_pos x3]
                simp only [addE, e, Int.add_comm]
              · have x3 := h.flip x1 x2
                simp only [insF, if_neg a1, if_neg a2, if_neg b1, if_neg b2, if_neg x1, if_neg x2, if_pos x3]
theorem insF_perm (h : TotCmp c) {l m : List (El κ)} (hp : l.Perm m) : ∀ o, l.foldl (fun o x => insF c x o) o = m.foldl (fun o x => insF c x o) o := by
  induction hp with
  | nil => intro o; rfl
  | cons x _ ih => intro o; exact ih _
  | swap x y l => intro o; simp only [List.foldl_cons]; rw [insF_comm h]
  | trans _ _ ih1 ih2 => intro o; rw [ih1, ih2]
/-- x behind what is there: added to the last where that has its key -/
def mgStep [DecidableEq κ] (o : List (El κ)) (x : El κ) : List (El κ) :=
  match o.getLast? with
  | some y => if y.1 = x.1 then o.dropLast ++ [addE y x] else o ++ [x]
  | none => [x]
theorem insF_app (x : El κ) : ∀ (a b : List (El κ)), (∀ y ∈ a, c y.1 x.1 < 0) → insF c x (a ++ b) = a ++ insF c x b
  | [], _, _ => rfl
  | y :: a, b, h => by
    simp only [List.cons_append, insF]
    rw [if_pos (h y (by simp)), insF_app x a b (fun z hz => h z (by simp [hz]))]
theorem mg_ins [DecidableEq κ] (h : TotCmp c) (o : List (El κ)) (x : El κ) (hs : o.Pairwise fun y z => c y.1 z.1 < 0) (hx : ∀ y ∈ o, c y.1 x.1 ≤ 0) : mgStep o x = insF c x o := by
  rcases List.eq_nil_or_concat o with rfl | ⟨a, y, rfl⟩
  · rfl
  · have hy := hx y (by simp)
    have ha : ∀ z ∈ a, c z.1 x.1 < 0 := fun z hz => by
      have h1 : c z.1 y.1 < 0 := by
        rw [List.concat_eq_append, List.pairwise_append] at hs
        exact hs.2.2 z hz y (by simp)
      by_cases h2 : c y.1 x.1 = 0
      · rw [← (h.eq _ _).1 h2]; exact h1
      · exact h.tr _ _ _ h1 (by omega)
    unfold mgStep
    rw [List.concat_eq_append, insF_app x a [y] ha]
    simp only [List.getLast?_append, List.getLast?_singleton, Option.some_or, List.dropLast_concat, insF]
    by_cases h1 : c y.1 x.1 < 0
    · have h2 : ¬ y.1 = x.1 := fun e => by have := (h.eq _ _).2 e; omega
      rw [if_neg h2, if_pos h1]
      simp
    · have h2 : c y.1 x.1 = 0 := by omega
      have h3 := (h.eq _ _).1 h2
      rw [if_pos h3, if_neg h1, if_pos h2]
theorem mg_keep (h : TotCmp c) [DecidableEq κ] (o r : List (El κ)) (x : El κ) (hs : o.Pairwise fun y z => c y.1 z.1 < 0) (hx : ∀ y ∈ o, ∀ z ∈ x :: r, c y.1 z.1 ≤ 0) (hr : ∀ z ∈ r, c x.1 z.1 ≤ 0) :
    (mgStep o x).Pairwise (fun y z => c y.1 z.1 < 0) ∧ ∀ y ∈ mgStep o x, ∀ z ∈ r, c y.1 z.1 ≤ 0 := by
  rcases List.eq_nil_or_concat o with rfl | ⟨a, y, rfl⟩
  · exact ⟨by simp [mgStep], fun y hy z hz => by
      simp [mgStep] at hy
      subst hy
      exact hr z hz⟩
  · rw [List.concat_eq_append] at *
    rw [List.pairwise_append] at hs
    obtain ⟨h1, -, h3⟩ := hs
    unfold mgStep
    simp only [List.getLast?_append, List.getLast?_singleton, Option.some_or, List.dropLast_concat]
    by_cases e : y.1 = x.1
    · rw [if_pos e]
      refine ⟨List.pairwise_append.2 ⟨h1, by simp, fun z hz w hw => ?_⟩, fun w hw z hz => ?_⟩
      · simp at hw; subst hw; exact h3 z hz y (by simp)
      · rcases List.mem_append.1 hw with hw | hw
        · exact hx w (by simp [hw]) z (by simp [hz])
        · simp at hw; subst hw; exact hx y (by simp) z (by simp [hz])
    · rw [if_neg e]
      have hyx : c y.1 x.1 < 0 := by
        have := hx y (by simp) x (by simp)
        have h4 : ¬ c y.1 x.1 = 0 := fun e' => e ((h.eq _ _).1 e')
        omega
      refine ⟨List.pairwise_append.2 ⟨List.pairwise_append.2 ⟨h1, by simp, h3⟩, by simp, fun z hz w hw => ?_⟩, fun w hw z hz => ?_⟩
      · simp only [List.mem_singleton] at hw
        subst hw
        rcases List.mem_append.1 hz with hz | hz
        · exact h.tr _ _ _ (h3 z hz y (by simp)) hyx
        · simp at hz; subst hz; exact hyx
      · rcases List.mem_append.1 hw with hw | hw
        · exact hx w hw z (by simp [hz])
        · simp at hw; subst hw; exact hr z hz
theorem mg_fold (h : TotCmp c) [DecidableEq κ] : ∀ (l o : List (El κ)), l.Pairwise (fun x y => c x.1 y.1 ≤ 0) → o.Pairwise (fun y z => c y.1 z.1 < 0) → (∀ y ∈ o, ∀ z ∈ l, c y.1 z.1 ≤ 0) → l.foldl mgStep o = l.foldl (fun o x => insF c x o) o
  | [], o, _, _, _ => rfl
  | x :: r, o, hl, ho, hx => by
    rw [List.pairwise_cons] at hl
    obtain ⟨k1, k2⟩ := mg_keep h o r x ho hx hl.1
    simp only [List.foldl_cons]
    rw [mg_fold h r _ hl.2 k1 k2, mg_ins h o x ho (fun y hy => hx y hy x (by simp))]
/-- sorted in whatever way, and put together: as put in one after the other -/
theorem fold_same (h : TotCmp c) [DecidableEq κ] {l s : List (El κ)} (hp : s.Perm l) (hs : s.Pairwise fun x y => c x.1 y.1 ≤ 0) : s.foldl mgStep [] = l.foldl (fun o x => insF c x o) [] := by
  rw [mg_fold h s [] hs List.Pairwise.nil (by simp), insF_perm h hp]
/-- what one after the other leaves is in order, strictly -/
theorem insF_mem (x : El κ) : ∀ (l : List (El κ)) (y : El κ), y ∈ insF c x l → y.1 = x.1 ∨ ∃ z ∈ l, z.1 = y.1
  | [], y, hy => by simp [insF] at hy; exact .inl (by rw [hy])
  | z :: r, y, hy => by
    simp only [insF] at hy
    split at hy
    · rcases List.mem_cons.1 hy with rfl | hy
      · exact .inr ⟨y, by simp, rfl⟩
      · rcases insF_mem x r y hy with h | ⟨w, hw, e⟩
        · exact .inl h
        · exact .inr ⟨w, by simp [hw], e⟩
    · split at hy
      · rcases List.mem_cons.1 hy with rfl | hy
        · exact .inr ⟨z, by simp, rfl⟩
        · exact .inr ⟨y, by simp [hy], rfl⟩
      · rcases List.mem_cons.1 hy with rfl | hy
        · exact .inl rfl
        · exact .inr ⟨y, hy, rfl⟩
theorem insF_sorted (h : TotCmp c) (x : El κ) : ∀ (l : List (El κ)), l.Pairwise (fun y z => c y.1 z.1 < 0) → (insF c x l).Pairwise fun y z => c y.1 z.1 < 0
  | [], _ => by simp [insF]
  | z :: r, hl => by
    rw [List.pairwise_cons] at hl
    simp only [insF]
    by_cases h1 : c z.1 x.1 < 0
    · rw [if_pos h1, List.pairwise_cons]
      refine ⟨fun y hy => ?_, insF_sorted h x r hl.2⟩
      rcases insF_mem x r y hy with e | ⟨w, hw, e⟩
      · rw [e]; exact h1
      · rw [← e]; exact hl.1 w hw
    · rw [if_neg h1]
      by_cases h2 : c z.1 x.1 = 0
      · rw [if_pos h2, List.pairwise_cons]
        exact ⟨hl.1, hl.2⟩
      · have h3 := h.flip h1 h2
        rw [if_neg h2, List.pairwise_cons]
        refine ⟨fun y hy => ?_, List.pairwise_cons.2 hl⟩
        rcases List.mem_cons.1 hy with rfl | hy
        · exact h3
        · exact h.tr _ _ _ h3 (hl.1 y hy)
/-- the first place whose key is not less -/
def plF (c : κ → κ → Int) (k : κ) : List (El κ) → Nat
  | [] => 0
  | y :: r => if c y.1 k < 0 then plF c k r + 1 else 0
theorem plF_le (k : κ) : ∀ l, plF c k l ≤ l.length
  | [] => Nat.le_refl _
  | y :: r => by
    simp only [plF, List.length_cons]
    have := plF_le k r
    split <;> omega
theorem insF_at (x : El κ) : ∀ (l : List (El κ)), (∀ h : plF c x.1 l < l.length, c l[plF c x.1 l].1 x.1 = 0 → insF c x l = l.set (plF c x.1 l) (addE l[plF c x.1 l] x)) ∧ ((∀ h : plF c x.1 l < l.length, ¬ c l[plF c x.1 l].1 x.1 = 0) → insF c x l = l.take (plF c x.1 l) ++ x :: l.drop (plF c x.1 l))
  | [] => ⟨fun h => by simp [plF] at h, fun _ => rfl⟩
  | y :: r => by
    obtain ⟨i1, i2⟩ := insF_at x r
    by_cases h1 : c y.1 x.1 < 0
    · have hp : plF c x.1 (y :: r) = plF c x.1 r + 1 := by simp only [plF]; rw [if_pos h1]
      have hi : insF c x (y :: r) = y :: insF c x r := by simp only [insF]; rw [if_pos h1]
      simp only [hp, hi]
      refine ⟨fun h h2 => ?_, fun h => ?_⟩
      · rw [i1 (by simpa using h) (by simpa using h2)]
        simp
      · rw [i2 (fun h3 => by simpa using h (by simpa using h3))]
        simp
    · have hp : plF c x.1 (y :: r) = 0 := by simp only [plF]; rw [if_neg h1]
      simp only [hp]
      refine ⟨fun h h2 => ?_, fun h => ?_⟩
      · simp only [insF]
        rw [if_neg h1, if_pos (by simpa using h2)]
        simp
      · simp only [insF]
        rw [if_neg h1, if_neg (by simpa using h (by simp))]
        simp
end
/-- lists by their first difference, the shorter first -/
def lexC {κ : Type} (c : κ → κ → Int) : List κ → List κ → Int
  | [], [] => 0
  | [], _ :: _ => -1
  | _ :: _, [] => 1
  | a :: l, b :: m => if c a b = 0 then lexC c l m else c a b
theorem lexC_tot {κ : Type} {c : κ → κ → Int} (h : TotCmp c) : TotCmp (lexC c) where
  eq := by
    intro x
    induction x with
    | nil => intro y; cases y <;> simp [lexC]
    | cons a l ih =>
      intro y
      cases y with
      | nil => simp [lexC]
      | cons b m =>
        simp only [lexC]
        by_cases h1 : c a b = 0
        · rw [if_pos h1, ih m, (h.eq a b).1 h1]
          simp
        · rw [if_neg h1]
          constructor
          · intro h2; exact absurd h2 h1
          · intro h2
            injection h2 with h2 h3
            exact absurd ((h.eq a b).2 h2) h1
  anti := by
    intro x
    induction x with
    | nil => intro y; cases y <;> simp [lexC]
    | cons a l ih =>
      intro y
      cases y with
      | nil => simp [lexC]
      | cons b m =>
        simp only [lexC]
        by_cases h1 : c a b = 0
        · have h2 : c b a = 0 := (h.eq _ _).2 ((h.eq _ _).1 h1).symm
          rw [if_pos h1, if_pos h2, ih m]
        · have h2 : ¬ c b a = 0 := fun e => h1 ((h.eq _ _).2 ((h.eq _ _).1 e).symm)
          rw [if_neg h1, if_neg h2, h.anti a b]
  tr := by
    intro x
    induction x with
    | nil =>
      intro y z h1 h2
      cases z with
      | nil =>
        cases y with
        | nil => simp [lexC] at h1
        | cons b m => simp [lexC] at h2
      | cons d n => simp [lexC]
    | cons a l ih =>
      intro y z h1 h2
      cases y with
      | nil => simp [lexC] at h1
      | cons b m =>
        cases z with
        | nil => simp [lexC] at h2
        | cons d n =>
          simp only [lexC] at h1 h2 ⊢
          by_cases e1 : c a b = 0
          · have e := (h.eq _ _).1 e1
            rw [if_pos e1] at h1
            subst e
            by_cases e2 : c a d = 0
            · rw [if_pos e2] at h2 ⊢
              exact ih m n h1 h2
            · rw [if_neg e2] at h2 ⊢
              exact h2
          · rw [if_neg e1] at h1
            by_cases e2 : c b d = 0
            · have e := (h.eq _ _).1 e2
              subst e
              rw [if_neg e1]
              exact h1
            · rw [if_neg e2] at h2
              have h3 := h.tr _ _ _ h1 h2
              rw [if_neg (by omega)]
              exact h3
/-- the order of bytes -/
def cmpU (a b : UInt8) : Int := if a < b then -1 else if a = b then 0 else 1
theorem cmpU_tot : TotCmp cmpU where
  eq := fun x y => by
    unfold cmpU
    by_cases h : x < y
    · rw [if_pos h]
      constructor
      · intro e; cases e
      · intro e; subst e; exact absurd h (by simp)
    · rw [if_neg h]
      by_cases h2 : x = y <;> simp [h2]
  anti := fun x y => by
    unfold cmpU
    simp only [UInt8.lt_iff_toNat_lt, ← UInt8.toNat_inj]
    repeat' split
    all_goals omega
  tr := fun x y z => by
    unfold cmpU
    simp only [UInt8.lt_iff_toNat_lt, ← UInt8.toNat_inj]
    repeat' split
    all_goals omega
theorem less_lex : ∀ x y : List UInt8, Op.bytesLess x y = decide (lexC cmpU x y < 0)
  | [], [] => rfl
  | [], _ :: _ => rfl
  | _ :: _, [] => rfl
  | a :: x, b :: y => by
    simp only [Op.bytesLess, lexC]
    rw [less_lex x y]
    unfold cmpU
    by_cases h : a < b
    · simp [h]
    · by_cases h2 : a = b
      · simp [h2]
      · simp [h, h2]
/-- the order of strings -/
def cmpB (a b : ByteArray) : Int := lexC cmpU a.toList b.toList
theorem toList_inj {a b : ByteArray} (h : a.toList = b.toList) : a = b := by
  rw [Lib.toList_data, Lib.toList_data] at h
  obtain ⟨⟨x⟩⟩ := a
  obtain ⟨⟨y⟩⟩ := b
  simp only at h
  rw [h]
theorem cmpB_tot : TotCmp cmpB where
  eq := fun x y => by
    unfold cmpB
    rw [(lexC_tot cmpU_tot).eq]
    exact ⟨toList_inj, fun e => by rw [e]⟩
  anti := fun x y => (lexC_tot cmpU_tot).anti _ _
  tr := fun x y z => (lexC_tot cmpU_tot).tr _ _ _
theorem lexU_val : ∀ x y : List UInt8, lexC cmpU x y = -1 ∨ lexC cmpU x y = 0 ∨ lexC cmpU x y = 1
  | [], [] => .inr (.inl rfl)
  | [], _ :: _ => .inl rfl
  | _ :: _, [] => .inr (.inr rfl)
  | a :: x, b :: y => by
    simp only [lexC]
    have := lexU_val x y
    split
    · exact this
    · unfold cmpU
      repeat' split
      all_goals simp
/-- what cmp.Compare gives at strings -/
theorem cmpB_if (a b : ByteArray) : cmpB a b = if Op.bytesLess a.toList b.toList = true then -1 else if Op.bytesLess b.toList a.toList = true then 1 else 0 := by
  rw [less_lex, less_lex]
  simp only [decide_eq_true_eq]
  have h1 := lexU_val a.toList b.toList
  have h2 := (lexC_tot cmpU_tot).anti b.toList a.toList
  unfold cmpB
  split
  · omega
  · split
    · omega
    · omega
/-- the order of lists of strings, as slices.Compare has it -/
def cmpL (a b : List ByteArray) : Int := lexC cmpB a b
theorem cmpL_tot : TotCmp cmpL := lexC_tot cmpB_tot
end Go.Proofs.YtfdpfkdfglombaaGreatDoor
/- Cells as records; what is wrong with cells, in plain words. -/
set_option linter.unusedVariables false
namespace Go.Proofs.YtfdpfkdfglombaaGreatDoor
open Go.RowKit

theorem TotCmp.zero_flip {κ : Type} {c : κ → κ → Int} (h : TotCmp c) (x y : κ) : c x y = 0 ↔ c y x = 0 := by
  rw [h.eq, h.eq]
  exact eq_comm
theorem TotCmp.le_flip {κ : Type} {c : κ → κ → Int} (h : TotCmp c) (x y : κ) : c x y ≤ 0 ↔ 0 ≤ c y x := by
  have h1 := h.anti x y
  have h2 := h.zero_flip x y
  omega
/-- a cell; its keys: where they lie, their capacity, and what they are -/
structure Ce where
  tv : Option Addr
  tc : Nat
  keys : List ByteArray
  many : Int
  cents : Int
def Ce.cells (x : Ce) : List Value := [.slice x.tv x.keys.length x.tc, .int .i64 x.many, .int .i64 x.cents]
def Ce.ok (x : Ce) : Prop := x.keys.length ≤ 20 ∧ (∀ s ∈ x.keys, s.size ≤ 100) ∧ -100000000 ≤ x.many ∧ x.many ≤ 100000000 ∧ -100000000000000 ≤ x.cents ∧ x.cents ≤ 100000000000000
theorem Ce.len (x : Ce) : x.cells.length = 3 := rfl
/-- what the plain law sees of a cell -/
def Ce.el (x : Ce) : El (List ByteArray) := (x.keys, x.many, x.cents)
/-- the numbers of a cell are in their ranges -/
def fullB (many cents : Int) : Bool := (decide (0 ≤ many) && decide (many ≤ 1000000)) && (decide (-1000000000000 ≤ cents) && decide (cents ≤ 1000000000000))
def ceSt (b1 b2 b3 b4 : Bool) : Int := if b1 then 3 else if b2 then 5 else if b3 then 7 else if b4 = false then 1 else 0
def ceStep (l : List Ce) (i : Nat) (h : i < l.length) : Int :=
  ceSt (!decide (l[i].keys.length = (l[0]'(by omega)).keys.length) || decide (6 < l[i].keys.length)) (l[i].keys.any fun s => !keyB s) (decide (0 < i) && decide (cmpL l[i].keys (l[i - 1]'(by omega)).keys ≤ 0)) (fullB l[i].many l[i].cents)
def ceGo (l : List Ce) : Nat → Nat → Int
  | 0, _ => 0
  | f + 1, i => if h : i < l.length then if ceStep l i h = 0 then ceGo l f (i + 1) else ceStep l i h else 0
def ceE (l : List Ce) : Int := if 2000 < l.length then 2 else ceGo l l.length 0
theorem ceGo_step (l : List Ce) (k : Nat) (h : k < l.length) : ceGo l (l.length - k) k = if ceStep l k h = 0 then ceGo l (l.length - (k + 1)) (k + 1) else ceStep l k h := by
  rw [show l.length - k = (l.length - (k + 1)) + 1 by omega, ceGo, dif_pos h]
/-- what is wrong with the dimensions that are kept -/
def kpE (d : Int) (keep : List Int) : Nat → Nat → Int
  | 0, _ => 0
  | f + 1, i => if keep.getD i 0 < 0 ∨ d ≤ keep.getD i 0 then 1 else if 0 < i ∧ keep.getD i 0 ≤ keep.getD (i - 1) 0 then 7 else kpE d keep f (i + 1)
/-- a cell with the kept keys alone -/
def prE (keep : List Int) (x : El (List ByteArray)) : El (List ByteArray) := (keep.map fun k => x.1.getD k.toNat ⟨#[]⟩, x.2)
def foldL (l : List (El (List ByteArray))) (keep : List Int) : List (El (List ByteArray)) := (l.map (prE keep)).foldl (fun o x => insF cmpL x o) []
def dimE (l : List Ce) : Int := match l with
  | [] => 6
  | x :: _ => x.keys.length
/-- what is wrong with a fold -/
def fdE (l : List Ce) (keep : List Int) : Int :=
  if ceE l ≠ 0 then ceE l else if kpE (dimE l) keep keep.length 0 ≠ 0 then kpE (dimE l) keep keep.length 0 else if ((foldL (l.map Ce.el) keep).any fun x => !fullB x.2.1 x.2.2) = true then 12 else 0
end Go.Proofs.YtfdpfkdfglombaaGreatDoor
/- Insertion sort by keys: sorted, and the same elements. -/
set_option linter.unusedVariables false
namespace Go.Proofs.YtfdpfkdfglombaaGreatDoor
open Go.RowKit

/-- less, by the keys -/
def ltK {α κ : Type} (c : κ → κ → Int) (key : α → κ) (x y : α) : Bool := decide (c (key x) (key y) < 0)
theorem ltK_swo {α κ : Type} {c : κ → κ → Int} (h : TotCmp c) (key : α → κ) : Sort.SWO (ltK c key) where
  irrefl := fun x => by
    unfold ltK
    rw [h.self]
    rfl
  trans := fun x y z h1 h2 => by
    unfold ltK at *
    simp only [decide_eq_true_eq] at *
    exact h.tr _ _ _ h1 h2
  ntrans := fun x y z h1 h2 => by
    unfold ltK at *
    simp only [decide_eq_false_iff_not] at *
    intro h3
    by_cases h4 : c (key x) (key y) = 0
    · rw [(h.eq _ _).1 h4] at h3
      exact h2 h3
    · exact h2 (h.tr _ _ _ (h.flip h1 h4) h3)
def isort {α κ : Type} [Inhabited α] (c : κ → κ → Int) (key : α → κ) (l : List α) : List α := (Sort.insertionSort (ltK c key) l.toArray 0 l.length).toList
theorem isort_law {α κ : Type} [Inhabited α] {c : κ → κ → Int} (h : TotCmp c) (key : α → κ) (l : List α) : (isort c key l).Perm l ∧ (isort c key l).Pairwise (fun x y => c (key x) (key y) ≤ 0) := by
  obtain ⟨⟨h1, _, h3⟩, h4⟩ := Sort.insertionSort_holds (lt := ltK c key) (ltK_swo h key) l.toArray 0 l.length (Nat.zero_le _) (by simp)
  unfold isort
  generalize Sort.insertionSort (ltK c key) l.toArray 0 l.length = d at *
  have hs : d.size = l.length := by simpa using h1
  refine ⟨?_, ?_⟩
  · have e1 : d.extract 0 l.length = d := by rw [← hs]; simp
    have e2 : l.toArray.extract 0 l.length = l.toArray := by simp
    rw [e1, e2] at h3
    simpa using h3
  · rw [List.pairwise_iff_getElem]
    intro i j hi hj hij
    have hi' : i < d.size := by simpa using hi
    have hj' : j < d.size := by simpa using hj
    have h5 := h4 i j (Nat.zero_le _) hij (by omega)
    rw [getElem!_pos d j hj', getElem!_pos d i hi'] at h5
    unfold ltK at h5
    simp only [decide_eq_false_iff_not] at h5
    simp only [Array.getElem_toList]
    by_cases h6 : c (key d[j]) (key d[i]) = 0
    · have := (h.eq _ _).1 h6
      rw [this, h.self]
      omega
    · have := h.flip h5 h6
      omega
/-- sorted and put together: as put in one after the other -/
theorem isort_fold {κ : Type} [Inhabited κ] [DecidableEq κ] {c : κ → κ → Int} (h : TotCmp c) {α : Type} [Inhabited α] (el : α → El κ) (l : List α) : ((isort c (fun x => (el x).1) l).map el).foldl mgStep [] = (l.map el).foldl (fun o x => insF c x o) [] := by
  obtain ⟨h1, h2⟩ := isort_law h (fun x => (el x).1) l
  refine fold_same h (h1.map el) ?_
  rw [List.pairwise_map]
  exact h2
end Go.Proofs.YtfdpfkdfglombaaGreatDoor
/- Folding cells, in plain words: the cells that are put together keep their own places; bounds of sums. -/
set_option linter.unusedVariables false
namespace Go.Proofs.YtfdpfkdfglombaaGreatDoor
open Go.RowKit

instance : Inhabited Ce := ⟨⟨none, 0, [], 0, 0⟩⟩
/-- a cell behind what is there: added to the last where that has its keys -/
def mgC (o : List Ce) (x : Ce) : List Ce :=
  match o.getLast? with
  | some y => if y.keys = x.keys then o.dropLast ++ [{ y with many := y.many + x.many, cents := y.cents + x.cents }] else o ++ [x]
  | none => [x]
theorem mgC_el (o : List Ce) (x : Ce) : (mgC o x).map Ce.el = mgStep (o.map Ce.el) x.el := by
  rcases List.eq_nil_or_concat o with rfl | ⟨a, y, rfl⟩
  · rfl
  · unfold mgC mgStep
    simp only [List.concat_eq_append, List.map_append, List.map_cons, List.map_nil, List.getLast?_append, List.getLast?_singleton, Option.some_or, List.dropLast_concat]
    by_cases h : y.keys = x.keys
    · rw [if_pos h, if_pos (show y.el.1 = x.el.1 from h)]
      simp [Ce.el, addE]
    · rw [if_neg h, if_neg (show ¬ y.el.1 = x.el.1 from h)]
      simp
theorem mgC_fold : ∀ (l o : List Ce), (l.foldl mgC o).map Ce.el = (l.map Ce.el).foldl mgStep (o.map Ce.el)
  | [], _ => rfl
  | x :: r, o => by
    simp only [List.foldl_cons, List.map_cons]
    rw [mgC_fold r (mgC o x), mgC_el]
/-- the program's fold of the cells with the kept keys alone -/
theorem ce_fold (l : List Ce) (all : List Ce) (keep : List Int) (h : all.map Ce.el = (l.map Ce.el).map (prE keep)) : ((isort cmpL (fun x : Ce => x.el.1) all).foldl mgC []).map Ce.el = foldL (l.map Ce.el) keep := by
  rw [mgC_fold, List.map_nil, isort_fold cmpL_tot Ce.el all, h]
  rfl
/-- sums of at most n cells -/
def bndE (n : Nat) (x : El (List ByteArray)) : Prop := 0 ≤ x.2.1 ∧ x.2.1 ≤ 1000000 * (n : Int) ∧ -(1000000000000 * (n : Int)) ≤ x.2.2 ∧ x.2.2 ≤ 1000000000000 * (n : Int)
theorem bndE_mono {n m : Nat} {x : El (List ByteArray)} (h : bndE n x) (hm : n ≤ m) : bndE m x := by
  unfold bndE at *
  omega
theorem bndE_add {n : Nat} {x y : El (List ByteArray)} (h : bndE n y) (hx : bndE 1 x) : bndE (n + 1) (addE y x) := by
  unfold bndE addE at *
  simp only
  omega
theorem insF_bnd {n : Nat} (x : El (List ByteArray)) (hx : bndE 1 x) (hn : 0 < n + 1) : ∀ o : List (El (List ByteArray)), (∀ y ∈ o, bndE n y) → ∀ y ∈ insF cmpL x o, bndE (n + 1) y
  | [], _, y, hy => by
    simp [insF] at hy
    subst hy
    exact bndE_mono hx (by omega)
  | z :: r, h, y, hy => by
    simp only [insF] at hy
    split at hy
    · rcases List.mem_cons.1 hy with rfl | hy
      · exact bndE_mono (h y (by simp)) (by omega)
      · exact insF_bnd x hx hn r (fun w hw => h w (by simp [hw])) y hy
    · split at hy
      · rcases List.mem_cons.1 hy with rfl | hy
        · exact bndE_add (h z (by simp)) hx
        · exact bndE_mono (h y (by simp [hy])) (by omega)
      · rcases List.mem_cons.1 hy with rfl | hy
        · exact bndE_mono hx (by omega)
        · exact bndE_mono (h y hy) (by omega)
theorem fold_bnd : ∀ (l o : List (El (List ByteArray))) (n : Nat), (∀ x ∈ l, bndE 1 x) → (∀ y ∈ o, bndE n y) → ∀ y ∈ l.foldl (fun o x => insF cmpL x o) o, bndE (n + l.length) y
  | [], _, _, _, h => h
  | x :: r, o, n, hl, h => by
    intro y hy
    have := fold_bnd r (insF cmpL x o) (n + 1) (fun z hz => hl z (by simp [hz])) (insF_bnd x (hl x (by simp)) (by omega) o h) y hy
    rw [List.length_cons]
    rw [show n + (r.length + 1) = n + 1 + r.length by omega]
    exact this
theorem mgC_bnd {n : Nat} {o : List Ce} {x : Ce} (h : ∀ y ∈ o, bndE n y.el) (hx : bndE 1 x.el) : ∀ y ∈ mgC o x, bndE (n + 1) y.el := by
  rcases List.eq_nil_or_concat o with rfl | ⟨a, z, rfl⟩
  · intro y hy
    simp [mgC] at hy
    subst hy
    exact bndE_mono hx (by omega)
  · unfold mgC
    simp only [List.concat_eq_append, List.getLast?_append, List.getLast?_singleton, Option.some_or, List.dropLast_concat]
    intro y hy
    split at hy
    · rcases List.mem_append.1 hy with hy | hy
      · exact bndE_mono (h y (by simp [hy])) (by omega)
      · simp only [List.mem_singleton] at hy
        subst hy
        exact bndE_add (h z (by simp)) hx
    · rcases List.mem_append.1 hy with hy | hy
      · exact bndE_mono (h y (by simpa using hy)) (by omega)
      · simp only [List.mem_singleton] at hy
        subst hy
        exact bndE_mono hx (by omega)
theorem fullB_bnd {x : El (List ByteArray)} (h : fullB x.2.1 x.2.2 = true) : bndE 1 x := by
  unfold fullB at h
  simp only [Bool.and_eq_true, decide_eq_true_eq] at h
  unfold bndE
  omega
section
variable {κ : Type} {c : κ → κ → Int}
theorem plF_eq (k : κ) : ∀ (l : List (El κ)) (i : Nat), i ≤ l.length → (∀ t (h : t < l.length), t < i → c l[t].1 k < 0) → (∀ h : i < l.length, ¬ c l[i].1 k < 0) → plF c k l = i
  | [], i, hi, _, _ => by simp at hi; simp [plF, hi]
  | y :: r, 0, _, _, h2 => by
    have := h2 (by simp)
    simp only [plF]
    rw [if_neg (by simpa using this)]
  | y :: r, i + 1, hi, h1, h2 => by
    have h0 := h1 0 (by simp) (by omega)
    simp only [plF]
    rw [if_pos (by simpa using h0), plF_eq k r i (by simpa using hi) (fun t h ht => h1 (t + 1) (by simpa using h) (by omega)) (fun h => h2 (by simpa using h))]
/-- what a search by halves keeps: below i less, from j on not less -/
theorem half_lo (h : TotCmp c) {l : List (El κ)} (hs : l.Pairwise fun y z => c y.1 z.1 < 0) {k : κ} {m : Nat} (hm : m < l.length) (hc : c l[m].1 k < 0) : ∀ t (ht : t < l.length), t < m + 1 → c l[t].1 k < 0 := by
  intro t ht htm
  by_cases e : t = m
  · subst e; exact hc
  · exact h.tr _ _ _ (List.pairwise_iff_getElem.1 hs t m ht hm (by omega)) hc
theorem half_hi (h : TotCmp c) {l : List (El κ)} (hs : l.Pairwise fun y z => c y.1 z.1 < 0) {k : κ} {m : Nat} (hm : m < l.length) (hc : ¬ c l[m].1 k < 0) : ∀ t (ht : t < l.length), m ≤ t → ¬ c l[t].1 k < 0 := by
  intro t ht htm h2
  by_cases e : m = t
  · subst e; exact hc h2
  · exact hc (h.tr _ _ _ (List.pairwise_iff_getElem.1 hs m t hm ht (by omega)) h2)
end
/-- one step of the reference: the place is looked up, a cell of zeros put there where there is none, and the numbers added -/
def rfC (o : List Ce) (i : Nat) (x : Ce) : List Ce :=
  if i < o.length ∧ cmpL (o.getD i x).keys x.keys = 0 then o.set i { o.getD i x with many := (o.getD i x).many + x.many, cents := (o.getD i x).cents + x.cents } else o.take i ++ x :: o.drop i
theorem rfC_el (o : List Ce) (x : Ce) (i : Nat) (hi : plF cmpL x.keys (o.map Ce.el) = i) : (rfC o i x).map Ce.el = insF cmpL x.el (o.map Ce.el) := by
  have hi' : plF cmpL x.el.1 (o.map Ce.el) = i := hi
  obtain ⟨h1, h2⟩ := insF_at (c := cmpL) x.el (o.map Ce.el)
  simp only [hi'] at h1 h2
  unfold rfC
  by_cases h : i < o.length ∧ cmpL (o.getD i x).keys x.keys = 0
  · rw [if_pos h]
    have hg : o.getD i x = o[i]'h.1 := by simp [h.1]
    have := h1 (by simpa using h.1) (by
      have := h.2
      rw [hg] at this
      simpa [Ce.el] using this)
    rw [this, List.map_set]
    congr 1
    simp [Ce.el, addE, h.1]
  · rw [if_neg h]
    have := h2 (fun h3 h4 => h ⟨by simpa using h3, by
      have h5 : i < o.length := by simpa using h3
      have hg : o.getD i x = o[i] := by simp [h5]
      rw [hg]
      simpa [Ce.el] using h4⟩)
    rw [this]
    simp [List.map_take, List.map_drop]
end Go.Proofs.YtfdpfkdfglombaaGreatDoor
