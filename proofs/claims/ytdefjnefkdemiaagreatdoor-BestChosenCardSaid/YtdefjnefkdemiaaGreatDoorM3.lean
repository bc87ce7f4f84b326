/- Rows of records that are sorted, as lists (the generic part of XSortCe). -/
import Derived.Test.YtdefjnefkdemiaaGreatDoorRecs
import Derived.Shelf.SlSortCmp.InsertionK
import Derived.Test.YtdefjnefkdemiaaGreatDoorM1
import Derived.Lib.Strings
import Derived.Sort.LotA
import Derived.Test.YtdefjnefkdemiaaGreatDoorMeasure
import Derived.WalkLawsBesides
import Derived.Deep.QuietTactic
import Derived.BigQuiet
import Derived.StillTailTactics
import Derived.Deep.RegionHeld3
import Derived.Deep.RegionWith
import Derived.Test.YtdefjnefkdemiaaGreatDoorShelf
import Derived.Test.YtdefjnefkdemiaaGreatDoorM2
import Derived.Deep.DeepCutAuto
import Derived.Deep.CutBlock
import Derived.Maps.OwnOps
import Derived.Test.YtdefjnefkdemiaaGreatDoorStream
import Derived.Test.YtdefjnefkdemiaaGreatDoorDeal2
import Derived.Test.YtdefjnefkdemiaaGreatDoorDealt
set_option linter.unusedVariables false
namespace Go.Proofs.YtdefjnefkdemiaaGreatDoor
open Go.RowKit Go.Shelf Go.Lib Go.Sort

theorem flatK_list {α : Type} [Inhabited α] (enc : α → List Value) (k : Nat) (hk : ∀ x, (enc x).length = k) (hk0 : 0 < k) (d : Array α) : (flatK enc k d).toList = d.toList.flatMap enc := by
  apply List.ext_getElem?
  intro t
  by_cases ht : t < d.size * k
  · have hq : t / k < d.size := Nat.div_lt_of_lt_mul (by rwa [Nat.mul_comm] at ht)
    have h1 := fm_get k enc d.toList (fun x _ => hk x) (t / k) (t % k) (by simpa using hq) (Nat.mod_lt _ hk0)
    rw [Nat.div_add_mod' t k] at h1
    rw [h1]
    have h2 := get_flatK enc k d t ht
    have hs : t < (flatK enc k d).size := by simpa using ht
    rw [getElem!_pos _ t hs] at h2
    rw [Array.getElem?_toList, Array.getElem?_eq_getElem hs, h2]
    have h3 : t % k < (enc d[t / k]!).length := by rw [hk]; exact Nat.mod_lt _ hk0
    rw [getElem!_pos (enc d[t / k]!) (t % k) h3]
    have h4 : d[t / k]! = d[t / k] := getElem!_pos d _ hq
    simp only [Array.getElem_toList]
    rw [List.getElem?_eq_getElem (show t % k < (enc d[t / k]).length by rw [hk]; exact Nat.mod_lt _ hk0)]
    simp only [h4]
  · rw [List.getElem?_eq_none (by simp; omega), List.getElem?_eq_none (by rw [fm_length k enc d.toList (fun x _ => hk x)]; simp; omega)]
section
variable {α : Type} [Inhabited α] (enc : α → List Value) (k : Nat) (w : World) (g m : Nat) (d : Array α) (os : Array Obj)
theorem sortK_block {p : Nat} (hp : p < w.heap.size) (hne : p ≠ g) : (sortWorldK enc k w g 0 m d os).heap[p]? = w.heap[p]? := by
  unfold sortWorldK putRowK putRow mapBlock grow Sort.ahead
  simp only
  rw [Array.getElem?_append_left (by simpa using hp), Array.getElem?_modify, if_neg (fun e => hne e.symm)]
theorem sortK_size : (sortWorldK enc k w g 0 m d os).heap.size = w.heap.size + os.size := by
  unfold sortWorldK putRowK putRow mapBlock grow Sort.ahead
  simp
theorem sortK_grown : w.grownBy (sortWorldK enc k w g 0 m d os) (some g) :=
  ⟨rfl, rfl, rfl, by rw [sortK_size]; omega, fun p hp hne => sortK_block enc k w g m d os hp (fun e => hne (by rw [e]))⟩
theorem sortK_row {b0 n cap : Nat} {t : TypeId} {xs : List Value} (h : w.ownsRow b0 t k (.slice (some ⟨g, 0, none⟩) n cap) n xs) (hk : ∀ x, (enc x).length = k) (hk0 : 0 < k) (hd : d.size = n) :
    (sortWorldK enc k w g 0 m d os).ownsRow b0 t k (.slice (some ⟨g, 0, none⟩) n cap) n (d.toList.flatMap enc) := by
  subst hd
  refine ⟨by rw [fm_length k enc d.toList (fun x _ => hk x)]; simp, .inr ?_⟩
  rcases h.2 with ⟨e, _⟩ | ⟨g', cap', cur, e, hb, hg, hnc, hcm, hs, ht⟩
  · cases e
  · injection e with e1 e2 e3
    injection e1 with e1
    injection e1 with e1
    subst e1 e3
    have hlt := (Array.getElem?_eq_some_iff.1 hg).1
    refine ⟨g, cap, putCells id 0 (flatK enc k d) cur, rfl, hb, ?_, hnc, hcm, by unfold putCells; simpa using hs, ?_⟩
    · unfold sortWorldK putRowK putRow mapBlock grow Sort.ahead
      simp only
      rw [Array.getElem?_append_left (by simpa using hlt), Array.getElem?_modify, if_pos rfl, hg]
      rfl
    · rw [← flatK_list enc k hk hk0 d]
      have hle : d.size * k ≤ cap * k := Nat.mul_le_mul_right _ hnc
      apply List.ext_getElem?
      intro i
      by_cases hi : i < d.size * k
      · rw [List.getElem?_take_of_lt hi]
        unfold putCells
        have hi2 : i < (flatK enc k d).size := by simpa using hi
        simp only [Array.getElem?_toList, Array.getElem?_mapIdx, size_flatK, Nat.zero_le, true_and, Nat.zero_add, id, Nat.sub_zero]
        rw [Array.getElem?_eq_getElem (by omega), Array.getElem?_eq_getElem hi2]
        simp only [Option.map_some, if_pos hi]
        rw [getElem!_pos _ i hi2]
      · rw [List.getElem?_eq_none (by simp; omega), List.getElem?_eq_none (by simp; omega)]
theorem rowK_holds {b0 n cap : Nat} {t : TypeId} (h : w.ownsRow b0 t k (.slice (some ⟨g, 0, none⟩) n cap) n (d.toList.flatMap enc)) (hk : ∀ x, (enc x).length = k) (hk0 : 0 < k) (hd : d.size = n) : HoldsK enc k w g 0 d := by
  subst hd
  intro j hj
  rw [size_flatK] at hj
  rw [Nat.zero_add]
  refine ⟨?_, h.frozenAt _⟩
  rw [h.cellAt j hj, ← flatK_list enc k hk hk0 d, Array.getElem?_toList]
  have hj2 : j < (flatK enc k d).size := by simpa using hj
  rw [Array.getElem?_eq_getElem hj2, getElem!_pos _ j hj2]
  rfl
end
end Go.Proofs.YtdefjnefkdemiaaGreatDoor
/- Sums by keys: sorted and put together, or put in one after the other; the order of lists of strings. -/
set_option linter.unusedVariables false
namespace Go.Proofs.YtdefjnefkdemiaaGreatDoor
open Go.RowKit

structure TotCmp {κ : Type} (c : κ → κ → Int) : Prop where
  eq : ∀ x y, c x y = 0 ↔ x = y
  anti : ∀ x y, c x y < 0 ↔ 0 < c y x
  tr : ∀ x y z, c x y < 0 → c y z < 0 → c x z < 0

abbrev El (κ : Type) := κ × Int × Int
section
variable {κ : Type} {c : κ → κ → Int}
abbrev addE (y x : El κ) : El κ := (y.1, y.2.1 + x.2.1, y.2.2 + x.2.2)
/-- x put in its place; where its key is already there, added -/
def insF (c : κ → κ → Int) (x : El κ) : List (El κ) → List (El κ)
  | [] => [x]
  | y :: r => if c y.1 x.1 < 0 then y :: insF c x r else if c y.1 x.1 = 0 then addE y x :: r else x :: y :: r
theorem addE_key (y x : El κ) : (addE y x).1 = y.1 := rfl
theorem TotCmp.self (h : TotCmp c) (x : κ) : c x x = 0 := (h.eq x x).2 rfl
theorem TotCmp.flip (h : TotCmp c) {x y : κ} (h1 : ¬ c x y < 0) (h2 : ¬ c x y = 0) : c y x < 0 := by
  rw [h.anti]
  omega
theorem insF_comm (h : TotCmp c) (x y : El κ) : ∀ l, insF c x (insF c y l) = insF c y (insF c x l)
  | [] => by
    simp only [insF]
    by_cases h1 : c y.1 x.1 < 0
    · have h2 : ¬ c x.1 y.1 < 0 := by have := (h.anti y.1 x.1).1 h1; omega
      have h3 : ¬ c x.1 y.1 = 0 := by have := (h.anti y.1 x.1).1 h1; omega
      rw [if_pos h1, if_neg h2, if_neg h3]
    · by_cases h2 : c y.1 x.1 = 0
      · have e := (h.eq y.1 x.1).1 h2
        have h3 : c x.1 y.1 = 0 := (h.eq _ _).2 e.symm
        rw [if_neg h1, if_pos h2, if_neg (by omega), if_pos h3]
        simp only [addE, e, Int.add_comm]
      · have h3 := h.flip h1 h2
        rw [if_neg h1, if_neg h2, if_pos h3]
  | z :: r => by
    have ih := insF_comm h x y r
    by_cases a1 : c z.1 y.1 < 0
    · by_cases b1 : c z.1 x.1 < 0
      · simp only [insF, if_pos a1, if_pos b1, ih]
      · by_cases b2 : c z.1 x.1 = 0
        · have e := (h.eq _ _).1 b2
          simp only [insF, if_pos a1, if_neg b1, if_pos b2]
        · have b3 := h.flip b1 b2
          have x1 : c x.1 y.1 < 0 := h.tr _ _ _ b3 a1
          simp only [insF, if_pos a1, if_neg b1, if_neg b2, if_pos x1]
    · by_cases a2 : c z.1 y.1 = 0
      · have e := (h.eq _ _).1 a2
        by_cases b1 : c z.1 x.1 < 0
        · simp only [insF, if_neg a1, if_pos a2, if_pos b1]
        · by_cases b2 : c z.1 x.1 = 0
          · simp only [insF, if_neg a1, if_pos a2, if_neg b1, if_pos b2]
            simp only [addE, Int.add_assoc, Int.add_comm x.2.1, Int.add_comm x.2.2]
          · have b3 := h.flip b1 b2
            have x1 : c x.1 y.1 < 0 := by rw [← e]; exact b3
            simp only [insF, if_neg a1, if_pos a2, if_neg b1, if_neg b2, if_pos x1]
      · have a3 := h.flip a1 a2
        by_cases b1 : c z.1 x.1 < 0
        · have x1 : c y.1 x.1 < 0 := h.tr _ _ _ a3 b1
          simp only [insF, if_neg a1, if_neg a2, if_pos b1, if_pos x1]
        · by_cases b2 : c z.1 x.1 = 0
          · have e := (h.eq _ _).1 b2
            have x1 : c y.1 x.1 < 0 := by rw [← e]; exact a3
            simp only [insF, if_neg a1, if_neg a2, if_neg b1, if_pos b2, if_pos x1]
          · have b3 := h.flip b1 b2
            by_cases x1 : c y.1 x.1 < 0
            · have x2 : ¬ c x.1 y.1 < 0 := by have := (h.anti _ _).1 x1; omega
              have x3 : ¬ c x.1 y.1 = 0 := by have := (h.anti _ _).1 x1; omega
              simp only [insF, if_neg a1, if_neg a2, if_neg b1, if_neg b2, if_pos x1, if_neg x2, if_neg x3]
            · by_cases x2 : c y.1 x.1 = 0
              · have e := (h.eq _ _).1 x2
                have x3 : c x.1 y.1 = 0 := (h.eq _ _).2 e.symm
                simp only [insF, if_neg a1, if_neg a2, if_neg b1, if_neg b2, if_neg x1, if_pos x2, if_neg (show ¬ c x.1 y.1 < 0 by omega), if_pos x3]
                simp only [addE, e, Int.add_comm]
              · have x3 := h.flip x1 x2
                simp only [insF, if_neg a1, if_neg a2, if_neg b1, if_neg b2, if_neg x1, if_neg x2, if_pos x3]
theorem insF_perm (h : TotCmp c) {l m : List (El κ)} (hp : l.Perm m) : ∀ o, l.foldl (fun o x => insF c x o) o = m.foldl (fun o x => insF c x o) o := by
  induction hp with
  | nil => intro o; rfl
  | cons x _ ih => intro o; exact ih _
  | swap x y l => intro o; simp only [List.foldl_cons]; rw [insF_comm h]
  | trans _ _ ih1 ih2 => intro o; rw [ih1, ih2]
/-- x behind what is there: added to the last where that has its key -/
def mgStep [DecidableEq κ] (o : List (El κ)) (x : El κ) : List (El κ) :=
  match o.getLast? with
  | some y => if y.1 = x.1 then o.dropLast ++ [addE y x] else o ++ [x]
  | none => [x]
theorem insF_app (x : El κ) : ∀ (a b : List (El κ)), (∀ y ∈ a, c y.1 x.1 < 0) → insF c x (a ++ b) = a ++ insF c x b
  | [], _, _ => rfl
  | y :: a, b, h => by
    simp only [List.cons_append, insF]
    rw [if_pos (h y (by simp)), insF_app x a b (fun z hz => h z (by simp [hz]))]
theorem mg_ins [DecidableEq κ] (h : TotCmp c) (o : List (El κ)) (x : El κ) (hs : o.Pairwise fun y z => c y.1 z.1 < 0) (hx : ∀ y ∈ o, c y.1 x.1 ≤ 0) : mgStep o x = insF c x o := by
  rcases List.eq_nil_or_concat o with rfl | ⟨a, y, rfl⟩
  · rfl
  · have hy := hx y (by simp)
    have ha : ∀ z ∈ a, c z.1 x.1 < 0 := fun z hz => by
      have h1 : c z.1 y.1 < 0 := by
        rw [List.concat_eq_append, List.pairwise_append] at hs
        exact hs.2.2 z hz y (by simp)
      by_cases h2 : c y.1 x.1 = 0
      · rw [← (h.eq _ _).1 h2]; exact h1
      · exact h.tr _ _ _ h1 (by omega)
    unfold mgStep
    rw [List.concat_eq_append, insF_app x a [y] ha]
    simp only [List.getLast?_append, List.getLast?_singleton, Option.some_or, List.dropLast_concat, insF]
    by_cases h1 : c y.1 x.1 < 0
    · have h2 : ¬ y.1 = x.1 := fun e => by have := (h.eq _ _).2 e; omega
      rw [if_neg h2, if_pos h1]
      simp
    · have h2 : c y.1 x.1 = 0 := by omega
      have h3 := (h.eq _ _).1 h2
      rw [if_pos h3, if_neg h1, if_pos h2]
theorem mg_keep (h : TotCmp c) [DecidableEq κ] (o r : List (El κ)) (x : El κ) (hs : o.Pairwise fun y z => c y.1 z.1 < 0) (hx : ∀ y ∈ o, ∀ z ∈ x :: r, c y.1 z.1 ≤ 0) (hr : ∀ z ∈ r, c x.1 z.1 ≤ 0) :
    (mgStep o x).Pairwise (fun y z => c y.1 z.1 < 0) ∧ ∀ y ∈ mgStep o x, ∀ z ∈ r, c y.1 z.1 ≤ 0 := by
  rcases List.eq_nil_or_concat o with rfl | ⟨a, y, rfl⟩
  · exact ⟨by simp [mgStep], fun y hy z hz => by
      simp [mgStep] at hy
      subst hy
      exact hr z hz⟩
  · rw [List.concat_eq_append] at *
    rw [List.pairwise_append] at hs
    obtain ⟨h1, -, h3⟩ := hs
    unfold mgStep
    simp only [List.getLast?_append, List.getLast?_singleton, Option.some_or, List.dropLast_concat]
    by_cases e : y.1 = x.1
    · rw [if_pos e]
      refine ⟨List.pairwise_append.2 ⟨h1, by simp, fun z hz w hw => ?_⟩, fun w hw z hz => ?_⟩
      · simp at hw; subst hw; exact h3 z hz y (by simp)
      · rcases List.mem_append.1 hw with hw | hw
        · exact hx w (by simp [hw]) z (by simp [hz])
        · simp at hw; subst hw; exact hx y (by simp) z (by simp [hz])
    · rw [if_neg e]
      have hyx : c y.1 x.1 < 0 := by
        have := hx y (by simp) x (by simp)
        have h4 : ¬ c y.1 x.1 = 0 := fun e' => e ((h.eq _ _).1 e')
        omega
      refine ⟨List.pairwise_append.2 ⟨List.pairwise_append.2 ⟨h1, by simp, h3⟩, by simp, fun z hz w hw => ?_⟩, fun w hw z hz => ?_⟩
      · simp only [List.mem_singleton] at hw
        subst hw
        rcases List.mem_append.1 hz with hz | hz
        · exact h.tr _ _ _ (h3 z hz y (by simp)) hyx
        · simp at hz; subst hz; exact hyx
      · rcases List.mem_append.1 hw with hw | hw
        · exact hx w hw z (by simp [hz])
        · simp at hw; subst hw; exact hr z hz
theorem mg_fold (h : TotCmp c) [DecidableEq κ] : ∀ (l o : List (El κ)), l.Pairwise (fun x y => c x.1 y.1 ≤ 0) → o.Pairwise (fun y z => c y.1 z.1 < 0) → (∀ y ∈ o, ∀ z ∈ l, c y.1 z.1 ≤ 0) → l.foldl mgStep o = l.foldl (fun o x => insF c x o) o
  | [], o, _, _, _ => rfl
  | x :: r, o, hl, ho, hx => by
    rw [List.pairwise_cons] at hl
    obtain ⟨k1, k2⟩ := mg_keep h o r x ho hx hl.1
    simp only [List.foldl_cons]
    rw [mg_fold h r _ hl.2 k1 k2, mg_ins h o x ho (fun y hy => hx y hy x (by simp))]
/-- sorted in whatever way, and put together: as put in one after the other -/
theorem fold_same (h : TotCmp c) [DecidableEq κ] {l s : List (El κ)} (hp : s.Perm l) (hs : s.Pairwise fun x y => c x.1 y.1 ≤ 0) : s.foldl mgStep [] = l.foldl (fun o x => insF c x o) [] := by
  rw [mg_fold h s [] hs List.Pairwise.nil (by simp), insF_perm h hp]
/-- what one after the other leaves is in order, strictly -/
theorem insF_mem (x : El κ) : ∀ (l : List (El κ)) (y : El κ), y ∈ insF c x l → y.1 = x.1 ∨ ∃ z ∈ l, z.1 = y.1
  | [], y, hy => by simp [insF] at hy; exact .inl (by rw [hy])
  | z :: r, y, hy => by
    simp only [insF] at hy
    split at hy
    · rcases List.mem_cons.1 hy with rfl | hy
      · exact .inr ⟨y, by simp, rfl⟩
      · rcases insF_mem x r y hy with h | ⟨w, hw, e⟩
        · exact .inl h
        · exact .inr ⟨w, by simp [hw], e⟩
    · split at hy
      · rcases List.mem_cons.1 hy with rfl | hy
        · exact .inr ⟨z, by simp, rfl⟩
        · exact .inr ⟨y, by simp [hy], rfl⟩
      · rcases List.mem_cons.1 hy with rfl | hy
        · exact .inl rfl
        · exact .inr ⟨y, hy, rfl⟩
theorem insF_sorted (h : TotCmp c) (x : El κ) : ∀ (l : List (El κ)), l.Pairwise (fun y z => c y.1 z.1 < 0) → (insF c x l).Pairwise fun y z => c y.1 z.1 < 0
  | [], _ => by simp [insF]
  | z :: r, hl => by
    rw [List.pairwise_cons] at hl
    simp only [insF]
    by_cases h1 : c z.1 x.1 < 0
    · rw [if_pos h1, List.pairwise_cons]
      refine ⟨fun y hy => ?_, insF_sorted h x r hl.2⟩
      rcases insF_mem x r y hy with e | ⟨w, hw, e⟩
      · rw [e]; exact h1
      · rw [← e]; exact hl.1 w hw
    · rw [if_neg h1]
      by_cases h2 : c z.1 x.1 = 0
      · rw [if_pos h2, List.pairwise_cons]
        exact ⟨hl.1, hl.2⟩
      · have h3 := h.flip h1 h2
        rw [if_neg h2, List.pairwise_cons]
        refine ⟨fun y hy => ?_, List.pairwise_cons.2 hl⟩
        rcases List.mem_cons.1 hy with rfl | hy
        · exact h3
        · exact h.tr _ _ _ h3 (hl.1 y hy)
/-- the first place whose key is not less -/
def plF (c : κ → κ → Int) (k : κ) : List (El κ) → Nat
  | [] => 0
  | y :: r => if c y.1 k < 0 then plF c k r + 1 else 0
theorem plF_le (k : κ) : ∀ l, plF c k l ≤ l.length
  | [] => Nat.le_refl _
  | y :: r => by
    simp only [plF, List.length_cons]
    have := plF_le k r
    split <;> omega
theorem insF_at (x : El κ) : ∀ (l : List (El κ)), (∀ h : plF c x.1 l < l.length, c l[plF c x.1 l].1 x.1 = 0 → insF c x l = l.set (plF c x.1 l) (addE l[plF c x.1 l] x)) ∧ ((∀ h : plF c x.1 l < l.length, ¬ c l[plF c x.1 l].1 x.1 = 0) → insF c x l = l.take (plF c x.1 l) ++ x :: l.drop (plF c x.1 l))
  | [] => ⟨fun h => by simp [plF] at h, fun _ => rfl⟩
  | y :: r => by
    obtain ⟨i1, i2⟩ := insF_at x r
    by_cases h1 : c y.1 x.1 < 0
    · have hp : plF c x.1 (y :: r) = plF c x.1 r + 1 := by simp only [plF]; rw [if_pos h1]
      have hi : insF c x (y :: r) = y :: insF c x r := by simp only [insF]; rw [if_pos h1]
      simp only [hp, hi]
      refine ⟨fun h h2 => ?_, fun h => ?_⟩
      · rw [i1 (by simpa using h) (by simpa using h2)]
        simp
      · rw [i2 (fun h3 => by simpa using h (by simpa using h3))]
        simp
    · have hp : plF c x.1 (y :: r) = 0 := by simp only [plF]; rw [if_neg h1]
      simp only [hp]
      refine ⟨fun h h2 => ?_, fun h => ?_⟩
      · simp only [insF]
        rw [if_neg h1, if_pos (by simpa using h2)]
        simp
      · simp only [insF]
        rw [if_neg h1, if_neg (by simpa using h (by simp))]
        simp
end
/-- lists by their first difference, the shorter first -/
def lexC {κ : Type} (c : κ → κ → Int) : List κ → List κ → Int
  | [], [] => 0
  | [], _ :: _ => -1
  | _ :: _, [] => 1
  | a :: l, b :: m => if c a b = 0 then lexC c l m else c a b
theorem lexC_tot {κ : Type} {c : κ → κ → Int} (h : TotCmp c) : TotCmp (lexC c) where
  eq := by
    intro x
    induction x with
    | nil => intro y; cases y <;> simp [lexC]
    | cons a l ih =>
      intro y
      cases y with
      | nil => simp [lexC]
      | cons b m =>
        simp only [lexC]
        by_cases h1 : c a b = 0
        · rw [if_pos h1, ih m, (h.eq a b).1 h1]
          simp
        · rw [if_neg h1]
          constructor
          · intro h2; exact absurd h2 h1
          · intro h2
            injection h2 with h2 h3
            exact absurd ((h.eq a b).2 h2) h1
  anti := by
    intro x
    induction x with
    | nil => intro y; cases y <;> simp [lexC]
    | cons a l ih =>
      intro y
      cases y with
      | nil => simp [lexC]
      | cons b m =>
        simp only [lexC]
        by_cases h1 : c a b = 0
        · have h2 : c b a = 0 := (h.eq _ _).2 ((h.eq _ _).1 h1).symm
          rw [if_pos h1, if_pos h2, ih m]
        · have h2 : ¬ c b a = 0 := fun e => h1 ((h.eq _ _).2 ((h.eq _ _).1 e).symm)
          rw [if_neg h1, if_neg h2, h.anti a b]
  tr := by
    intro x
    induction x with
    | nil =>
      intro y z h1 h2
      cases z with
      | nil =>
        cases y with
        | nil => simp [lexC] at h1
        | cons b m => simp [lexC] at h2
      | cons d n => simp [lexC]
    | cons a l ih =>
      intro y z h1 h2
      cases y with
      | nil => simp [lexC] at h1
      | cons b m =>
        cases z with
        | nil => simp [lexC] at h2
        | cons d n =>
          simp only [lexC] at h1 h2 ⊢
          by_cases e1 : c a b = 0
          · have e := (h.eq _ _).1 e1
            rw [if_pos e1] at h1
            subst e
            by_cases e2 : c a d = 0
            · rw [if_pos e2] at h2 ⊢
              exact ih m n h1 h2
            · rw [if_neg e2] at h2 ⊢
              exact h2
          · rw [if_neg e1] at h1
            by_cases e2 : c b d = 0
            · have e := (h.eq _ _).1 e2
              subst e
              rw [if_neg e1]
              exact h1
            · rw [if_neg e2] at h2
              have h3 := h.tr _ _ _ h1 h2
              rw [if_neg (by omega)]
              exact h3
/-- the order of bytes -/
def cmpU (a b : UInt8) : Int := if a < b then -1 else if a = b then 0 else 1
theorem cmpU_tot : TotCmp cmpU where
  eq := fun x y => by
    unfold cmpU
    by_cases h : x < y
    · rw [if_pos h]
      constructor
      · intro e; cases e
      · intro e; subst e; exact absurd h (by simp)
    · rw [if_neg h]
      by_cases h2 : x = y <;> simp [h2]
  anti := fun x y => by
    unfold cmpU
    simp only [UInt8.lt_iff_toNat_lt, ← UInt8.toNat_inj]
    repeat' split
    all_goals omega
  tr := fun x y z => by
    unfold cmpU
    simp only [UInt8.lt_iff_toNat_lt, ← UInt8.toNat_inj]
    repeat' split
    all_goals omega
theorem less_lex : ∀ x y : List UInt8, Op.bytesLess x y = decide (lexC cmpU x y < 0)
  | [], [] => rfl
  | [], _ :: _ => rfl
  | _ :: _, [] => rfl
  | a :: x, b :: y => by
    simp only [Op.bytesLess, lexC]
    rw [less_lex x y]
    unfold cmpU
    by_cases h : a < b
    · simp [h]
    · by_cases h2 : a = b
      · simp [h2]
      · simp [h, h2]
/-- the order of strings -/
def cmpB (a b : ByteArray) : Int := lexC cmpU a.toList b.toList
theorem toList_inj {a b : ByteArray} (h : a.toList = b.toList) : a = b := by
  rw [Lib.toList_data, Lib.toList_data] at h
  obtain ⟨⟨x⟩⟩ := a
  obtain ⟨⟨y⟩⟩ := b
  simp only at h
  rw [h]
theorem cmpB_tot : TotCmp cmpB where
  eq := fun x y => by
    unfold cmpB
    rw [(lexC_tot cmpU_tot).eq]
    exact ⟨toList_inj, fun e => by rw [e]⟩
  anti := fun x y => (lexC_tot cmpU_tot).anti _ _
  tr := fun x y z => (lexC_tot cmpU_tot).tr _ _ _
theorem lexU_val : ∀ x y : List UInt8, lexC cmpU x y = -1 ∨ lexC cmpU x y = 0 ∨ lexC cmpU x y = 1
  | [], [] => .inr (.inl rfl)
  | [], _ :: _ => .inl rfl
  | _ :: _, [] => .inr (.inr rfl)
  | a :: x, b :: y => by
    simp only [lexC]
    have := lexU_val x y
    split
    · exact this
    · unfold cmpU
      repeat' split
      all_goals simp
/-- what cmp.Compare gives at strings -/
theorem cmpB_if (a b : ByteArray) : cmpB a b = if Op.bytesLess a.toList b.toList = true then -1 else if Op.bytesLess b.toList a.toList = true then 1 else 0 := by
  rw [less_lex, less_lex]
  simp only [decide_eq_true_eq]
  have h1 := lexU_val a.toList b.toList
  have h2 := (lexC_tot cmpU_tot).anti b.toList a.toList
  unfold cmpB
  split
  · omega
  · split
    · omega
    · omega
/-- the order of lists of strings, as slices.Compare has it -/
def cmpL (a b : List ByteArray) : Int := lexC cmpB a b
theorem cmpL_tot : TotCmp cmpL := lexC_tot cmpB_tot
end Go.Proofs.YtdefjnefkdemiaaGreatDoor
/- Cells as records; what is wrong with cells, in plain words. -/
set_option linter.unusedVariables false
namespace Go.Proofs.YtdefjnefkdemiaaGreatDoor
open Go.RowKit

theorem TotCmp.zero_flip {κ : Type} {c : κ → κ → Int} (h : TotCmp c) (x y : κ) : c x y = 0 ↔ c y x = 0 := by
  rw [h.eq, h.eq]
  exact eq_comm
theorem TotCmp.le_flip {κ : Type} {c : κ → κ → Int} (h : TotCmp c) (x y : κ) : c x y ≤ 0 ↔ 0 ≤ c y x := by
  have h1 := h.anti x y
  have h2 := h.zero_flip x y
  omega
/-- a cell; its keys: where they lie, their capacity, and what they are -/
structure Ce where
  tv : Option Addr
  tc : Nat
  keys : List ByteArray
  many : Int
  cents : Int
def Ce.cells (x : Ce) : List Value := [.slice x.tv x.keys.length x.tc, .int .i64 x.many, .int .i64 x.cents]
def Ce.ok (x : Ce) : Prop := x.keys.length ≤ 20 ∧ (∀ s ∈ x.keys, s.size ≤ 100) ∧ -100000000 ≤ x.many ∧ x.many ≤ 100000000 ∧ -100000000000000 ≤ x.cents ∧ x.cents ≤ 100000000000000
theorem Ce.len (x : Ce) : x.cells.length = 3 := rfl
/-- what the plain law sees of a cell -/
def Ce.el (x : Ce) : El (List ByteArray) := (x.keys, x.many, x.cents)
/-- the numbers of a cell are in their ranges -/
def fullB (many cents : Int) : Bool := (decide (0 ≤ many) && decide (many ≤ 1000000)) && (decide (-1000000000000 ≤ cents) && decide (cents ≤ 1000000000000))
def ceSt (b1 b2 b3 b4 : Bool) : Int := if b1 then 3 else if b2 then 5 else if b3 then 7 else if b4 = false then 1 else 0
def ceStep (l : List Ce) (i : Nat) (h : i < l.length) : Int :=
  ceSt (!decide (l[i].keys.length = (l[0]'(by omega)).keys.length) || decide (6 < l[i].keys.length)) (l[i].keys.any fun s => !keyB s) (decide (0 < i) && decide (cmpL l[i].keys (l[i - 1]'(by omega)).keys ≤ 0)) (fullB l[i].many l[i].cents)
def ceGo (l : List Ce) : Nat → Nat → Int
  | 0, _ => 0
  | f + 1, i => if h : i < l.length then if ceStep l i h = 0 then ceGo l f (i + 1) else ceStep l i h else 0
def ceE (l : List Ce) : Int := if 2000 < l.length then 2 else ceGo l l.length 0
theorem ceGo_step (l : List Ce) (k : Nat) (h : k < l.length) : ceGo l (l.length - k) k = if ceStep l k h = 0 then ceGo l (l.length - (k + 1)) (k + 1) else ceStep l k h := by
  rw [show l.length - k = (l.length - (k + 1)) + 1 by omega, ceGo, dif_pos h]
/-- what is wrong with the dimensions that are kept -/
def kpE (d : Int) (keep : List Int) : Nat → Nat → Int
  | 0, _ => 0
  | f + 1, i => if keep.getD i 0 < 0 ∨ d ≤ keep.getD i 0 then 1 else if 0 < i ∧ keep.getD i 0 ≤ keep.getD (i - 1) 0 then 7 else kpE d keep f (i + 1)
/-- a cell with the kept keys alone -/
def prE (keep : List Int) (x : El (List ByteArray)) : El (List ByteArray) := (keep.map fun k => x.1.getD k.toNat ⟨#[]⟩, x.2)
def foldL (l : List (El (List ByteArray))) (keep : List Int) : List (El (List ByteArray)) := (l.map (prE keep)).foldl (fun o x => insF cmpL x o) []
def dimE (l : List Ce) : Int := match l with
  | [] => 6
  | x :: _ => x.keys.length
/-- what is wrong with a fold -/
def fdE (l : List Ce) (keep : List Int) : Int :=
  if ceE l ≠ 0 then ceE l else if kpE (dimE l) keep keep.length 0 ≠ 0 then kpE (dimE l) keep keep.length 0 else if ((foldL (l.map Ce.el) keep).any fun x => !fullB x.2.1 x.2.2) = true then 12 else 0
end Go.Proofs.YtdefjnefkdemiaaGreatDoor
/- Insertion sort by keys: sorted, and the same elements. -/
set_option linter.unusedVariables false
namespace Go.Proofs.YtdefjnefkdemiaaGreatDoor
open Go.RowKit

/-- less, by the keys -/
def ltK {α κ : Type} (c : κ → κ → Int) (key : α → κ) (x y : α) : Bool := decide (c (key x) (key y) < 0)
theorem ltK_swo {α κ : Type} {c : κ → κ → Int} (h : TotCmp c) (key : α → κ) : Sort.SWO (ltK c key) where
  irrefl := fun x => by
    unfold ltK
    rw [h.self]
    rfl
  trans := fun x y z h1 h2 => by
    unfold ltK at *
    simp only [decide_eq_true_eq] at *
    exact h.tr _ _ _ h1 h2
  ntrans := fun x y z h1 h2 => by
    unfold ltK at *
    simp only [decide_eq_false_iff_not] at *
    intro h3
    by_cases h4 : c (key x) (key y) = 0
    · rw [(h.eq _ _).1 h4] at h3
      exact h2 h3
    · exact h2 (h.tr _ _ _ (h.flip h1 h4) h3)
def isort {α κ : Type} [Inhabited α] (c : κ → κ → Int) (key : α → κ) (l : List α) : List α := (Sort.insertionSort (ltK c key) l.toArray 0 l.length).toList
theorem isort_law {α κ : Type} [Inhabited α] {c : κ → κ → Int} (h : TotCmp c) (key : α → κ) (l : List α) : (isort c key l).Perm l ∧ (isort c key l).Pairwise (fun x y => c (key x) (key y) ≤ 0) := by
  obtain ⟨⟨h1, _, h3⟩, h4⟩ := Sort.insertionSort_holds (lt := ltK c key) (ltK_swo h key) l.toArray 0 l.length (Nat.zero_le _) (by simp)
  unfold isort
  generalize Sort.insertionSort (ltK c key) l.toArray 0 l.length = d at *
  have hs : d.size = l.length := by simpa using h1
  refine ⟨?_, ?_⟩
  · have e1 : d.extract 0 l.length = d := by rw [← hs]; simp
    have e2 : l.toArray.extract 0 l.length = l.toArray := by simp
    rw [e1, e2] at h3
    simpa using h3
  · rw [List.pairwise_iff_getElem]
    intro i j hi hj hij
    have hi' : i < d.size := by simpa using hi
    have hj' : j < d.size := by simpa using hj
    have h5 := h4 i j (Nat.zero_le _) hij (by omega)
    rw [getElem!_pos d j hj', getElem!_pos d i hi'] at h5
    unfold ltK at h5
    simp only [decide_eq_false_iff_not] at h5
    simp only [Array.getElem_toList]
    by_cases h6 : c (key d[j]) (key d[i]) = 0
    · have := (h.eq _ _).1 h6
      rw [this, h.self]
      omega
    · have := h.flip h5 h6
      omega
/-- sorted and put together: as put in one after the other -/
theorem isort_fold {κ : Type} [Inhabited κ] [DecidableEq κ] {c : κ → κ → Int} (h : TotCmp c) {α : Type} [Inhabited α] (el : α → El κ) (l : List α) : ((isort c (fun x => (el x).1) l).map el).foldl mgStep [] = (l.map el).foldl (fun o x => insF c x o) [] := by
  obtain ⟨h1, h2⟩ := isort_law h (fun x => (el x).1) l
  refine fold_same h (h1.map el) ?_
  rw [List.pairwise_map]
  exact h2
end Go.Proofs.YtdefjnefkdemiaaGreatDoor
/- Folding cells, in plain words: the cells that are put together keep their own places; bounds of sums. -/
set_option linter.unusedVariables false
namespace Go.Proofs.YtdefjnefkdemiaaGreatDoor
open Go.RowKit

instance : Inhabited Ce := ⟨⟨none, 0, [], 0, 0⟩⟩
/-- a cell behind what is there: added to the last where that has its keys -/
def mgC (o : List Ce) (x : Ce) : List Ce :=
  match o.getLast? with
  | some y => if y.keys = x.keys then o.dropLast ++ [{ y with many := y.many + x.many, cents := y.cents + x.cents }] else o ++ [x]
  | none => [x]
theorem mgC_el (o : List Ce) (x : Ce) : (mgC o x).map Ce.el = mgStep (o.map Ce.el) x.el := by
  rcases List.eq_nil_or_concat o with rfl | ⟨a, y, rfl⟩
  · rfl
  · unfold mgC mgStep
    simp only [List.concat_eq_append, List.map_append, List.map_cons, List.map_nil, List.getLast?_append, List.getLast?_singleton, Option.some_or, List.dropLast_concat]
    by_cases h : y.keys = x.keys
    · rw [if_pos h, if_pos (show y.el.1 = x.el.1 from h)]
      simp [Ce.el, addE]
    · rw [if_neg h, if_neg (show ¬ y.el.1 = x.el.1 from h)]
      simp
theorem mgC_fold : ∀ (l o : List Ce), (l.foldl mgC o).map Ce.el = (l.map Ce.el).foldl mgStep (o.map Ce.el)
  | [], _ => rfl
  | x :: r, o => by
    simp only [List.foldl_cons, List.map_cons]
    rw [mgC_fold r (mgC o x), mgC_el]
/-- the program's fold of the cells with the kept keys alone -/
theorem ce_fold (l : List Ce) (all : List Ce) (keep : List Int) (h : all.map Ce.el = (l.map Ce.el).map (prE keep)) : ((isort cmpL (fun x : Ce => x.el.1) all).foldl mgC []).map Ce.el = foldL (l.map Ce.el) keep := by
  rw [mgC_fold, List.map_nil, isort_fold cmpL_tot Ce.el all, h]
  rfl
/-- sums of at most n cells -/
def bndE (n : Nat) (x : El (List ByteArray)) : Prop := 0 ≤ x.2.1 ∧ x.2.1 ≤ 1000000 * (n : Int) ∧ -(1000000000000 * (n : Int)) ≤ x.2.2 ∧ x.2.2 ≤ 1000000000000 * (n : Int)
theorem bndE_mono {n m : Nat} {x : El (List ByteArray)} (h : bndE n x) (hm : n ≤ m) : bndE m x := by
  unfold bndE at *
  omega
theorem bndE_add {n : Nat} {x y : El (List ByteArray)} (h : bndE n y) (hx : bndE 1 x) : bndE (n + 1) (addE y x) := by
  unfold bndE addE at *
  simp only
  omega
theorem insF_bnd {n : Nat} (x : El (List ByteArray)) (hx : bndE 1 x) (hn : 0 < n + 1) : ∀ o : List (El (List ByteArray)), (∀ y ∈ o, bndE n y) → ∀ y ∈ insF cmpL x o, bndE (n + 1) y
  | [], _, y, hy => by
    simp [insF] at hy
    subst hy
    exact bndE_mono hx (by omega)
  | z :: r, h, y, hy => by
    simp only [insF] at hy
    split at hy
    · rcases List.mem_cons.1 hy with rfl | hy
      · exact bndE_mono (h y (by simp)) (by omega)
      · exact insF_bnd x hx hn r (fun w hw => h w (by simp [hw])) y hy
    · split at hy
      · rcases List.mem_cons.1 hy with rfl | hy
        · exact bndE_add (h z (by simp)) hx
        · exact bndE_mono (h y (by simp [hy])) (by omega)
      · rcases List.mem_cons.1 hy with rfl | hy
        · exact bndE_mono hx (by omega)
        · exact bndE_mono (h y hy) (by omega)
theorem fold_bnd : ∀ (l o : List (El (List ByteArray))) (n : Nat), (∀ x ∈ l, bndE 1 x) → (∀ y ∈ o, bndE n y) → ∀ y ∈ l.foldl (fun o x => insF cmpL x o) o, bndE (n + l.length) y
  | [], _, _, _, h => h
  | x :: r, o, n, hl, h => by
    intro y hy
    have := fold_bnd r (insF cmpL x o) (n + 1) (fun z hz => hl z (by simp [hz])) (insF_bnd x (hl x (by simp)) (by omega) o h) y hy
    rw [List.length_cons]
    rw [show n + (r.length + 1) = n + 1 + r.length by omega]
    exact this
theorem mgC_bnd {n : Nat} {o : List Ce} {x : Ce} (h : ∀ y ∈ o, bndE n y.el) (hx : bndE 1 x.el) : ∀ y ∈ mgC o x, bndE (n + 1) y.el := by
  rcases List.eq_nil_or_concat o with rfl | ⟨a, z, rfl⟩
  · intro y hy
    simp [mgC] at hy
    subst hy
    exact bndE_mono hx (by omega)
  · unfold mgC
    simp only [List.concat_eq_append, List.getLast?_append, List.getLast?_singleton, Option.some_or, List.dropLast_concat]
    intro y hy
    split at hy
    · rcases List.mem_append.1 hy with hy | hy
      · exact bndE_mono (h y (by simp [hy])) (by omega)
      · simp only [List.mem_singleton] at hy
        subst hy
        exact bndE_add (h z (by simp)) hx
    · rcases List.mem_append.1 hy with hy | hy
      · exact bndE_mono (h y (by simpa using hy)) (by omega)
      · simp only [List.mem_singleton] at hy
        subst hy
        exact bndE_mono hx (by omega)
theorem fullB_bnd {x : El (List ByteArray)} (h : fullB x.2.1 x.2.2 = true) : bndE 1 x := by
  unfold fullB at h
  simp only [Bool.and_eq_true, decide_eq_true_eq] at h
  unfold bndE
  omega
section
variable {κ : Type} {c : κ → κ → Int}
theorem plF_eq (k : κ) : ∀ (l : List (El κ)) (i : Nat), i ≤ l.length → (∀ t (h : t < l.length), t < i → c l[t].1 k < 0) → (∀ h : i < l.length, ¬ c l[i].1 k < 0) → plF c k l = i
  | [], i, hi, _, _ => by simp at hi; simp [plF, hi]
  | y :: r, 0, _, _, h2 => by
    have := h2 (by simp)
    simp only [plF]
    rw [if_neg (by simpa using this)]
  | y :: r, i + 1, hi, h1, h2 => by
    have h0 := h1 0 (by simp) (by omega)
    simp only [plF]
    rw [if_pos (by simpa using h0), plF_eq k r i (by simpa using hi) (fun t h ht => h1 (t + 1) (by simpa using h) (by omega)) (fun h => h2 (by simpa using h))]
/-- what a search by halves keeps: below i less, from j on not less -/
theorem half_lo (h : TotCmp c) {l : List (El κ)} (hs : l.Pairwise fun y z => c y.1 z.1 < 0) {k : κ} {m : Nat} (hm : m < l.length) (hc : c l[m].1 k < 0) : ∀ t (ht : t < l.length), t < m + 1 → c l[t].1 k < 0 := by
  intro t ht htm
  by_cases e : t = m
  · subst e; exact hc
  · exact h.tr _ _ _ (List.pairwise_iff_getElem.1 hs t m ht hm (by omega)) hc
theorem half_hi (h : TotCmp c) {l : List (El κ)} (hs : l.Pairwise fun y z => c y.1 z.1 < 0) {k : κ} {m : Nat} (hm : m < l.length) (hc : ¬ c l[m].1 k < 0) : ∀ t (ht : t < l.length), m ≤ t → ¬ c l[t].1 k < 0 := by
  intro t ht htm h2
  by_cases e : m = t
  · subst e; exact hc h2
  · exact hc (h.tr _ _ _ (List.pairwise_iff_getElem.1 hs m t hm ht (by omega)) h2)
end
/-- one step of the reference: the place is looked up, a cell of zeros put there where there is none, and the numbers added -/
def rfC (o : List Ce) (i : Nat) (x : Ce) : List Ce :=
  if i < o.length ∧ cmpL (o.getD i x).keys x.keys = 0 then o.set i { o.getD i x with many := (o.getD i x).many + x.many, cents := (o.getD i x).cents + x.cents } else o.take i ++ x :: o.drop i
theorem rfC_el (o : List Ce) (x : Ce) (i : Nat) (hi : plF cmpL x.keys (o.map Ce.el) = i) : (rfC o i x).map Ce.el = insF cmpL x.el (o.map Ce.el) := by
  have hi' : plF cmpL x.el.1 (o.map Ce.el) = i := hi
  obtain ⟨h1, h2⟩ := insF_at (c := cmpL) x.el (o.map Ce.el)
  simp only [hi'] at h1 h2
  unfold rfC
  by_cases h : i < o.length ∧ cmpL (o.getD i x).keys x.keys = 0
  · rw [if_pos h]
    have hg : o.getD i x = o[i]'h.1 := by simp [h.1]
    have := h1 (by simpa using h.1) (by
      have := h.2
      rw [hg] at this
      simpa [Ce.el] using this)
    rw [this, List.map_set]
    congr 1
    simp [Ce.el, addE, h.1]
  · rw [if_neg h]
    have := h2 (fun h3 h4 => h ⟨by simpa using h3, by
      have h5 : i < o.length := by simpa using h3
      have hg : o.getD i x = o[i] := by simp [h5]
      rw [hg]
      simpa [Ce.el] using h4⟩)
    rw [this]
    simp [List.map_take, List.map_drop]
end Go.Proofs.YtdefjnefkdemiaaGreatDoor
/- cmp.Compare at strings. -/
set_option linter.unusedVariables false
namespace Go.Proofs.YtdefjnefkdemiaaGreatDoor
open Go.RowKit

theorem cmpB_if2 (a b : ByteArray) : cmpB a b = if Op.bytesLess a.toList b.toList = true then -1 else if (a.toList == b.toList) = true then 0 else 1 := by
  have h1 := lexU_val a.toList b.toList
  have h2 := cmpB_tot.eq a b
  rw [less_lex]
  simp only [decide_eq_true_eq, beq_iff_eq]
  unfold cmpB at *
  by_cases h : a.toList = b.toList
  · have h3 := h2.2 (toList_inj h)
    rw [if_neg (by omega), if_pos h, h3]
  · have h3 : ¬ lexC cmpU a.toList b.toList = 0 := fun e => h (by rw [h2.1 e])
    rw [if_neg h]
    split <;> omega
theorem isNaN_str (s : ByteArray) (w : World) : Calls Tryz.prog 110 #[.string s] w fun e w' => e = .returned (.bool false) ∧ w = w' := by
  go_enter Tryz.func110, Tryz.ntmps110
  go_wp2
  go_ret
  exact ⟨rfl, rfl⟩
theorem compare_str (x y : ByteArray) (w : World) : Calls Tryz.prog 82 #[.string x, .string y] w fun e w' => e = .returned (.int .i64 (cmpB x y)) ∧ w = w' := by
  rw [cmpB_if2]
  obtain ⟨b1, h1⟩ : ∃ b, Op.bytesLess x.toList y.toList = b := ⟨_, rfl⟩
  obtain ⟨b3, h3⟩ : ∃ b, (x.toList == y.toList) = b := ⟨_, rfl⟩
  rw [h1, h3]
  cases b1 <;> cases b3 <;> (go_enter Tryz.func82, Tryz.ntmps82; go_wp2_with (go_at_call 110; refine (isNaN_str _ _).mono ?_; rintro e w' ⟨rfl, rfl⟩); go_ret; exact ⟨rfl, rfl⟩)
theorem cmpL_step (l m : List ByteArray) (k : Nat) (h1 : k < l.length) (h2 : k < m.length) : cmpL (l.drop k) (m.drop k) = if cmpB l[k] m[k] = 0 then cmpL (l.drop (k + 1)) (m.drop (k + 1)) else cmpB l[k] m[k] := by
  rw [List.drop_eq_getElem_cons h1, List.drop_eq_getElem_cons h2]
  rfl
theorem cmpL_end (l m : List ByteArray) (k : Nat) (h1 : k ≤ l.length) (h2 : k ≤ m.length) : (l.length = k → m.length = k → cmpL (l.drop k) (m.drop k) = 0) ∧ (l.length = k → k < m.length → cmpL (l.drop k) (m.drop k) = -1) ∧ (k < l.length → m.length = k → cmpL (l.drop k) (m.drop k) = 1) := by
  refine ⟨fun a b => ?_, fun a b => ?_, fun a b => ?_⟩
  · rw [List.drop_of_length_le (by omega), List.drop_of_length_le (by omega)]; rfl
  · rw [List.drop_of_length_le (l := l) (by omega), List.drop_eq_getElem_cons b]; rfl
  · rw [List.drop_of_length_le (l := m) (by omega), List.drop_eq_getElem_cons a]; rfl

end Go.Proofs.YtdefjnefkdemiaaGreatDoor
/- slices.ContainsFunc over strings: is one of them no key (printed by gen_keyhas.py). -/
set_option linter.unusedVariables false
namespace Go.Proofs.YtdefjnefkdemiaaGreatDoor
open Go.RowKit

/-- one of the strings is no key -/
def badK (l : List ByteArray) : Bool := l.any fun s => !keyB s
theorem badK_snoc (l : List ByteArray) (k : Nat) (h : k < l.length) : badK (l.take (k + 1)) = (badK (l.take k) || !keyB l[k]) := by
  unfold badK
  rw [List.take_succ_eq_append_getElem h, List.any_append]
  simp
theorem badK_hit (l : List ByteArray) (k : Nat) (h : k < l.length) (hb : keyB l[k] = false) : badK l = true := by
  unfold badK
  rw [List.any_eq_true]
  exact ⟨l[k], List.getElem_mem h, by simp [hb]⟩
theorem badK_all (l : List ByteArray) : badK (l.take l.length) = badK l := by rw [List.take_length]

end Go.Proofs.YtdefjnefkdemiaaGreatDoor
/- measure.CheckCells, handref1.CellsFault, measure.full. -/
set_option linter.unusedVariables false
namespace Go.Proofs.YtdefjnefkdemiaaGreatDoor
open Go.RowKit

theorem quiet_lf {P : Program} {f : FuncId} {args : Array Value} {w : World} {n : Nat} {v : Value}
    (h : Calls P f args (w.drewN n) fun e w' => e = .returned v ∧ w.drewN n = w') : Calls P f args (w.drewN n) fun e w'' => e = .returned v ∧ ∃ m, w'' = w.drewN m :=
  h.mono fun _ _ ⟨he, hm⟩ => ⟨he, n, hm.symm⟩
theorem RAt.at3 {α : Type} {w : World} {a : Option Addr} {C : Nat} {f : α → List Value} {l : List α} (h : RAt w a C f l) {j : Nat} (hj : j < l.length) {v0 v1 v2 : Value} (e : f l[j] = [v0, v1, v2]) :
    ∃ p off, a = some ⟨p, off, none⟩ ∧ p < w.heap.size ∧ w.cell? ⟨p, off + j * C, none⟩ = some v0 ∧ w.cell? ⟨p, off + j * C + 1, none⟩ = some v1 ∧ w.cell? ⟨p, off + j * C + 2, none⟩ = some v2 := by
  obtain ⟨p, off, h1, h2, h3⟩ := h j hj
  rw [e] at h3
  exact ⟨p, off, h1, h2, h3 0 v0 rfl, h3 1 v1 rfl, h3 2 v2 rfl⟩
end Go.Proofs.YtdefjnefkdemiaaGreatDoor
/- measure.CheckCells and handref1.CellsFault (printed by gen_checkce.py). -/
set_option linter.unusedVariables false
namespace Go.Proofs.YtdefjnefkdemiaaGreatDoor
open Go.RowKit

theorem ceSt1 {b2 b3 b4 : Bool} : ceSt true b2 b3 b4 = 3 := rfl
theorem ceSt2 {b3 b4 : Bool} : ceSt false true b3 b4 = 5 := rfl
theorem ceSt3 {b4 : Bool} : ceSt false false true b4 = 7 := rfl
theorem ceSt4 : ceSt false false false false = 1 := rfl
theorem ceSt5 : ceSt false false false true = 0 := rfl
theorem ceStep_eq (l : List Ce) (k : Nat) (h : k < l.length) (h0 : 0 < l.length) : ceStep l k h = ceSt (!decide (l[k].keys.length = l[0].keys.length) || decide (6 < l[k].keys.length)) (badK l[k].keys) (decide (0 < k) && decide (cmpL l[k].keys (l[k - 1]'(by omega)).keys ≤ 0)) (fullB l[k].many l[k].cents) := rfl
theorem XB.at3 {w : World} {q : Nat} {v0 v1 v2 : Value} (h : XB w q [v0, v1, v2]) : w.cell? ⟨q, 0, none⟩ = some v0 ∧ w.cell? ⟨q, 1, none⟩ = some v1 ∧ w.cell? ⟨q, 2, none⟩ = some v2 :=
  ⟨h.2 0 _ rfl, h.2 1 _ rfl, h.2 2 _ rfl⟩
theorem fullB_no {many cents : Int} (h : many < 0 ∨ 1000000 < many ∨ cents < -1000000000000 ∨ 1000000000000 < cents) : fullB many cents = false := by
  unfold fullB
  rw [Bool.eq_false_iff]
  intro e
  simp only [Bool.and_eq_true, decide_eq_true_eq] at e
  omega
theorem fullB_yes {many cents : Int} (h1 : ¬ many < 0) (h2 : ¬ 1000000 < many) (h3 : ¬ cents < -1000000000000) (h4 : ¬ 1000000000000 < cents) : fullB many cents = true := by
  unfold fullB
  simp only [Bool.and_eq_true, decide_eq_true_eq]
  omega
theorem ce_pos {b1 b2 b3 b4 : Bool} {v g R : Int} (h : (if ceSt b1 b2 b3 b4 = 0 then g else ceSt b1 b2 b3 b4) = R) (e : ceSt b1 b2 b3 b4 = v) (hv : v ≠ 0) : v = R := by
  rw [e, if_neg hv] at h
  exact h
theorem ce_zero {b1 b2 b3 b4 : Bool} {g R : Int} (h : (if ceSt b1 b2 b3 b4 = 0 then g else ceSt b1 b2 b3 b4) = R) (e : ceSt b1 b2 b3 b4 = 0) : g = R := by
  rw [e, if_pos rfl] at h
  exact h
theorem ceE_go {l : List Ce} (h : l.length ≤ 1000) : ceE l = ceGo l l.length 0 := by
  unfold ceE
  rw [if_neg (by omega)]
theorem ceGo_end (l : List Ce) (k : Nat) (h : l.length ≤ k) : ceGo l (l.length - k) k = 0 := by
  rw [show l.length - k = 0 by omega]
  rfl

end Go.Proofs.YtdefjnefkdemiaaGreatDoor
/- slices.ContainsFunc over cells: does one hold numbers out of their ranges. -/
set_option linter.unusedVariables false
namespace Go.Proofs.YtdefjnefkdemiaaGreatDoor
open Go.RowKit

/-- one of the cells holds numbers out of their ranges -/
def badC (l : List Ce) : Bool := l.any fun x => !fullB x.many x.cents
theorem badC_snoc (l : List Ce) (k : Nat) (h : k < l.length) : badC (l.take (k + 1)) = (badC (l.take k) || !fullB l[k].many l[k].cents) := by
  unfold badC
  rw [List.take_succ_eq_append_getElem h, List.any_append]
  simp
theorem badC_hit (l : List Ce) (k : Nat) (h : k < l.length) (hb : fullB l[k].many l[k].cents = false) : badC l = true := by
  unfold badC
  rw [List.any_eq_true]
  exact ⟨l[k], List.getElem_mem h, by simp [hb]⟩
theorem badC_all (l : List Ce) : badC (l.take l.length) = badC l := by rw [List.take_length]
theorem badC_el (l : List Ce) : badC l = (l.map Ce.el).any fun x => !fullB x.2.1 x.2.2 := by
  unfold badC
  rw [List.any_map]
  rfl
end Go.Proofs.YtdefjnefkdemiaaGreatDoor
/- Folding cells, in plain words: what checks give, and what becomes of the keys. -/
set_option linter.unusedVariables false
namespace Go.Proofs.YtdefjnefkdemiaaGreatDoor
open Go.RowKit

theorem ceGo_ok (l : List Ce) : ∀ (f k : Nat), f = l.length - k → ceGo l f k = 0 → ∀ j (hj : j < l.length), k ≤ j → ceStep l j hj = 0
  | 0, k, hf, _, j, hj, hk => by omega
  | f + 1, k, hf, h, j, hj, hk => by
    have hkl : k < l.length := by omega
    rw [ceGo, dif_pos hkl] at h
    by_cases hs : ceStep l k hkl = 0
    · rw [if_pos hs] at h
      by_cases e : j = k
      · subst e; exact hs
      · exact ceGo_ok l f (k + 1) (by omega) h j hj (by omega)
    · rw [if_neg hs] at h
      exact absurd h hs
theorem ceSt_ok {b1 b2 b3 b4 : Bool} (h : ceSt b1 b2 b3 b4 = 0) : b1 = false ∧ b2 = false ∧ b3 = false ∧ b4 = true := by
  cases b1 <;> cases b2 <;> cases b3 <;> cases b4 <;> first | exact ⟨rfl, rfl, rfl, rfl⟩ | exact absurd h (by decide)
theorem ce_ok {l : List Ce} (hl : l.length ≤ 1000) (h : ceE l = 0) (j : Nat) (hj : j < l.length) : (l[j].keys.length : Int) = dimE l ∧ l[j].keys.length ≤ 6 ∧ fullB l[j].many l[j].cents = true := by
  rw [ceE_go hl] at h
  have h0 : 0 < l.length := by omega
  have h1 := ceGo_ok l _ 0 (by omega) h j hj (Nat.zero_le _)
  rw [ceStep_eq l j hj h0] at h1
  obtain ⟨c1, -, -, c4⟩ := ceSt_ok h1
  simp only [Bool.or_eq_false_iff, Bool.not_eq_false', decide_eq_true_eq, decide_eq_false_iff_not] at c1
  refine ⟨?_, by omega, c4⟩
  cases l with
  | nil => simp at h0
  | cons x l => simp only [dimE]; rw [c1.1]; rfl
theorem dimE_bd {l : List Ce} (hl : l.length ≤ 1000) (h : ceE l = 0) : 0 ≤ dimE l ∧ dimE l ≤ 6 := by
  cases l with
  | nil => simp [dimE]
  | cons x l =>
    have := ce_ok hl h 0 (by simp)
    simp only [List.getElem_cons_zero] at this
    simp only [dimE]
    omega
theorem kpE_step (d : Int) (keep : List Int) (k : Nat) (h : k < keep.length) : kpE d keep (keep.length - k) k = if keep.getD k 0 < 0 ∨ d ≤ keep.getD k 0 then 1 else if 0 < k ∧ keep.getD k 0 ≤ keep.getD (k - 1) 0 then 7 else kpE d keep (keep.length - (k + 1)) (k + 1) := by
  rw [show keep.length - k = (keep.length - (k + 1)) + 1 by omega, kpE]
theorem kpE_end (d : Int) (keep : List Int) (k : Nat) (h : keep.length ≤ k) : kpE d keep (keep.length - k) k = 0 := by
  rw [show keep.length - k = 0 by omega]
  rfl
theorem kp_go {d : Int} {keep : List Int} : ∀ (f k : Nat), f = keep.length - k → kpE d keep f k = 0 → ∀ j, k ≤ j → j < keep.length → 0 ≤ keep.getD j 0 ∧ keep.getD j 0 < d
  | 0, k, hf, _, j, hk, hj => by omega
  | f + 1, k, hf, h, j, hk, hj => by
    rw [kpE] at h
    split at h
    · exact absurd h (by decide)
    · rename_i h1
      split at h
      · exact absurd h (by decide)
      · by_cases e : j = k
        · subst e; omega
        · exact kp_go f (k + 1) (by omega) h j (by omega) hj
theorem kp_ok {d : Int} {keep : List Int} (h : kpE d keep keep.length 0 = 0) (j : Nat) (hj : j < keep.length) : 0 ≤ keep[j] ∧ keep[j] < d := by
  have := kp_go keep.length 0 (by omega) h j (Nat.zero_le _) hj
  rw [List.getD_eq_getElem?_getD, List.getElem?_eq_getElem hj] at this
  exact this
/-- what is wrong with a fold, step by step -/
theorem fdE_1 {l : List Ce} {keep : List Int} {E : Int} (h : ceE l = E) (h0 : E ≠ 0) : fdE l keep = E := by
  unfold fdE
  rw [h, if_pos h0]
theorem fdE_2 {l : List Ce} {keep : List Int} {K : Int} (h : ceE l = 0) (hk : kpE (dimE l) keep keep.length 0 = K) (h0 : K ≠ 0) : fdE l keep = K := by
  unfold fdE
  rw [if_neg (by omega), hk, if_pos h0]
theorem fdE_3 {l : List Ce} {keep : List Int} {b : Bool} (h : ceE l = 0) (hk : kpE (dimE l) keep keep.length 0 = 0) (hb : ((foldL (l.map Ce.el) keep).any fun x => !fullB x.2.1 x.2.2) = b) : fdE l keep = if b then 12 else 0 := by
  unfold fdE
  rw [if_neg (by omega), if_neg (by omega), hb]
/-- the keys that are kept, so far -/
def kept (keep : List Int) (ks : List ByteArray) (j : Nat) : List ByteArray := (keep.take j).map fun k => ks.getD k.toNat ⟨#[]⟩
theorem kept_zero (keep : List Int) (ks : List ByteArray) : kept keep ks 0 = [] := rfl
theorem kept_succ (keep : List Int) (ks : List ByteArray) (j : Nat) (h : j < keep.length) (h2 : keep[j].toNat < ks.length) : kept keep ks (j + 1) = kept keep ks j ++ [ks[keep[j].toNat]] := by
  unfold kept
  rw [List.take_succ_eq_append_getElem h, List.map_append]
  simp [h2]
theorem kept_len (keep : List Int) (ks : List ByteArray) (j : Nat) (h : j ≤ keep.length) : (kept keep ks j).length = j := by
  unfold kept
  rw [List.length_map, List.length_take]
  omega
theorem kept_all (keep : List Int) (x : Ce) (tv : Option Addr) (tc : Nat) : (⟨tv, tc, kept keep x.keys keep.length, x.many, x.cents⟩ : Ce).el = prE keep x.el := by
  unfold kept prE Ce.el
  rw [List.take_length]
/-- the program's fold, sorted in whatever way -/
theorem ce_fold2 {l all s : List Ce} {keep : List Int} (h : all.map Ce.el = (l.map Ce.el).map (prE keep)) (hp : s.Perm all) (hs : s.Pairwise fun x y => cmpL x.keys y.keys ≤ 0) : (s.foldl mgC []).map Ce.el = foldL (l.map Ce.el) keep := by
  rw [mgC_fold, List.map_nil, fold_same cmpL_tot (hp.map Ce.el) (by rw [List.pairwise_map]; exact hs), h]
  rfl
theorem insF_len {κ : Type} {c : κ → κ → Int} (x : El κ) : ∀ l : List (El κ), (insF c x l).length ≤ l.length + 1
  | [] => by simp [insF]
  | y :: r => by
    simp only [insF]
    have := insF_len (c := c) x r
    split
    · simp; omega
    · split <;> simp
theorem foldl_len {κ : Type} {c : κ → κ → Int} : ∀ (l o : List (El κ)), (l.foldl (fun o x => insF c x o) o).length ≤ o.length + l.length
  | [], o => by simp
  | x :: l, o => by
    have h1 := foldl_len (c := c) l (insF c x o)
    have h2 := insF_len (c := c) x o
    simp only [List.foldl_cons, List.length_cons]
    omega
theorem foldL_len (l : List (El (List ByteArray))) (keep : List Int) : (foldL l keep).length ≤ l.length := by
  have := foldl_len (c := cmpL) (l.map (prE keep)) []
  simpa [foldL] using this
theorem insF_key {κ : Type} {c : κ → κ → Int} {P : κ → Prop} (x : El κ) (hx : P x.1) : ∀ l : List (El κ), (∀ y ∈ l, P y.1) → ∀ y ∈ insF c x l, P y.1 := fun l h y hy => by
  rcases insF_mem x l y hy with e | ⟨z, hz, e⟩
  · rw [e]; exact hx
  · rw [← e]; exact h z hz
theorem foldl_key {κ : Type} {c : κ → κ → Int} {P : κ → Prop} : ∀ (l o : List (El κ)), (∀ x ∈ l, P x.1) → (∀ y ∈ o, P y.1) → ∀ y ∈ l.foldl (fun o x => insF c x o) o, P y.1
  | [], o, _, h => h
  | x :: l, o, hl, h => foldl_key l (insF c x o) (fun y hy => hl y (by simp [hy])) (insF_key x (hl x (by simp)) o h)
/-- keys as the checks allow -/
def okK (n : Nat) (ks : List ByteArray) : Prop := ks.length ≤ n ∧ ∀ s ∈ ks, s.size ≤ 100
theorem foldL_key {l : List Ce} {keep : List Int} {n : Nat} (hok : ∀ x ∈ l, x.ok) (hm : keep.length ≤ n) : ∀ y ∈ foldL (l.map Ce.el) keep, okK n y.1 := by
  unfold foldL
  refine foldl_key _ [] (fun x hx => ?_) (by simp)
  rw [List.mem_map] at hx
  obtain ⟨y, hy, rfl⟩ := hx
  rw [List.mem_map] at hy
  obtain ⟨z, hz, rfl⟩ := hy
  refine ⟨by simp [prE]; exact hm, fun s hs => ?_⟩
  simp only [prE, List.mem_map] at hs
  obtain ⟨k, -, rfl⟩ := hs
  rw [List.getD_eq_getElem?_getD]
  cases hk : z.el.1[k.toNat]? with
  | none => decide
  | some s => exact (hok z hz).2.1 s (List.mem_of_getElem? hk)
/-- cells that a fold gives are such as the checks take -/
theorem fold_ok {l o : List Ce} {keep : List Int} {n : Nat} (hn : n ≤ 20) (hok : ∀ x ∈ l, x.ok) (hm : keep.length ≤ n) (h0 : fdE l keep = 0) (ho : o.map Ce.el = foldL (l.map Ce.el) keep) : ∀ x ∈ o, x.ok := by
  have hb : ((foldL (l.map Ce.el) keep).any fun x => !fullB x.2.1 x.2.2) = false := by
    unfold fdE at h0
    rw [Bool.eq_false_iff]
    intro hb
    split at h0
    · omega
    · split at h0
      · omega
      · first | omega | (rw [if_pos hb] at h0; omega)
  intro x hx
  have hm2 : x.el ∈ foldL (l.map Ce.el) keep := by rw [← ho]; exact List.mem_map_of_mem hx
  obtain ⟨k1, k2⟩ := foldL_key hok hm x.el hm2
  rw [List.any_eq_false] at hb
  have h2 := hb x.el hm2
  have h3 : fullB x.many x.cents = true := by simpa [Ce.el] using h2
  unfold fullB at h3
  simp only [Bool.and_eq_true, decide_eq_true_eq] at h3
  have k1' : x.keys.length ≤ n := k1
  refine ⟨by omega, k2, by omega, by omega, by omega, by omega⟩
/-- what folding gives -/
def FoldOut (w : World) (l : List Ce) (keep : List Int) (e : Ending) (w' : World) : Prop :=
  ∃ a c o, e = .returned (.tuple #[.slice a (List.length o) c, .int .i64 (fdE l keep)]) ∧ RAt w' a 3 Ce.cells o ∧ TagsAt Ce.tv Ce.keys w' o ∧ Below w.heap.size w w' ∧ o.map Ce.el = (if fdE l keep = 0 then foldL (l.map Ce.el) keep else [])
theorem FoldOut.no {w w' : World} {l : List Ce} {keep : List Int} {E : Int} (h : fdE l keep = E) (h0 : E ≠ 0) (hb : Below w.heap.size w w') : FoldOut w l keep (.returned (.tuple #[.slice none 0 0, .int .i64 E])) w' :=
  ⟨none, 0, [], by rw [h]; rfl, RAt.nil _ _ _ _, by intro x hx; simp at hx, hb, by rw [if_neg (by omega)]; rfl⟩
theorem FoldOut.yes {w w' : World} {l o : List Ce} {keep : List Int} {a : Option Addr} {n c : Nat} (h : fdE l keep = 0) (hn : o.length = n) (hr : RAt w' a 3 Ce.cells o) (ht : TagsAt Ce.tv Ce.keys w' o) (hb : Below w.heap.size w w') (he : o.map Ce.el = foldL (l.map Ce.el) keep) : FoldOut w l keep (.returned (.tuple #[.slice a n c, .int .i64 0])) w' :=
  ⟨a, c, o, by rw [h, hn], hr, ht, hb, by rw [if_pos h]; exact he⟩
end Go.Proofs.YtdefjnefkdemiaaGreatDoor
/- Contracts of measure.Reduce, measure.isRight and of the references that answer to them. -/
namespace Go.Proofs.YtdefjnefkdemiaaGreatDoor
open Go.RowKit

/-- what Reduce answers: a fraction, an error -/
def redV (n d : Int) : Int × Int × Int :=
  if n < -4611686018427387904 ∨ 4611686018427387904 < n ∨ d < -4611686018427387904 ∨ 4611686018427387904 < d then (0, 0, 1)
  else if d = 0 then (0, 0, 8) else (Frac.redN n d, Frac.redD n d, 0)
def Red (n d : Int) (w : World) (e : Ending) (w' : World) : Prop :=
  e = .returned (.tuple #[.agg #[.int .i64 (redV n d).1, .int .i64 (redV n d).2.1], .int .i64 (redV n d).2.2]) ∧ Below w.heap.size w w'

end Go.Proofs.YtdefjnefkdemiaaGreatDoor
/- The contract of measure.isRight. -/
namespace Go.Proofs.YtdefjnefkdemiaaGreatDoor
open Go.RowKit

theorem quiet_left {P : Program} {f : FuncId} {args : Array Value} {w : World} {n : Nat} {v : Value}
    (h : Calls P f args (w.drewN n) fun e w' => e = .returned v ∧ w.drewN n = w') : Calls P f args (w.drewN n) fun e w'' => e = .returned v ∧ ∃ m, w'' = w.drewN m :=
  h.mono fun _ _ ⟨he, hm⟩ => ⟨he, n, hm.symm⟩

end Go.Proofs.YtdefjnefkdemiaaGreatDoor
/- Contracts of cmp.Or at ints, measure.products, measure.compare, measure.Compare. -/
set_option linter.unusedVariables false
namespace Go.Proofs.YtdefjnefkdemiaaGreatDoor
open Go.RowKit

/-- the first number that is not 0 -/
def orF : List Int → Int
  | [] => 0
  | x :: l => if x = 0 then orF l else x
theorem orF_drop (zs : List Int) (k : Nat) (hk : k < zs.length) : orF (zs.drop k) = if zs[k] = 0 then orF (zs.drop (k + 1)) else zs[k] := by
  rw [List.drop_eq_getElem_cons hk]; rfl

theorem or_any (h : Nat) (zs : List Int) (n c : Nat) (w : World) (hn : zs.length = n) (hn1 : n ≤ 1000)
    (hb : w.heap[h]? = some (.cells (zs.map (Value.int .i64)).toArray 3 (0, 0))) :
    Calls Tryz.prog 40 #[.slice (some ⟨h, 0, none⟩) n c] w fun e w' => e = .returned (.int .i64 (orF zs)) ∧ w = w' := by
  have HB := Lib.hid hb
  have HN := Lib.hid hn
  clear hb hn
  go_enter Tryz.func40, Tryz.ntmps40
  go_wp2
  go_loop [2, 5, 8] (fun r v i => r = .int .i64 0 ∧ ∃ k : Nat, k ≤ n ∧ i = .int .i64 k ∧ Hid (orF (zs.drop k) = orF zs)) (fun _ _ i => n - (intOf i).toNat)
  case atStart => exact ⟨rfl, 0, Nat.zero_le _, rfl, rfl⟩
  case round =>
    obtain ⟨rfl, k, hk, rfl, HO⟩ := hrel
    by_cases hlt : k < n
    · have hkz : k < zs.length := by have := HN.out; omega
      have hcell : w.cell? ⟨h, k, none⟩ = some (.int .i64 zs[k]) := by simp [World.cell?, HB.out, hkz]
      have HD := Lib.hid (orF_drop zs k hkz)
      generalize hz : zs[k] = z at *
      clear hz
      by_cases h0 : z = 0
      · subst h0
        go_wp2
        go_round
        case rel => exact ⟨rfl, k + 1, by omega, by go_num, by show orF (zs.drop (k + 1)) = _; rw [← HO.out, HD.out, if_pos rfl]⟩
        case measure => simp [intOf]; omega
      · have e1 : (z != 0) = true := by simp [h0]
        go_wp2
        go_ret
        exact ⟨ret_int (by rw [← HO.out, HD.out, if_neg h0]), rfl⟩
    · go_wp2
      go_ret
      refine ⟨ret_int ?_, rfl⟩
      rw [← HO.out, List.drop_of_length_le (by have := HN.out; omega)]
      rfl

theorem cmp_split (X Y : Nat) : orF [Frac.cmpI ((X / 18446744073709551616 : Nat) : Int) ((Y / 18446744073709551616 : Nat) : Int), Frac.cmpI ((X % 18446744073709551616 : Nat) : Int) ((Y % 18446744073709551616 : Nat) : Int)] = Frac.cmpI X Y := by
  simp only [orF]
  rcases Frac.cmpI_cases ((X / 18446744073709551616 : Nat) : Int) ((Y / 18446744073709551616 : Nat) : Int) with ⟨h1, k1⟩ | ⟨h1, k1⟩ | ⟨h1, k1⟩ <;>
  rcases Frac.cmpI_cases ((X % 18446744073709551616 : Nat) : Int) ((Y % 18446744073709551616 : Nat) : Int) with ⟨h2, k2⟩ | ⟨h2, k2⟩ | ⟨h2, k2⟩ <;>
  rw [k1, k2] <;> simp <;> first | (rw [Frac.cmpI_lt (by omega)]) | (rw [Frac.cmpI_gt (by omega)]) | (rw [Frac.cmpI_eq (by omega)])

theorem right_parts {n d : Int} (h : Frac.rightB n d = true) : -4611686018427387904 ≤ n ∧ n ≤ 4611686018427387904 ∧ 1 ≤ d ∧ d ≤ 4611686018427387904 := by
  unfold Frac.rightB at h
  have := of_decide_eq_true h
  omega
/-- what Compare answers -/
def cmpV (a b c d : Int) : Int × Int := if Frac.rightB a b = true ∧ Frac.rightB c d = true then (Frac.cmpF a b c d, 0) else (0, 3)
end Go.Proofs.YtdefjnefkdemiaaGreatDoor
/- Offers in the order in which they are applied: the comparisons, slices.Clone, slices.SortFunc (printed by gen_ord.py). -/

set_option linter.unusedVariables false
namespace Go.Proofs.YtdefjnefkdemiaaGreatDoor
open Go.RowKit Go.Shelf Go.Lib Go.Sort

instance : Inhabited Of := ⟨⟨⟨#[]⟩, 0, 0, 0, none, 0, [], 0, 0, ⟨#[]⟩, false, 0, 0, 0⟩⟩
def cmpOf (x y : Of) : Int := orF [Frac.cmpI x.order y.order, cmpB x.key y.key]
def srtO (l : List Of) : List Of := (Sort.insertionSort (ltOf cmpOf) l.toArray 0 l.length).toList
theorem srtO_perm (l : List Of) : (srtO l).Perm l := by
  have h := ins_pm (ltOf cmpOf) l.toArray 0 l.length (by simp)
  unfold Pm at h
  exact h
theorem srtO_len (l : List Of) : (srtO l).length = l.length := (srtO_perm l).length_eq
theorem srtO_mem (l : List Of) (x : Of) : x ∈ srtO l ↔ x ∈ l := (srtO_perm l).mem_iff
theorem compareBytes_cmpB (a b : ByteArray) : Lib.compareBytes a.data.toList b.data.toList = cmpB a b := by
  rw [← Lib.toList_data, ← Lib.toList_data]
  unfold cmpB
  generalize a.toList = x
  generalize b.toList = y
  induction x generalizing y with
  | nil => cases y <;> simp [Lib.compareBytes, lexC]
  | cons c x ih =>
    cases y with
    | nil => simp [Lib.compareBytes, lexC]
    | cons e y =>
      simp only [Lib.compareBytes, lexC, ih]
      unfold cmpU
      by_cases h1 : c < e
      · simp [h1]
      · by_cases h2 : e < c
        · have h3 : ¬ c = e := by intro e3; subst e3; exact h1 h2
          simp [h1, h2, h3]
        · have h3 : c = e := UInt8.le_antisymm (UInt8.not_lt.1 h2) (UInt8.not_lt.1 h1)
          subst h3
          simp [h1]
theorem strCompare (a b : ByteArray) (w : World) : Calls Tryz.prog 42 #[.string a, .string b] w fun e w' => e = .returned (.int .i64 (cmpB a b)) ∧ w = w' := by
  rw [← compareBytes_cmpB]
  refine (Tryz.strings_Compare a b w).mono ?_
  rintro e w' ⟨rfl, rfl⟩
  exact ⟨rfl, rfl⟩

set_option maxRecDepth 100000 in
set_option maxHeartbeats 4000000 in
theorem cmpOX_any (x y : Of) (w : World) :
    Calls Tryz.prog 81 #[.agg x.cells.toArray, .agg y.cells.toArray] w fun e w' => e = .returned (.int .i64 (cmpOf x y)) ∧ ∃ q os, w' = grow (w.drewN q) os := by
  obtain ⟨k0, kd, ia, ib, tv, tc, tags, le, mo, gr, al, od, fr, t2⟩ := x
  obtain ⟨k1, kd1, ia1, ib1, tv1, tc1, tags1, le1, mo1, gr1, al1, od1, fr1, t21⟩ := y
  rw [show (Of.cells ⟨k0, kd, ia, ib, tv, tc, tags, le, mo, gr, al, od, fr, t2⟩).toArray = #[.string k0, .int .i64 kd, .int .i64 ia, .int .i64 ib, .slice tv tags.length tc, .int .i64 le, .int .i64 mo, .string gr, .bool al, .int .i64 od, .int .i64 fr, .int .i64 t2] from rfl]
  rw [show (Of.cells ⟨k1, kd1, ia1, ib1, tv1, tc1, tags1, le1, mo1, gr1, al1, od1, fr1, t21⟩).toArray = #[.string k1, .int .i64 kd1, .int .i64 ia1, .int .i64 ib1, .slice tv1 tags1.length tc1, .int .i64 le1, .int .i64 mo1, .string gr1, .bool al1, .int .i64 od1, .int .i64 fr1, .int .i64 t21] from rfl]
  rw [show cmpOf ⟨k0, kd, ia, ib, tv, tc, tags, le, mo, gr, al, od, fr, t2⟩ ⟨k1, kd1, ia1, ib1, tv1, tc1, tags1, le1, mo1, gr1, al1, od1, fr1, t21⟩ = orF [Frac.cmpI od od1, cmpB k0 k1] from rfl]
  have HOR := Lib.hid (fun (w' : World) => or_any w'.heap.size [Frac.cmpI od od1, cmpB k0 k1] 2 2 (w'.alloc (.cells #[.int .i64 (Frac.cmpI od od1), .int .i64 (cmpB k0 k1)] 3)) rfl (by omega) (heap_alloc_new w' _))
  obtain ⟨w2, hw2⟩ : ∃ w2, (w.alloc (.cells #[.string k0, .int .i64 kd, .int .i64 ia, .int .i64 ib, .slice tv tags.length tc, .int .i64 le, .int .i64 mo, .string gr, .bool al, .int .i64 od, .int .i64 fr, .int .i64 t2] 37)).alloc (.cells #[.string k1, .int .i64 kd1, .int .i64 ia1, .int .i64 ib1, .slice tv1 tags1.length tc1, .int .i64 le1, .int .i64 mo1, .string gr1, .bool al1, .int .i64 od1, .int .i64 fr1, .int .i64 t21] 37) = w2 := ⟨_, rfl⟩
  have HG := Lib.hid (show ∃ q os, w2 = grow (w.drewN q) os from ⟨0, #[_, _], by rw [← hw2, World.drewN_zero, alloc_eq_grow, alloc_eq_grow, grow_grow]; rfl⟩)
  have X := Lib.hid ((XB.new w [.string k0, .int .i64 kd, .int .i64 ia, .int .i64 ib, .slice tv tags.length tc, .int .i64 le, .int .i64 mo, .string gr, .bool al, .int .i64 od, .int .i64 fr, .int .i64 t2] 37).alloc (.cells #[.string k1, .int .i64 kd1, .int .i64 ia1, .int .i64 ib1, .slice tv1 tags1.length tc1, .int .i64 le1, .int .i64 mo1, .string gr1, .bool al1, .int .i64 od1, .int .i64 fr1, .int .i64 t21] 37))
  have Y := Lib.hid (XB.new (w.alloc (.cells #[.string k0, .int .i64 kd, .int .i64 ia, .int .i64 ib, .slice tv tags.length tc, .int .i64 le, .int .i64 mo, .string gr, .bool al, .int .i64 od, .int .i64 fr, .int .i64 t2] 37)) [.string k1, .int .i64 kd1, .int .i64 ia1, .int .i64 ib1, .slice tv1 tags1.length tc1, .int .i64 le1, .int .i64 mo1, .string gr1, .bool al1, .int .i64 od1, .int .i64 fr1, .int .i64 t21] 37)
  simp only [List.toArray] at X Y
  rw [show (w.alloc (.cells #[.string k0, .int .i64 kd, .int .i64 ia, .int .i64 ib, .slice tv tags.length tc, .int .i64 le, .int .i64 mo, .string gr, .bool al, .int .i64 od, .int .i64 fr, .int .i64 t2] 37)).heap.size = w.heap.size + 1 by simp] at Y
  rw [hw2] at X Y
  obtain ⟨x0, -, -, -, -, -, -, -, -, x9, -, -⟩ := X.out.at12
  obtain ⟨y0, -, -, -, -, -, -, -, -, y9, -, -⟩ := Y.out.at12
  clear X Y
  generalize orF [Frac.cmpI od od1, cmpB k0 k1] = R at *
  go_enter Tryz.func81, Tryz.ntmps81
  go_upto_region 1 with (fail)
  clear hw2
  refine wp_region_still_tail 10 (by kernel_rfl) (by kernel_rfl) ?_
  simp only [List.take_succ_cons, List.take_zero, List.drop_succ_cons, List.drop_zero]
  iterate 4 still_step
  still_call ((compare_int _ _ _).mono fun e w' h => ⟨h.1, h.2.symm⟩)
  iterate 4 still_step
  still_call ((compare_str _ _ _).mono fun e w' h => ⟨h.1, h.2.symm⟩)
  refine wpStill_nil ?_
  change wpList _ _ _ _ _ w2.drew
  have HG3 := Lib.hid (show ∃ q os, w2.drew.alloc (.cells #[.int .i64 (Frac.cmpI od od1), .int .i64 (cmpB k0 k1)] 3) = grow (w.drewN q) os by
    obtain ⟨q, os, e⟩ := HG.out
    refine ⟨q + 1, os ++ #[.cells #[.int .i64 (Frac.cmpI od od1), .int .i64 (cmpB k0 k1)] 3], ?_⟩
    rw [e, alloc_eq_grow]
    show grow (grow ((w.drewN q).drewN 1) os) _ = _
    rw [grow_grow, World.drewN_drewN])
  clear HG
  generalize w2.drew = w3 at *
  go_wp2_with fail
  with_reducible refine (HOR.out w3).mono ?_
  rintro e w' ⟨rfl, rfl⟩
  go_wp2_with fail
  go_ret
  exact ⟨rfl, HG3.out⟩

set_option maxRecDepth 100000 in
set_option maxHeartbeats 4000000 in
theorem cmpOR_any (x y : Of) (w : World) :
    Calls Tryz.prog 39 #[.agg x.cells.toArray, .agg y.cells.toArray] w fun e w' => e = .returned (.int .i64 (cmpOf x y)) ∧ ∃ q os, w' = grow (w.drewN q) os := by
  obtain ⟨k0, kd, ia, ib, tv, tc, tags, le, mo, gr, al, od, fr, t2⟩ := x
  obtain ⟨k1, kd1, ia1, ib1, tv1, tc1, tags1, le1, mo1, gr1, al1, od1, fr1, t21⟩ := y
  rw [show (Of.cells ⟨k0, kd, ia, ib, tv, tc, tags, le, mo, gr, al, od, fr, t2⟩).toArray = #[.string k0, .int .i64 kd, .int .i64 ia, .int .i64 ib, .slice tv tags.length tc, .int .i64 le, .int .i64 mo, .string gr, .bool al, .int .i64 od, .int .i64 fr, .int .i64 t2] from rfl]
  rw [show (Of.cells ⟨k1, kd1, ia1, ib1, tv1, tc1, tags1, le1, mo1, gr1, al1, od1, fr1, t21⟩).toArray = #[.string k1, .int .i64 kd1, .int .i64 ia1, .int .i64 ib1, .slice tv1 tags1.length tc1, .int .i64 le1, .int .i64 mo1, .string gr1, .bool al1, .int .i64 od1, .int .i64 fr1, .int .i64 t21] from rfl]
  rw [show cmpOf ⟨k0, kd, ia, ib, tv, tc, tags, le, mo, gr, al, od, fr, t2⟩ ⟨k1, kd1, ia1, ib1, tv1, tc1, tags1, le1, mo1, gr1, al1, od1, fr1, t21⟩ = orF [Frac.cmpI od od1, cmpB k0 k1] from rfl]
  have HOR := Lib.hid (fun (w' : World) => or_any w'.heap.size [Frac.cmpI od od1, cmpB k0 k1] 2 2 (w'.alloc (.cells #[.int .i64 (Frac.cmpI od od1), .int .i64 (cmpB k0 k1)] 3)) rfl (by omega) (heap_alloc_new w' _))
  obtain ⟨w2, hw2⟩ : ∃ w2, (w.alloc (.cells #[.string k0, .int .i64 kd, .int .i64 ia, .int .i64 ib, .slice tv tags.length tc, .int .i64 le, .int .i64 mo, .string gr, .bool al, .int .i64 od, .int .i64 fr, .int .i64 t2] 37)).alloc (.cells #[.string k1, .int .i64 kd1, .int .i64 ia1, .int .i64 ib1, .slice tv1 tags1.length tc1, .int .i64 le1, .int .i64 mo1, .string gr1, .bool al1, .int .i64 od1, .int .i64 fr1, .int .i64 t21] 37) = w2 := ⟨_, rfl⟩
  have HG := Lib.hid (show ∃ q os, w2 = grow (w.drewN q) os from ⟨0, #[_, _], by rw [← hw2, World.drewN_zero, alloc_eq_grow, alloc_eq_grow, grow_grow]; rfl⟩)
  have X := Lib.hid ((XB.new w [.string k0, .int .i64 kd, .int .i64 ia, .int .i64 ib, .slice tv tags.length tc, .int .i64 le, .int .i64 mo, .string gr, .bool al, .int .i64 od, .int .i64 fr, .int .i64 t2] 37).alloc (.cells #[.string k1, .int .i64 kd1, .int .i64 ia1, .int .i64 ib1, .slice tv1 tags1.length tc1, .int .i64 le1, .int .i64 mo1, .string gr1, .bool al1, .int .i64 od1, .int .i64 fr1, .int .i64 t21] 37))
  have Y := Lib.hid (XB.new (w.alloc (.cells #[.string k0, .int .i64 kd, .int .i64 ia, .int .i64 ib, .slice tv tags.length tc, .int .i64 le, .int .i64 mo, .string gr, .bool al, .int .i64 od, .int .i64 fr, .int .i64 t2] 37)) [.string k1, .int .i64 kd1, .int .i64 ia1, .int .i64 ib1, .slice tv1 tags1.length tc1, .int .i64 le1, .int .i64 mo1, .string gr1, .bool al1, .int .i64 od1, .int .i64 fr1, .int .i64 t21] 37)
  simp only [List.toArray] at X Y
  rw [show (w.alloc (.cells #[.string k0, .int .i64 kd, .int .i64 ia, .int .i64 ib, .slice tv tags.length tc, .int .i64 le, .int .i64 mo, .string gr, .bool al, .int .i64 od, .int .i64 fr, .int .i64 t2] 37)).heap.size = w.heap.size + 1 by simp] at Y
  rw [hw2] at X Y
  obtain ⟨x0, -, -, -, -, -, -, -, -, x9, -, -⟩ := X.out.at12
  obtain ⟨y0, -, -, -, -, -, -, -, -, y9, -, -⟩ := Y.out.at12
  clear X Y
  generalize orF [Frac.cmpI od od1, cmpB k0 k1] = R at *
  go_enter Tryz.func39, Tryz.ntmps39
  go_upto_region 1 with (fail)
  clear hw2
  refine wp_region_still_tail 10 (by kernel_rfl) (by kernel_rfl) ?_
  simp only [List.take_succ_cons, List.take_zero, List.drop_succ_cons, List.drop_zero]
  iterate 4 still_step
  still_call ((compare_int _ _ _).mono fun e w' h => ⟨h.1, h.2.symm⟩)
  iterate 4 still_step
  still_call ((strCompare _ _ _).mono fun e w' h => ⟨h.1, h.2.symm⟩)
  refine wpStill_nil ?_
  change wpList _ _ _ _ _ w2.drew
  have HG3 := Lib.hid (show ∃ q os, w2.drew.alloc (.cells #[.int .i64 (Frac.cmpI od od1), .int .i64 (cmpB k0 k1)] 3) = grow (w.drewN q) os by
    obtain ⟨q, os, e⟩ := HG.out
    refine ⟨q + 1, os ++ #[.cells #[.int .i64 (Frac.cmpI od od1), .int .i64 (cmpB k0 k1)] 3], ?_⟩
    rw [e, alloc_eq_grow]
    show grow (grow ((w.drewN q).drewN 1) os) _ = _
    rw [grow_grow, World.drewN_drewN])
  clear HG
  generalize w2.drew = w3 at *
  go_wp2_with fail
  with_reducible refine (HOR.out w3).mono ?_
  rintro e w' ⟨rfl, rfl⟩
  go_wp2_with fail
  go_ret
  exact ⟨rfl, HG3.out⟩
end Go.Proofs.YtdefjnefkdemiaaGreatDoor
/- slices.Clone and slices.SortFunc at offers; offer.ordered (printed by gen_ord.py). -/
set_option linter.unusedVariables false
namespace Go.Proofs.YtdefjnefkdemiaaGreatDoor
open Go.RowKit Go.Shelf Go.Lib Go.Sort

theorem RAt.flatO {α : Type} {w : World} {ad : Addr} {C : Nat} {f : α → List Value} {l : List α} (h : RAt w (some ad) C f l) (hf : ∀ x ∈ l, (f x).length = C) (hC : 0 < C) :
    ∀ j u, (l.flatMap f)[j]? = some u → w.cell? (ad.add j) = some u := by
  intro j u hu
  have hlen := fm_length C f l hf
  have hj : j < l.length * C := by
    have := (List.getElem?_eq_some_iff.1 hu).1
    omega
  have hjC : j / C < l.length := Nat.div_lt_of_lt_mul (by rw [Nat.mul_comm]; exact hj)
  have hm := Nat.mod_lt j hC
  have he : j / C * C + j % C = j := by rw [Nat.mul_comm]; exact Nat.div_add_mod j C
  have hg := fm_get C f l hf (j / C) (j % C) hjC hm
  rw [he, hu] at hg
  obtain ⟨p, off, ha, -, hc⟩ := h (j / C) hjC
  injection ha with ha
  subst ha
  have := hc (j % C) u hg.symm
  rw [Nat.add_assoc, he] at this
  unfold Addr.add
  split
  · rename_i h0
    subst h0
    exact this
  · exact this
theorem infoOf2 : (Tryz.prog.info? 37).map (fun i => (i.zero, i.size, i.bytes)) = some (some (.agg #[.string ⟨#[]⟩, .int .i64 0, .int .i64 0, .int .i64 0, .slice none 0 0, .int .i64 0, .int .i64 0, .string ⟨#[]⟩, .bool false, .int .i64 0, .int .i64 0, .int .i64 0]), 12, 128) := by kernel_rfl
theorem of_one (l : List Of) : ∀ u ∈ l.flatMap Of.cells, u.oneCell' = true := by
  intro u hu
  obtain ⟨x, -, hx⟩ := List.mem_flatMap.1 hu
  simp only [Of.cells, List.mem_cons, List.mem_nil_iff, or_false] at hx
  rcases hx with rfl | rfl | rfl | rfl | rfl | rfl | rfl | rfl | rfl | rfl | rfl | rfl <;> rfl

set_option maxHeartbeats 2000000 in
theorem cloneOf_any (a : Option Addr) (l : List Of) (n c : Nat) (w : World) (hn : l.length = n) (hn1 : n ≤ 1000) (hI : RAt w a 12 Of.cells l) :
    Calls Tryz.prog 37 #[.slice a n c] w fun e w' => ∃ v', e = .returned v' ∧ w'.ownsRow w.heap.size 37 12 v' n (l.flatMap Of.cells) ∧ Below w.heap.size w w' := by
  obtain ⟨i0, hi, hz0, hz1, hz2⟩ := info_parts infoOf2
  have heq := fun w a n c => Lib.run_eql_slice_nil (P := Tryz.prog) w 26 37 a n c 0 0 Tryz.underlying26
  cases a with
  | none =>
    have hl : l = [] := by
      cases l with
      | nil => rfl
      | cons x l =>
        obtain ⟨p, off, h, -⟩ := hI 0 (by simp)
        cases h
    subst hl
    obtain rfl : n = 0 := hn.symm
    go_enter Tryz.func37, Tryz.ntmps37
    go_wp2
    go_ret
    exact ⟨_, rfl, World.ownsRow_nil _ _ _ _, Below.refl _ _⟩
  | some ad =>
    have hfl := Lib.hid (RAt.flatO (hI.alloc (.cells #[] 37)) (fun x _ => x.len) (by omega))
    have hlen := Lib.hid (fm_length 12 Of.cells l (fun x _ => x.len))
    rw [hn] at hlen
    have hone := Lib.hid (of_one l)
    have hown := World.ownsRow_made (base := w.heap.size) (e := 37) (size := 12) w #[] 0 (Nat.le_refl _) (by unfold maxLen; omega) rfl
    have HB := Lib.hid ((Below.refl w.heap.size w).alloc (Nat.le_refl _) (.cells #[] 37))
    clear hn hI
    go_enter Tryz.func37, Tryz.ntmps37
    go_wp2_with (at_builtin; refine wpList_append_own _ rfl _ _ 26 rfl w.heap.size 37 i0 _ 12 128 Tryz.underlying26 hi hz0 hz1 hz2 rfl (by decide) _ _ _ rfl hown ad n c (l.flatMap Of.cells) rfl hlen.out hfl.out hone.out ?c3 ?c4 ?c5 ?_)
    case c3 => unfold maxLen; omega
    case c4 => omega
    case c5 => simp
    intro v2 w6 own6 hgrow6 hne6
    have HOW : Hid (w6.ownsRow w.heap.size 37 12 v2 n (l.flatMap Of.cells)) := Lib.hid own6
    have HB6 := Lib.hid (HB.out.grown hgrow6 (by simp) (fun k hk => (hown.lt k hk).1))
    clear own6 hgrow6 hne6 hown
    go_wp2_with fail
    go_ret
    exact ⟨v2, rfl, HOW.out, HB6.out⟩
def ofRen : Go.Shelf.Ren := ⟨fun | 20 => 88 | n => n, fun | 22 => 26 | 24 => 37 | 25 => 74 | n => n, fun | n => n⟩
theorem lays_of : Go.Proofs.SlLaysF0.n20 Tryz.prog ofRen := {
  mixed := by kernel_rfl
  f20 := ⟨"slices.insertionSortCmpFunc[handbill/api.Offer]", by decide, Tryz.func88.trans (congrArg some (by kernel_rfl))⟩
  t0 := Tryz.underlying0
  a0 := Tryz.isAgg0
  z0 := Tryz.sizeOf0
  v0 := Tryz.zeroValue0
  t3 := Tryz.underlying3
  a3 := Tryz.isAgg3
  z3 := Tryz.sizeOf3
  v3 := Tryz.zeroValue3
  t4 := Tryz.underlying4
  a4 := Tryz.isAgg4
  z4 := Tryz.sizeOf4
  v4 := Tryz.zeroValue4
  t22 := Tryz.underlying26
  a22 := Tryz.isAgg26
  z22 := Tryz.sizeOf26
  v22 := Tryz.zeroValue26
  t25 := Tryz.underlying74
  a25 := Tryz.isAgg74
  z25 := Tryz.sizeOf74
  v25 := Tryz.zeroValue74 }
/-- what a sort of offers leaves -/
def SrtOfOut (b0 : Nat) (w : World) (v : Value) (l : List Of) (e : Ending) (w' : World) : Prop := e = .returned (.tuple #[]) ∧ w'.ownsRow b0 37 12 v l.length ((srtO l).flatMap Of.cells) ∧ w.grownBy w' v.ownBlock
theorem insOf_nil (w : World) (c : FuncId) : Calls Tryz.prog 88 #[.slice none 0 0, .int .i64 0, .int .i64 0, .func (.func c) #[] #[]] w fun e w' => e = .returned (.tuple #[]) ∧ w = w' := by
  go_enter Tryz.func88, Tryz.ntmps88
  go_wp2_with fail
  refine wp_loop_rounds 1 ?_
  rw [rounds_succ]
  go_wp2
  go_end0
  exact ⟨rfl, rfl⟩

theorem insOX_some (w : World) (g n cap : Nat) (d : Array Of) (hH : HoldsK Of.cells 12 w g 0 d) (hg : g < w.heap.size) (hn : d.size = n) (hn1 : n < 1000) :
    Calls Tryz.prog 88 #[.slice (some ⟨g, 0, none⟩) n cap, .int .i64 0, .int .i64 n, .func (.func 81) #[] #[]] w fun e w' =>
      e = .returned (.tuple #[]) ∧ ∃ m os, w' = sortWorldK Of.cells 12 w g 0 m (Sort.insertionSort (ltOf cmpOf) d 0 n) os := by
  subst hn
  have := AnyQ.insertionSortCmpFunc lays_of 12 (fun w => by kernel_rfl) (fun w => by kernel_rfl) Of.cells (fun x => rfl) (fun x v hv => by
      simp only [Of.cells, List.mem_cons, List.mem_nil_iff, or_false] at hv
      rcases hv with rfl | rfl | rfl | rfl | rfl | rfl | rfl | rfl | rfl | rfl | rfl | rfl <;> rfl) cmpOf 81 #[] g 0 cap 0 d.size d w (enters_of Tryz.func81 (by kernel_rfl) rfl) (by
      intro m os dk hdk x y
      refine (cmpOX_any x y _).mono ?_
      rintro e w' ⟨rfl, q, os2, rfl⟩
      exact ⟨rfl, q, os2, rfl⟩) hH hg (Nat.zero_le _) (Nat.le_refl _) (by omega)
  exact this
theorem insOX_any (b0 : Nat) (w : World) (a : Option Addr) (n c : Nat) (l : List Of) (own : w.ownsRow b0 37 12 (.slice a n c) n (l.flatMap Of.cells)) (hn : l.length = n) (hn1 : n < 1000) :
    Calls Tryz.prog 88 #[.slice a n c, .int .i64 0, .int .i64 n, .func (.func 81) #[] #[]] w (SrtOfOut b0 w (.slice a n c) l) := by
  subst hn
  rcases own.2 with ⟨e, h0⟩ | ⟨g, cap, cur, e, hb, hg, hnc, hcm, hs, ht⟩
  · injection e with e1 e2 e3
    subst e1 e3
    obtain rfl := List.eq_nil_of_length_eq_zero h0
    refine (insOf_nil w _).mono ?_
    rintro e w' ⟨rfl, rfl⟩
    exact ⟨rfl, (by rw [show srtO [] = [] from List.eq_nil_of_length_eq_zero (srtO_len [])]; exact own), ⟨rfl, rfl, rfl, Nat.le_refl _, fun _ _ _ => rfl⟩⟩
  · injection e with e1 e2 e3
    subst e1 e3
    have hH := rowK_holds Of.cells 12 w g l.toArray (n := l.length) (t := 37) (b0 := b0) (cap := c) (by simpa using own) (fun _ => rfl) (by omega) (by simp)
    have hlt := (Array.getElem?_eq_some_iff.1 hg).1
    refine (insOX_some w g l.length c l.toArray hH hlt (by simp) hn1).mono ?_
    rintro e w' ⟨rfl, m, os, rfl⟩
    have hrow := sortK_row Of.cells 12 w g m (Sort.insertionSort (ltOf cmpOf) l.toArray 0 l.length) os own (fun _ => rfl) (by omega) (by
      have := srtO_len l
      unfold srtO at this
      simpa using this)
    exact ⟨rfl, hrow, sortK_grown Of.cells 12 w g m (Sort.insertionSort (ltOf cmpOf) l.toArray 0 l.length) os⟩
set_option maxRecDepth 100000 in
theorem sortOX_any (b0 : Nat) (w : World) (a : Option Addr) (n c : Nat) (l : List Of) (own : w.ownsRow b0 37 12 (.slice a n c) n (l.flatMap Of.cells)) (hn : l.length = n) (hn1 : n ≤ 12) :
    Calls Tryz.prog 38 #[.slice a n c, .func (.func 81) #[] #[]] w (SrtOfOut b0 w (.slice a n c) l) := by
  have C := Lib.hid (insOX_any b0 w a n c l own hn (by omega))
  have C2 := Lib.hid (Tryz.bits_Len n w (by omega) (by omega))
  clear own hn
  have CS : ∀ z : Int, Calls Tryz.prog 63 #[.slice a n c, .int .i64 0, .int .i64 n, .int .i64 z, .func (.func 81) #[] #[]] w (SrtOfOut b0 w (.slice a n c) l) := by
    intro z
    go_enter Tryz.func63, Tryz.ntmps63
    go_wp2_with fail
    refine wp_loop_rounds 1 ?_
    rw [rounds_succ]
    go_wp2_with fail
    with_reducible refine C.out.mono ?_
    rintro e w' hS
    have HS := Lib.hid hS
    obtain ⟨rfl, -⟩ := hS
    go_wp2
    refine bodyPost_ret (results_none rfl _ _ _) rfl ?_
    exact HS.out
  have CS' := Lib.hid CS
  clear CS C
  go_enter Tryz.func38, Tryz.ntmps38
  go_wp2_with fail
  with_reducible refine C2.out.mono ?_
  rintro e w' ⟨rfl, hw⟩
  rw [hw]
  clear hw w'
  go_wp2_with fail
  with_reducible refine (CS'.out _).mono ?_
  rintro e w' hS
  have HS := Lib.hid hS
  obtain ⟨rfl, -⟩ := hS
  go_wp2
  go_end0
  exact HS.out

theorem insOR_some (w : World) (g n cap : Nat) (d : Array Of) (hH : HoldsK Of.cells 12 w g 0 d) (hg : g < w.heap.size) (hn : d.size = n) (hn1 : n < 1000) :
    Calls Tryz.prog 88 #[.slice (some ⟨g, 0, none⟩) n cap, .int .i64 0, .int .i64 n, .func (.func 39) #[] #[]] w fun e w' =>
      e = .returned (.tuple #[]) ∧ ∃ m os, w' = sortWorldK Of.cells 12 w g 0 m (Sort.insertionSort (ltOf cmpOf) d 0 n) os := by
  subst hn
  have := AnyQ.insertionSortCmpFunc lays_of 12 (fun w => by kernel_rfl) (fun w => by kernel_rfl) Of.cells (fun x => rfl) (fun x v hv => by
      simp only [Of.cells, List.mem_cons, List.mem_nil_iff, or_false] at hv
      rcases hv with rfl | rfl | rfl | rfl | rfl | rfl | rfl | rfl | rfl | rfl | rfl | rfl <;> rfl) cmpOf 39 #[] g 0 cap 0 d.size d w (enters_of Tryz.func39 (by kernel_rfl) rfl) (by
      intro m os dk hdk x y
      refine (cmpOR_any x y _).mono ?_
      rintro e w' ⟨rfl, q, os2, rfl⟩
      exact ⟨rfl, q, os2, rfl⟩) hH hg (Nat.zero_le _) (Nat.le_refl _) (by omega)
  exact this
theorem insOR_any (b0 : Nat) (w : World) (a : Option Addr) (n c : Nat) (l : List Of) (own : w.ownsRow b0 37 12 (.slice a n c) n (l.flatMap Of.cells)) (hn : l.length = n) (hn1 : n < 1000) :
    Calls Tryz.prog 88 #[.slice a n c, .int .i64 0, .int .i64 n, .func (.func 39) #[] #[]] w (SrtOfOut b0 w (.slice a n c) l) := by
  subst hn
  rcases own.2 with ⟨e, h0⟩ | ⟨g, cap, cur, e, hb, hg, hnc, hcm, hs, ht⟩
  · injection e with e1 e2 e3
    subst e1 e3
    obtain rfl := List.eq_nil_of_length_eq_zero h0
    refine (insOf_nil w _).mono ?_
    rintro e w' ⟨rfl, rfl⟩
    exact ⟨rfl, (by rw [show srtO [] = [] from List.eq_nil_of_length_eq_zero (srtO_len [])]; exact own), ⟨rfl, rfl, rfl, Nat.le_refl _, fun _ _ _ => rfl⟩⟩
  · injection e with e1 e2 e3
    subst e1 e3
    have hH := rowK_holds Of.cells 12 w g l.toArray (n := l.length) (t := 37) (b0 := b0) (cap := c) (by simpa using own) (fun _ => rfl) (by omega) (by simp)
    have hlt := (Array.getElem?_eq_some_iff.1 hg).1
    refine (insOR_some w g l.length c l.toArray hH hlt (by simp) hn1).mono ?_
    rintro e w' ⟨rfl, m, os, rfl⟩
    have hrow := sortK_row Of.cells 12 w g m (Sort.insertionSort (ltOf cmpOf) l.toArray 0 l.length) os own (fun _ => rfl) (by omega) (by
      have := srtO_len l
      unfold srtO at this
      simpa using this)
    exact ⟨rfl, hrow, sortK_grown Of.cells 12 w g m (Sort.insertionSort (ltOf cmpOf) l.toArray 0 l.length) os⟩
set_option maxRecDepth 100000 in
theorem sortOR_any (b0 : Nat) (w : World) (a : Option Addr) (n c : Nat) (l : List Of) (own : w.ownsRow b0 37 12 (.slice a n c) n (l.flatMap Of.cells)) (hn : l.length = n) (hn1 : n ≤ 12) :
    Calls Tryz.prog 38 #[.slice a n c, .func (.func 39) #[] #[]] w (SrtOfOut b0 w (.slice a n c) l) := by
  have C := Lib.hid (insOR_any b0 w a n c l own hn (by omega))
  have C2 := Lib.hid (Tryz.bits_Len n w (by omega) (by omega))
  clear own hn
  have CS : ∀ z : Int, Calls Tryz.prog 63 #[.slice a n c, .int .i64 0, .int .i64 n, .int .i64 z, .func (.func 39) #[] #[]] w (SrtOfOut b0 w (.slice a n c) l) := by
    intro z
    go_enter Tryz.func63, Tryz.ntmps63
    go_wp2_with fail
    refine wp_loop_rounds 1 ?_
    rw [rounds_succ]
    go_wp2_with fail
    with_reducible refine C.out.mono ?_
    rintro e w' hS
    have HS := Lib.hid hS
    obtain ⟨rfl, -⟩ := hS
    go_wp2
    refine bodyPost_ret (results_none rfl _ _ _) rfl ?_
    exact HS.out
  have CS' := Lib.hid CS
  clear CS C
  go_enter Tryz.func38, Tryz.ntmps38
  go_wp2_with fail
  with_reducible refine C2.out.mono ?_
  rintro e w' ⟨rfl, hw⟩
  rw [hw]
  clear hw w'
  go_wp2_with fail
  with_reducible refine (CS'.out _).mono ?_
  rintro e w' hS
  have HS := Lib.hid hS
  obtain ⟨rfl, -⟩ := hS
  go_wp2
  go_end0
  exact HS.out

set_option maxHeartbeats 2000000 in
theorem ordered_any (a : Option Addr) (l : List Of) (n c : Nat) (w : World) (hn : l.length = n) (hn1 : n ≤ 12) (hI : RAt w a 12 Of.cells l) :
    Calls Tryz.prog 56 #[.slice a n c] w fun e w' => ∃ a' c', e = .returned (.slice a' n c') ∧ w'.ownsRow w.heap.size 37 12 (.slice a' n c') n ((srtO l).flatMap Of.cells) ∧ Below w.heap.size w w' := by
  have C := Lib.hid (cloneOf_any a l n c w hn (by omega) hI)
  have HN := Lib.hid hn
  clear hI hn
  go_enter Tryz.func56, Tryz.ntmps56
  go_wp2_with fail
  with_reducible refine C.out.mono ?_
  rintro e w1 ⟨v, rfl, own, hb⟩
  obtain ⟨a1, c1, rfl⟩ : ∃ a1 c1, v = .slice a1 n c1 := by
    rcases own.2 with ⟨e, h0⟩ | ⟨g, cap, cur, e, _⟩
    · exact ⟨none, 0, by rw [e, h0]⟩
    · exact ⟨_, _, e⟩
  have C1 := Lib.hid (sortOX_any _ w1 a1 n c1 l own HN.out hn1)
  have HB := Lib.hid hb
  have HO := Lib.hid own
  clear hb own C
  go_wp2_with fail
  with_reducible refine C1.out.mono ?_
  rintro e w2 ⟨rfl, own2, gr2⟩
  rw [HN.out] at own2
  have HR := Lib.hid own2
  have HB2 := Lib.hid (HB.out.grown gr2 HB.out.size (fun q hq => (HO.out.lt q hq).1))
  clear own2 gr2 C1
  go_wp2_with fail
  go_ret
  exact ⟨_, _, rfl, HR.out, HB2.out⟩
end Go.Proofs.YtdefjnefkdemiaaGreatDoor
/- cmp.Or at errors. -/
set_option linter.unusedVariables false
namespace Go.Proofs.YtdefjnefkdemiaaGreatDoor
open Go.RowKit

/-- the first of some numbers that is not 0 -/
def orE : List Int → Int
  | [] => 0
  | z :: l => if z = 0 then orE l else z
theorem orE_drop (zs : List Int) (k : Nat) (h : k < zs.length) : orE (zs.drop k) = if zs[k] = 0 then orE (zs.drop (k + 1)) else zs[k] := by
  rw [List.drop_eq_getElem_cons h]; rfl
theorem orErr_any (h : Nat) (zs : List Int) (n c : Nat) (t : TypeId) (w : World) (hn : zs.length = n) (hn1 : n ≤ 1000)
    (hb : w.heap[h]? = some (.cells (zs.map (Value.int .i64)).toArray t (0, 0))) :
    Calls Tryz.prog 33 #[.slice (some ⟨h, 0, none⟩) n c] w fun e w' => e = .returned (.int .i64 (orE zs)) ∧ w = w' := by
  have HB := Lib.hid hb
  have HN := Lib.hid hn
  clear hb hn
  go_enter Tryz.func33, Tryz.ntmps33
  go_wp2
  go_loop [2, 5, 8] (fun r v i => r = .int .i64 0 ∧ ∃ k : Nat, k ≤ n ∧ i = .int .i64 k ∧ Hid (orE (zs.drop k) = orE zs)) (fun _ _ i => n - (intOf i).toNat)
  case atStart => exact ⟨rfl, 0, Nat.zero_le _, rfl, rfl⟩
  case round =>
    obtain ⟨rfl, k, hk, rfl, HO⟩ := hrel
    by_cases hlt : k < n
    · have hkz : k < zs.length := by have := HN.out; omega
      have hcell : w.cell? ⟨h, k, none⟩ = some (.int .i64 zs[k]) := by simp [World.cell?, HB.out, hkz]
      have HD := Lib.hid (orE_drop zs k hkz)
      generalize hz : zs[k] = z at *
      clear hz
      by_cases h0 : z = 0
      · subst h0
        go_wp2
        go_round
        case rel => exact ⟨rfl, k + 1, by omega, by go_num, by show orE (zs.drop (k + 1)) = _; rw [← HO.out, HD.out, if_pos rfl]⟩
        case measure => simp [intOf]; omega
      · have e1 : (z != 0) = true := by simp [h0]
        go_wp2
        go_ret
        exact ⟨ret_int (by rw [← HO.out, HD.out, if_neg h0]), rfl⟩
    · go_wp2
      go_ret
      refine ⟨ret_int ?_, rfl⟩
      rw [← HO.out, List.drop_of_length_le (by have := HN.out; omega)]
      rfl
end Go.Proofs.YtdefjnefkdemiaaGreatDoor
/- What Share answers, in plain words. -/
set_option linter.unusedVariables false
namespace Go.Proofs.YtdefjnefkdemiaaGreatDoor.Deal

def okZ (M z : Int) : Bool := decide (0 ≤ z ∧ z ≤ M)
def okL (M : Int) (zs : List Int) : Bool := zs.all (okZ M)
def zeroL (zs : List Int) : Bool := zs.all fun z => z == 0
def shE (cents : Int) (zs : List Int) : Int :=
  if cents < 0 ∨ 1000000000000 < cents then 1 else if 50 < zs.length then 2 else if okL 1000000000000 zs = false then 1 else if zeroL zs = true then 8 else 0
def shL (cents : Int) (zs : List Int) : List Int := if shE cents zs = 0 then dealL false cents.toNat (zs.map Int.toNat) else []

theorem okL_mem {M : Int} {zs : List Int} (h : okL M zs = true) {z : Int} (hz : z ∈ zs) : 0 ≤ z ∧ z ≤ M := by
  simp [okL, okZ] at h
  exact h z hz
theorem okL_take (M : Int) (zs : List Int) (k : Nat) (hk : k < zs.length) (h : okL M (zs.take k) = true) : okL M (zs.take (k + 1)) = okZ M zs[k] := by
  unfold okL at *
  rw [List.take_succ_eq_append_getElem hk, List.all_append, h]
  simp
theorem okL_not (M : Int) (zs : List Int) (k : Nat) (hk : k < zs.length) (h : okZ M zs[k] = false) : okL M zs = false := by
  rw [← Bool.not_eq_true]
  intro h2
  have := okL_mem h2 (List.getElem_mem hk)
  simp [okZ] at h
  omega
theorem zeroL_take (zs : List Int) (k : Nat) (hk : k < zs.length) : zeroL (zs.take (k + 1)) = (zeroL (zs.take k) && (zs[k] == 0)) := by
  unfold zeroL
  rw [List.take_succ_eq_append_getElem hk, List.all_append]
  simp
theorem ws_cast {M : Int} {zs : List Int} (h : okL M zs = true) : (zs.map Int.toNat).map (fun (x : Nat) => (x : Int)) = zs := by
  rw [List.map_map]
  refine Eq.trans (List.map_congr_left (g := id) fun z hz => ?_) (List.map_id zs)
  have := okL_mem h hz
  simp
  omega
theorem ws_le {M : Nat} {zs : List Int} (h : okL M zs = true) : ∀ x ∈ zs.map Int.toNat, x ≤ M := by
  intro x hx
  obtain ⟨z, hz, rfl⟩ := List.mem_map.1 hx
  have := okL_mem h hz
  omega
theorem ws_sum_le (M : Nat) (l : List Nat) (h : ∀ x ∈ l, x ≤ M) : l.sum ≤ l.length * M := by
  induction l with
  | nil => simp
  | cons x l ih =>
    have h1 := h x (by simp)
    have h2 := ih (fun y hy => h y (by simp [hy]))
    simp only [List.sum_cons, List.length_cons, Nat.add_mul]
    omega
theorem ws_pos {M : Int} {zs : List Int} (h : okL M zs = true) (hz : zeroL zs = false) : 0 < (zs.map Int.toNat).sum := by
  induction zs with
  | nil => simp [zeroL] at hz
  | cons z l ih =>
    simp only [List.map_cons, List.sum_cons]
    have h1 := okL_mem h (z := z) (by simp)
    by_cases e : z = 0
    · have h2 : okL M l = true := by simp [okL] at h ⊢; exact h.2
      have h3 : zeroL l = false := by
        subst e
        simpa [zeroL] using hz
      have := ih h2 h3
      omega
    · omega
theorem zeroL_nil {zs : List Int} (h : zeroL zs = false) : 0 < zs.length := by
  cases zs with
  | nil => simp [zeroL] at h
  | cons z l => simp
theorem zero_sum {M : Int} {zs : List Int} (h : okL M zs = true) (hz : zeroL zs = true) : (zs.map Int.toNat).sum = 0 := by
  induction zs with
  | nil => rfl
  | cons z l ih =>
    simp [zeroL] at hz
    have h2 : okL M l = true := by simp [okL] at h ⊢; exact h.2
    have h3 : zeroL l = true := by simp [zeroL]; exact hz.2
    simp only [List.map_cons, List.sum_cons, ih h2 h3, hz.1]
    rfl
end Go.Proofs.YtdefjnefkdemiaaGreatDoor.Deal
/- The contract of the reference ShareOf. -/
set_option linter.unusedVariables false
namespace Go.Proofs.YtdefjnefkdemiaaGreatDoor
open Go.RowKit Deal

/-- a slice value that reads as numbers -/
def SliceIs (w : World) (v : Value) (l : List Int) : Prop := ∃ a c, v = .slice a l.length c ∧ IntsAt w a l
theorem SliceIs.nil (w : World) : SliceIs w (.slice none 0 0) [] := ⟨none, 0, rfl, IntsAt.nil _ _⟩
theorem SliceIs.below {w w' : World} {v : Value} {l : List Int} (h : SliceIs w v l) (hb : Below w.heap.size w w') : SliceIs w' v l := by
  obtain ⟨a, c, h1, h2⟩ := h
  exact ⟨a, c, h1, h2.below hb⟩
/-- what both of them leave -/
def ShareOut (w : World) (cents : Int) (zs : List Int) (e : Ending) (w' : World) : Prop :=
  ∃ v, e = .returned (.tuple #[v, .int .i64 (shE cents zs)]) ∧ SliceIs w' v (shL cents zs) ∧ Below w.heap.size w w'
theorem shareOut_nil {w : World} {cents : Int} {zs : List Int} {k : Int} (h : shE cents zs = k) (hk : k ≠ 0) : ShareOut w cents zs (.returned (.tuple #[.slice none 0 0, .int .i64 k])) w := by
  refine ⟨_, by rw [h], ?_, Below.refl _ _⟩
  unfold shL
  rw [if_neg (by rw [h]; exact hk)]
  exact SliceIs.nil w

theorem shareOut_ok {w w' : World} {cents : Int} {zs : List Int} {g n c : Nat} (h : shE cents zs = 0) (hl : (shL cents zs).length = n) (hI : IntsAt w' (some ⟨g, 0, none⟩) (shL cents zs)) (hb : Below w.heap.size w w') :
    ShareOut w cents zs (.returned (.tuple #[.slice (some ⟨g, 0, none⟩) n c, .int .i64 0])) w' :=
  ⟨_, by rw [h], ⟨some ⟨g, 0, none⟩, c, by rw [hl], hI⟩, hb⟩

end Go.Proofs.YtdefjnefkdemiaaGreatDoor
/- slices.Equal on slices of ints that read alike. -/
set_option linter.unusedVariables false
namespace Go.Proofs.YtdefjnefkdemiaaGreatDoor
open Go.RowKit

theorem equal_same (w : World) (v v' : Value) (l : List Int) (h : SliceIs w v l) (h' : SliceIs w v' l) (hl : l.length ≤ 9223372036854775807) :
    Calls Tryz.prog 20 #[v, v'] w fun e w' => e = .returned (.bool true) ∧ ∃ q, w' = w.drewN q := by
  obtain ⟨a, c, rfl, hI⟩ := h
  obtain ⟨b, d, rfl, hJ⟩ := h'
  cases l with
  | nil =>
    refine (Tryz.slices_Equal_int_empty a b c 0 d w (by decide)).mono ?_
    rintro e w' ⟨rfl, rfl⟩
    exact ⟨rfl, 0, rfl⟩
  | cons z l =>
    obtain ⟨p1, o1, rfl, -, -⟩ := hI 0 (by simp)
    obtain ⟨p2, o2, rfl, -, -⟩ := hJ 0 (by simp)
    refine (Tryz.slices_Equal_int p1 o1 (z :: l).length c p2 o2 (z :: l).length d (z :: l) (z :: l) w (Nat.le_refl _) (Nat.le_refl _) hl hl (fun j hj => ?_) (fun j hj => ?_)).mono ?_
    · obtain ⟨p, off, h1, h2, h3⟩ := hI j hj
      injection h1 with h1
      injection h1 with e1 e2
      subst e1 e2
      rw [h3, List.getD_eq_getElem?_getD, List.getElem?_eq_getElem hj]
      rfl
    · obtain ⟨p, off, h1, h2, h3⟩ := hJ j hj
      injection h1 with h1
      injection h1 with e1 e2
      subst e1 e2
      rw [h3, List.getD_eq_getElem?_getD, List.getElem?_eq_getElem hj]
      rfl
    · rintro e w' ⟨rfl, hw⟩
      exact ⟨by simp, hw⟩
end Go.Proofs.YtdefjnefkdemiaaGreatDoor
