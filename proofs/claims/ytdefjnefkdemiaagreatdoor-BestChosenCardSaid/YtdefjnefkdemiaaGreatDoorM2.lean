/- Plain: Go's stable sort leaves the same elements. -/
import Derived.Test.YtdefjnefkdemiaaGreatDoorStPlain
import Derived.Test.YtdefjnefkdemiaaGreatDoorPcW
import Derived.Test.YtdefjnefkdemiaaGreatDoorDeal2
import Derived.Test.YtdefjnefkdemiaaGreatDoorM1
import Derived.Test.YtdefjnefkdemiaaGreatDoorShare
import Derived.Deep.DeepCutAuto
import Derived.StillTailTactics
import Derived.Test.YtdefjnefkdemiaaGreatDoorRecs
import Derived.Laws.CopyRow
import Derived.Laws.CopyOwn
import Derived.Shelf.Spec.SlicesInsert
import Derived.Test.YtdefjnefkdemiaaGreatDoorShelf
import Derived.Deep.RegionLaw
import Derived.Test.YtdefjnefkdemiaaGreatDoorRowG
import Derived.Test.YtdefjnefkdemiaaGreatDoorSycO
import Derived.Deep.CutBlock
import Derived.Test.YtdefjnefkdemiaaGreatDoorSycR
set_option linter.unusedVariables false
namespace Go.Proofs.YtdefjnefkdemiaaGreatDoor
open Go.Sort

section
variable {α : Type}
def Pm (d d' : Array α) : Prop := d'.toList.Perm d.toList
theorem Pm.refl (d : Array α) : Pm d d := List.Perm.refl _
theorem Pm.trans {d d' d'' : Array α} (h : Pm d d') (k : Pm d' d'') : Pm d d'' := List.Perm.trans k h
theorem Pm.size {d d' : Array α} (h : Pm d d') : d'.size = d.size := by have := h.length_eq; simpa using this
variable [Inhabited α]
theorem swp_pm (d : Array α) (i j : Nat) (hi : i < d.size) (hj : j < d.size) : Pm d (swp d i j) := by
  unfold Pm swp
  rw [Array.toList_setIfInBounds, Array.toList_setIfInBounds, getElem!_pos d i hi, getElem!_pos d j hj]
  exact perm_set_set d.toList i j (by simpa using hi) (by simpa using hj)
theorem swR_pm (a b : Nat) : ∀ (k : Nat) (d : Array α), a + k ≤ d.size → b + k ≤ d.size → Pm d (swR a b k d)
  | 0, d, _, _ => Pm.refl d
  | k + 1, d, h1, h2 => by
    have h := swR_pm a b k d (by omega) (by omega)
    rw [swR]
    exact h.trans (swp_pm _ _ _ (by rw [h.size]; omega) (by rw [h.size]; omega))
theorem rotF_pm : ∀ (f : Nat) (d : Array α) (m i j : Nat), i ≤ m → m + j ≤ d.size → Pm d (rotF f d m i j)
  | 0, d, _, _, _, _, _ => Pm.refl d
  | f + 1, d, m, i, j, h1, h2 => by
    rw [rotF]
    split
    · rename_i e
      subst e
      exact swR_pm _ _ _ _ (by omega) (by omega)
    · split
      · have h := swR_pm (m - i) m j d (by omega) (by omega)
        exact h.trans (rotF_pm f _ m (i - j) j (by omega) (by rw [h.size]; omega))
      · have h := swR_pm (m - i) (m + j - i) i d (by omega) (by omega)
        exact h.trans (rotF_pm f _ m i (j - i) h1 (by rw [h.size]; omega))
theorem mvU_pm (a : Nat) : ∀ (k : Nat) (d : Array α), a + k < d.size → Pm d (mvU a k d)
  | 0, d, _ => Pm.refl d
  | k + 1, d, h1 => by
    have h := mvU_pm a k d (by omega)
    rw [mvU]
    exact h.trans (swp_pm _ _ _ (by rw [h.size]; omega) (by rw [h.size]; omega))
theorem mvD_pm (m : Nat) : ∀ (k : Nat) (d : Array α), m < d.size → Pm d (mvD m k d)
  | 0, d, _ => Pm.refl d
  | k + 1, d, h1 => by
    have h := mvD_pm m k d h1
    rw [mvD]
    exact h.trans (swp_pm _ _ _ (by rw [h.size]; omega) (by rw [h.size]; omega))
variable (lt : α → α → Bool)
theorem symF_pm : ∀ (f : Nat) (d : Array α) (a m b : Nat), a < m → m < b → b ≤ d.size → Pm d (symF lt f d a m b)
  | 0, d, _, _, _, _, _, _ => Pm.refl d
  | f + 1, d, a, m, b, h1, h2, h3 => by
    rw [symF]
    split
    · have := bsF_in (fun h => lt d[h]! d[a]!) (b - m) m b (by omega)
      exact mvU_pm _ _ _ (by omega)
    · split
      · exact mvD_pm _ _ _ (by omega)
      · simp only
        obtain ⟨b0, b1, b2, b3⟩ := symS_lo lt d a m b h1 h2
        generalize symS lt d a m b = s at *
        generalize (a + b) / 2 + m - s = e at *
        obtain ⟨d1, hd1⟩ : ∃ d1, (if s < m ∧ m < e then rotF (e - s) d m (m - s) (e - m) else d) = d1 := ⟨_, rfl⟩
        have p1 : Pm d d1 := by
          rw [← hd1]
          split
          · exact rotF_pm _ _ _ _ _ (by omega) (by omega)
          · exact Pm.refl d
        rw [hd1]
        obtain ⟨d2, hd2⟩ : ∃ d2, (if a < s ∧ s < (a + b) / 2 then symF lt f d1 a s ((a + b) / 2) else d1) = d2 := ⟨_, rfl⟩
        have p2 : Pm d1 d2 := by
          rw [← hd2]
          split
          · rename_i hc
            exact symF_pm f _ _ _ _ hc.1 hc.2 (by rw [p1.size]; omega)
          · exact Pm.refl d1
        rw [hd2]
        refine p1.trans (p2.trans ?_)
        split
        · rename_i hc
          exact symF_pm f _ _ _ _ hc.1 hc.2 (by rw [p2.size, p1.size]; omega)
        · exact Pm.refl d2
theorem insInner_pm (a : Nat) : ∀ (j : Nat) (d : Array α), j < d.size ∨ j ≤ a → Pm d (insInner lt a j d)
  | 0, d, _ => by rw [insInner]; exact Pm.refl d
  | j + 1, d, h => by
    by_cases hja : a < j + 1
    · have hj : j + 1 < d.size := by omega
      rw [insInner]
      split
      · have h := swp_pm d (j + 1) j hj (by omega)
        exact h.trans (insInner_pm a j _ (.inl (by rw [h.size]; omega)))
      · exact Pm.refl d
    · rw [insInner]
      split
      · rename_i hc
        simp at hc
        omega
      · exact Pm.refl d
theorem insOuter_pm (a b : Nat) : ∀ (n i : Nat) (d : Array α), b - i ≤ n → b ≤ d.size → Pm d (insOuter lt a b i d)
  | 0, i, d, h, _ => by rw [insOuter_stop lt a b i d (by omega)]; exact Pm.refl d
  | n + 1, i, d, h, hb => by
    by_cases hlt : i < b
    · rw [insOuter_go lt a b i d hlt]
      have p := insInner_pm lt a i d (.inl (by omega))
      exact p.trans (insOuter_pm a b n (i + 1) _ (by omega) (by rw [p.size]; omega))
    · rw [insOuter_stop lt a b i d hlt]; exact Pm.refl d
theorem ins_pm (d : Array α) (a b : Nat) (hb : b ≤ d.size) : Pm d (insertionSort lt d a b) := insOuter_pm lt a b _ _ _ (Nat.le_refl _) hb
theorem stI_pm : ∀ (f : Nat) (d : Array α) (a n : Nat), n ≤ d.size → Pm d (stI lt f d a n)
  | 0, d, _, _, _ => Pm.refl d
  | f + 1, d, a, n, h => by
    rw [stI]
    split
    · have p := ins_pm lt d a (a + 20) (by omega)
      exact p.trans (stI_pm f _ _ _ (by rw [p.size]; omega))
    · exact ins_pm lt d a n h
theorem stP_pm (s : Nat) (hs : 0 < s) : ∀ (f : Nat) (d : Array α) (a n : Nat), n ≤ d.size → Pm d (stP lt f s d a n)
  | 0, d, _, _, _ => Pm.refl d
  | f + 1, d, a, n, h => by
    rw [stP]
    split
    · have p := symF_pm lt (2 * s) d a (a + s) (a + 2 * s) (by omega) (by omega) (by omega)
      exact p.trans (stP_pm s hs f _ _ _ (by rw [p.size]; omega))
    · split
      · exact symF_pm lt _ _ _ _ _ (by omega) (by omega) h
      · exact Pm.refl d
theorem stM_pm : ∀ (f s : Nat) (d : Array α) (n : Nat), 0 < s → n ≤ d.size → Pm d (stM lt f s d n)
  | 0, _, d, _, _, _ => Pm.refl d
  | f + 1, s, d, n, hs, h => by
    rw [stM]
    split
    · have p := stP_pm lt s hs (n + 1) d 0 n h
      exact p.trans (stM_pm f _ _ _ (by omega) (by rw [p.size]; omega))
    · exact Pm.refl d
theorem stable_pm (d : Array α) : Pm d (stable lt d) := by
  unfold stable
  have p := stI_pm lt (d.size + 1) d 0 d.size (Nat.le_refl _)
  exact p.trans (stM_pm lt _ _ _ _ (by omega) (by rw [p.size]; exact Nat.le_refl _))
end
end Go.Proofs.YtdefjnefkdemiaaGreatDoor
/- Plain: what an offer takes from a basket. -/
set_option linter.unusedVariables false
namespace Go.Proofs.YtdefjnefkdemiaaGreatDoor
open Go.Sort Deal

theorem getD_lt {α : Type} (l : List α) (z : α) {j : Nat} (h : j < l.length) : l.getD j z = l[j] := by simp [List.getD_eq_getElem?_getD, h]
theorem getD_ge {α : Type} (l : List α) (z : α) {j : Nat} (h : l.length ≤ j) : l.getD j z = z := by simp [List.getD_eq_getElem?_getD, h]

/-- dealing, in natural numbers -/
def dealN (c : Nat) (ws : List Nat) : List Nat := (List.range ws.length).map fun j => qN c ws j + if gotN false c ws (leftN c ws) j then 1 else 0
theorem dealN_length (c : Nat) (ws : List Nat) : (dealN c ws).length = ws.length := by simp [dealN]
theorem dealL_N (c : Nat) (ws : List Nat) : dealL false c ws = (dealN c ws).map fun (x : Nat) => (x : Int) := by
  unfold dealL dealN
  rw [List.map_map]
  rfl
theorem pos_of_first {n : Nat} (rs : Fin n → Nat) (S : Nat) : ∀ (L : List (Fin n)) (k : Nat), L.Pairwise (fun a b => rs b ≤ rs a) → (∀ i ∈ L, rs i < S) → k * S ≤ (L.map rs).sum → ∀ i ∈ L.take k, 0 < rs i
  | _, 0, _, _, _, i, hi => by simp at hi
  | [], k + 1, _, _, _, i, hi => by simp at hi
  | x :: L, k + 1, hp, hS, hk, i, hi => by
    rw [List.pairwise_cons] at hp
    rw [List.map_cons, List.sum_cons, Nat.add_mul] at hk
    have hx := hS x (by simp)
    rw [List.take_succ_cons, List.mem_cons] at hi
    rcases hi with rfl | hi
    · rcases Nat.eq_zero_or_pos (rs i) with h0 | h0
      · have hz : (L.map rs).sum = 0 := by
          have : ∀ (M : List (Fin n)), (∀ j ∈ M, rs j = 0) → (M.map rs).sum = 0 := by
            intro M
            induction M with
            | nil => intro _; rfl
            | cons y M ih => intro h; rw [List.map_cons, List.sum_cons, h y (by simp), ih fun j hj => h j (by simp [hj])]
          exact this L fun j hj => by have := hp.1 j hj; omega
        omega
      · exact h0
    · exact pos_of_first rs S L k hp.2 (fun j hj => hS j (by simp [hj])) (by omega) i hi
theorem rests_sum (c : Nat) (ws : List Nat) (hS : 0 < ws.sum) : ((order false (rF c ws)).map (rF c ws)).sum = leftN c ws * ws.sum := by
  have h1 : ((order false (rF c ws)).map (rF c ws)).sum = ((List.finRange ws.length).map (rF c ws)).sum := ((order_perm false (rF c ws)).map _).sum_nat
  have h2 : (List.finRange ws.length).map (rF c ws) = ws.map fun x => c * x % ws.sum := by
    apply List.ext_getElem
    · simp
    · intro i h3 h4
      simp at h4
      simp [rF, rN, h4]
  have h3 := sum_parts c ws.sum ws
  have h4 : (ws.map fun x => c * x / ws.sum).sum = qSum c ws ws.length := by unfold qSum; rw [List.take_length]
  have h5 := qSum_le c ws hS
  rw [sum_mul, h4] at h3
  rw [h1, h2]
  unfold leftN
  rw [Nat.sub_mul]
  omega
theorem got_pos (c : Nat) (ws : List Nat) (hS : 0 < ws.sum) (j : Nat) (hj : j < ws.length) (hg : gotN false c ws (leftN c ws) j = true) : 0 < rN c ws j := by
  unfold gotN at hg
  rw [dif_pos hj] at hg
  unfold got at hg
  have hm := of_decide_eq_true hg
  refine pos_of_first (rF c ws) ws.sum (order false (rF c ws)) (leftN c ws) ?_ (fun i _ => rN_lt c ws i.val hS) (by rw [rests_sum c ws hS]; exact Nat.le_refl _) ⟨j, hj⟩ hm
  refine (order_sorted false (rF c ws)).imp ?_
  intro a b h
  have := prec_not.1 h
  omega
theorem dealN_get (c : Nat) (ws : List Nat) (j : Nat) (hj : j < ws.length) : (dealN c ws).getD j 0 = qN c ws j + if gotN false c ws (leftN c ws) j then 1 else 0 := by
  unfold dealN
  rw [List.getD_eq_getElem?_getD, List.getElem?_map, List.getElem?_range hj]
  rfl
theorem dealN_le (c : Nat) (ws : List Nat) (hS : 0 < ws.sum) (hc : c ≤ ws.sum) (j : Nat) : (dealN c ws).getD j 0 ≤ ws.getD j 0 := by
  by_cases hj : j < ws.length
  · rw [dealN_get c ws j hj]
    have hm : c * ws.getD j 0 ≤ ws.sum * ws.getD j 0 := Nat.mul_le_mul_right _ hc
    have hd : ws.sum * qN c ws j + rN c ws j = c * ws.getD j 0 := Nat.div_add_mod _ _
    have hq : qN c ws j ≤ ws.getD j 0 := by
      unfold qN
      exact Nat.div_le_of_le_mul hm
    split
    · rename_i hg
      have h0 := got_pos c ws hS j hj hg
      rcases Nat.lt_or_ge (qN c ws j) (ws.getD j 0) with h | h
      · exact h
      · have : ws.sum * ws.getD j 0 ≤ ws.sum * qN c ws j := Nat.mul_le_mul_left _ h
        omega
    · exact hq
  · rw [getD_ge _ _ (by rw [dealN_length]; omega)]
    exact Nat.zero_le _

/-- the cents of the pieces of item j -/
def tot : List Pc → Nat → Nat
  | [], _ => 0
  | p :: l, j => (if p.1 = (j : Int) then p.2.toNat else 0) + tot l j
theorem tot_app (l m : List Pc) (j : Nat) : tot (l ++ m) j = tot l j + tot m j := by
  induction l with
  | nil => simp [tot]
  | cons x l ih => simp only [List.cons_append, tot, ih]; omega
theorem tot_perm {l m : List Pc} (h : l.Perm m) (j : Nat) : tot l j = tot m j := by
  induction h with
  | nil => rfl
  | cons x _ ih => simp only [tot, ih]
  | swap x y l => simp only [tot]; omega
  | trans _ _ h1 h2 => rw [h1, h2]
theorem tot_take (l : List Pc) (k j : Nat) (hk : k < l.length) : tot (l.take (k + 1)) j = tot (l.take k) j + if l[k].1 = (j : Int) then l[k].2.toNat else 0 := by
  rw [List.take_succ_eq_append_getElem hk, tot_app]
  simp [tot]
theorem tot_le (l : List Pc) (k j : Nat) : tot (l.take k) j ≤ tot l j := by
  have h := tot_app (l.take k) (l.drop k) j
  rw [List.take_append_drop] at h
  omega
theorem tot_rep (n : Nat) (p : Pc) (j : Nat) : tot (List.replicate n p) j = if p.1 = (j : Int) then n * p.2.toNat else 0 := by
  induction n with
  | zero => simp [tot]
  | succ n ih =>
    rw [List.replicate_succ, tot, ih]
    split
    · rw [Nat.add_mul]; omega
    · rfl
/-- a piece is free -/
def selB (A B len k : Nat) : Bool := decide (A ≤ k % (A + B)) && decide ((k / (A + B) + 1) * (A + B) ≤ len)
/-- what item j loses by the first k pieces -/
def frS (s : Array Pc) (A B : Nat) : Nat → Nat → Nat
  | 0, _ => 0
  | k + 1, j => frS s A B k j + if selB A B s.size k = true ∧ s[k]!.1 = (j : Int) then s[k]!.2.toNat else 0
theorem frS_le (s : Array Pc) (A B j : Nat) : ∀ k, k ≤ s.size → frS s A B k j ≤ tot (s.toList.take k) j
  | 0, _ => by simp [frS, tot]
  | k + 1, h => by
    have ih := frS_le s A B j k (by omega)
    have hk : k < s.toList.length := by simp; omega
    rw [frS, tot_take _ _ _ hk, getElem!_pos s k h]
    simp only [Array.getElem_toList]
    split
    · rename_i hc
      rw [if_pos hc.2]; omega
    · omega
/-- the pieces of item i -/
def blkP (x : Of) (li : List It) (left : List Nat) (i : Nat) : List Pc :=
  match li[i]? with
  | none => []
  | some y => if mtB x y = true then List.replicate y.many.toNat ((i : Int), ((left.getD i 0 / y.many.toNat : Nat) : Int)) else []
def pcsK (x : Of) (li : List It) (left : List Nat) (k : Nat) : List Pc := (List.range k).flatMap (blkP x li left)
theorem pcsK_succ (x : Of) (li : List It) (left : List Nat) (k : Nat) : pcsK x li left (k + 1) = pcsK x li left k ++ blkP x li left k := by
  unfold pcsK
  rw [List.range_succ, List.flatMap_append]
  simp
theorem tot_blk (x : Of) (li : List It) (left : List Nat) (i j : Nat) : tot (blkP x li left i) j ≤ if i = j then left.getD j 0 else 0 := by
  unfold blkP
  split
  · exact Nat.zero_le _
  · split
    · rw [tot_rep]
      by_cases e : i = j
      · subst e
        rw [if_pos rfl, if_pos rfl]
        simp only [Int.toNat_natCast]
        exact Nat.mul_div_le _ _
      · rw [if_neg (by simp only; omega)]; exact Nat.zero_le _
    · exact Nat.zero_le _
theorem tot_pcs (x : Of) (li : List It) (left : List Nat) (j : Nat) : ∀ k, tot (pcsK x li left k) j ≤ if j < k then left.getD j 0 else 0
  | 0 => by simp [pcsK, tot]
  | k + 1 => by
    have ih := tot_pcs x li left j k
    have hb := tot_blk x li left k j
    rw [pcsK_succ, tot_app]
    by_cases h1 : j < k
    · rw [if_pos h1] at ih
      rw [if_neg (by omega)] at hb
      rw [if_pos (by omega)]
      omega
    · rw [if_neg h1] at ih
      by_cases h2 : k = j
      · rw [if_pos h2] at hb
        rw [if_pos (by omega)]
        omega
      · rw [if_neg h2] at hb
        rw [if_neg (by omega)]
        omega
theorem blk_len (x : Of) (li : List It) (left : List Nat) (i : Nat) (h : ∀ y ∈ li, itB y = true) : (blkP x li left i).length ≤ 100 := by
  unfold blkP
  split
  · simp
  · rename_i y hy
    have := itB_bd (h y (List.mem_of_getElem? hy))
    split
    · simp; omega
    · simp
theorem pcs_len (x : Of) (li : List It) (left : List Nat) (h : ∀ y ∈ li, itB y = true) : ∀ k, (pcsK x li left k).length ≤ 100 * k
  | 0 => by simp [pcsK]
  | k + 1 => by
    have h1 := pcs_len x li left h k
    have h2 := blk_len x li left k h
    rw [pcsK_succ, List.length_append]
    omega
/-- item and cents of a piece are in bounds -/
def pcB (n : Nat) (p : Pc) : Prop := 0 ≤ p.1 ∧ p.1 < n ∧ 0 ≤ p.2 ∧ p.2 ≤ 1000000000
theorem blk_in (x : Of) (li : List It) (left : List Nat) (i : Nat) (hl : ∀ z ∈ left, z ≤ 1000000000) : ∀ p ∈ blkP x li left i, pcB li.length p := by
  unfold blkP
  split
  · simp
  · rename_i y hy
    split
    · intro p hp
      obtain rfl := (List.mem_replicate.1 hp).2
      have hi := (List.getElem?_eq_some_iff.1 hy).1
      have hz : left.getD i 0 ≤ 1000000000 := by
        by_cases h : i < left.length
        · rw [getD_lt _ _ h]; exact hl _ (List.getElem_mem h)
        · rw [getD_ge _ _ (by omega)]; omega
      have hd := Nat.div_le_self (left.getD i 0) y.many.toNat
      unfold pcB
      generalize left.getD i 0 / y.many.toNat = q at *
      simp only
      omega
    · simp
theorem pcs_in (x : Of) (li : List It) (left : List Nat) (hl : ∀ z ∈ left, z ≤ 1000000000) (k : Nat) : ∀ p ∈ pcsK x li left k, pcB li.length p := by
  intro p hp
  obtain ⟨i, _, h⟩ := List.mem_flatMap.1 hp
  exact blk_in x li left i hl p h
/-- the pieces, sorted -/
def srtP (x : Of) (li : List It) (left : List Nat) : Array Pc := stable ltP (pcsK x li left li.length).toArray
theorem srtP_pm (x : Of) (li : List It) (left : List Nat) : (srtP x li left).toList.Perm (pcsK x li left li.length) := stable_pm ltP (pcsK x li left li.length).toArray
theorem srtP_size (x : Of) (li : List It) (left : List Nat) : (srtP x li left).size = (pcsK x li left li.length).length := by
  have := (srtP_pm x li left).length_eq
  simpa using this
theorem srtP_in (x : Of) (li : List It) (left : List Nat) (hl : ∀ z ∈ left, z ≤ 1000000000) (k : Nat) (hk : k < (srtP x li left).size) : pcB li.length (srtP x li left)[k]! := by
  rw [getElem!_pos _ k hk]
  exact pcs_in x li left hl li.length _ ((srtP_pm x li left).mem_iff.1 (by simp))
/-- what each line loses by free pieces -/
def freeN (x : Of) (li : List It) (left : List Nat) : List Nat := (List.range left.length).map fun j => frS (srtP x li left) x.a.toNat x.b.toNat (srtP x li left).size j
theorem frS_left (x : Of) (li : List It) (left : List Nat) (k j : Nat) (hk : k ≤ (srtP x li left).size) : frS (srtP x li left) x.a.toNat x.b.toNat k j ≤ left.getD j 0 := by
  refine Nat.le_trans (frS_le _ _ _ _ _ hk) (Nat.le_trans (tot_le _ _ _) ?_)
  rw [tot_perm (srtP_pm x li left)]
  refine Nat.le_trans (tot_pcs x li left j _) ?_
  split
  · exact Nat.le_refl _
  · exact Nat.zero_le _
/-- one list is nowhere above the other -/
def LeL (l m : List Nat) : Prop := l.length = m.length ∧ ∀ j, l.getD j 0 ≤ m.getD j 0
theorem LeL.refl (l : List Nat) : LeL l l := ⟨rfl, fun _ => Nat.le_refl _⟩
theorem LeL.trans {l m r : List Nat} (h : LeL l m) (k : LeL m r) : LeL l r := ⟨h.1.trans k.1, fun j => Nat.le_trans (h.2 j) (k.2 j)⟩
theorem getD_map_range (n : Nat) (f : Nat → Nat) (j : Nat) : ((List.range n).map f).getD j 0 = if j < n then f j else 0 := by
  by_cases h : j < n
  · rw [if_pos h, List.getD_eq_getElem?_getD, List.getElem?_map, List.getElem?_range h]; rfl
  · rw [if_neg h, getD_ge _ _ (by simp; omega)]
theorem LeL.range {m : List Nat} {n : Nat} (f : Nat → Nat) (hn : n = m.length) (h : ∀ j, j < n → f j ≤ m.getD j 0) : LeL ((List.range n).map f) m := by
  refine ⟨by simp [hn], fun j => ?_⟩
  rw [getD_map_range]
  split
  · exact h j (by assumption)
  · exact Nat.zero_le _
theorem LeL.sum {l m : List Nat} (h : LeL l m) : l.sum ≤ m.sum := by
  obtain ⟨h1, h2⟩ := h
  induction l generalizing m with
  | nil => simp
  | cons x l ih =>
    cases m with
    | nil => simp at h1
    | cons y m =>
      have e1 := h2 0
      have e2 := ih (m := m) (by simpa using h1) fun j => by simpa using h2 (j + 1)
      simp at e1 ⊢
      omega
theorem freeN_le (x : Of) (li : List It) (left : List Nat) : LeL (freeN x li left) left := LeL.range _ rfl fun j _ => frS_left x li left _ j (Nat.le_refl _)
def hitB (x : Of) (li : List It) (i : Nat) : Bool := match li[i]? with
  | none => false
  | some y => mtB x y
def percN (x : Of) (li : List It) (left : List Nat) : List Nat := (List.range left.length).map fun i => if hitB x li i = true then left.getD i 0 * x.a.toNat / 100 else 0
def ownN (x : Of) (li : List It) (left : List Nat) : List Nat := (List.range left.length).map fun i => if hitB x li i = true then left.getD i 0 else 0
theorem percN_le (x : Of) (li : List It) (left : List Nat) (ha : x.a ≤ 100) : LeL (percN x li left) left := LeL.range _ rfl fun j _ => by
  split
  · refine Nat.div_le_of_le_mul ?_
    rw [Nat.mul_comm 100]
    exact Nat.mul_le_mul_left _ (by omega)
  · exact Nat.zero_le _
theorem ownN_le (x : Of) (li : List It) (left : List Nat) : LeL (ownN x li left) left := LeL.range _ rfl fun j _ => by
  split
  · exact Nat.le_refl _
  · exact Nat.zero_le _
def capN (m n : Nat) : Nat := if m = 0 then n else min n m
def mostN (l : List Nat) (m : Nat) : List Nat := if m = 0 ∨ l.sum ≤ m then l else dealN m l
theorem dealN_leL (c : Nat) (ws : List Nat) (hS : 0 < ws.sum) (hc : c ≤ ws.sum) : LeL (dealN c ws) ws := ⟨dealN_length _ _, fun j => dealN_le c ws hS hc j⟩
theorem mostN_le (l : List Nat) (m : Nat) : LeL (mostN l m) l := by
  unfold mostN
  split
  · exact LeL.refl l
  · exact dealN_leL _ _ (by omega) (by omega)
def amtN (x : Of) (li : List It) (left : List Nat) : List Nat :=
  if (ownN x li left).sum = 0 then ownN x li left else dealN (capN x.most.toNat (min x.a.toNat (ownN x li left).sum)) (ownN x li left)
theorem capN_le (m n : Nat) : capN m n ≤ n := by
  unfold capN
  split
  · exact Nat.le_refl _
  · exact Nat.min_le_left _ _
theorem amtN_le (x : Of) (li : List It) (left : List Nat) : LeL (amtN x li left) left := by
  unfold amtN
  split
  · exact ownN_le x li left
  · exact (dealN_leL _ _ (by omega) (Nat.le_trans (capN_le _ _) (Nat.min_le_right _ _))).trans (ownN_le x li left)
/-- what an offer takes from the lines -/
def cutN (x : Of) (li : List It) (left : List Nat) : List Nat :=
  if x.kind = 1 then mostN (percN x li left) x.most.toNat else if x.kind = 2 then amtN x li left else if x.kind = 3 then mostN (freeN x li left) x.most.toNat else List.replicate left.length 0
theorem cutN_le (x : Of) (li : List It) (left : List Nat) (h : ofB x = true) : LeL (cutN x li left) left := by
  unfold cutN
  split
  · rename_i hk
    have ha : x.a ≤ 100 := by
      unfold ofB kindM at h
      rw [if_pos hk] at h
      simp only [Bool.and_eq_true, decide_eq_true_eq] at h
      omega
    exact (mostN_le _ _).trans (percN_le x li left ha)
  · split
    · exact amtN_le x li left
    · split
      · exact (mostN_le _ _).trans (freeN_le x li left)
      · refine ⟨by simp, fun j => ?_⟩
        rw [List.getD_eq_getElem?_getD, List.getElem?_replicate]
        split <;> simp
/-- what it takes from the shipping -/
def shN (x : Of) (ship : Nat) : Nat := if x.kind = 4 then capN x.most.toNat (min x.a.toNat ship) else 0
theorem shN_le (x : Of) (ship : Nat) : shN x ship ≤ ship := by
  unfold shN
  split
  · exact Nat.le_trans (capN_le _ _) (Nat.min_le_right _ _)
  · exact Nat.zero_le _
def subL (l m : List Nat) : List Nat := (List.range l.length).map fun j => l.getD j 0 - m.getD j 0
theorem subL_length (l m : List Nat) : (subL l m).length = l.length := by simp [subL]
theorem subL_le (l m : List Nat) : LeL (subL l m) l := LeL.range _ rfl fun j _ => Nat.sub_le _ _
/-- a basket's lines, its shipping and what was taken -/
structure PrS where
  left : List Nat
  ship : Nat
  cuts : List (ByteArray × Int)
def stepP (li : List It) (s : PrS) (x : Of) : PrS := ⟨subL s.left (cutN x li s.left), s.ship - shN x s.ship, s.cuts ++ [(x.key, (((cutN x li s.left).sum + shN x s.ship : Nat) : Int))]⟩
def goP (li : List It) (s : PrS) (l : List Of) (k : Nat) : PrS := (l.take k).foldl (stepP li) s
theorem goP_succ (li : List It) (s : PrS) (l : List Of) (k : Nat) (hk : k < l.length) : goP li s l (k + 1) = stepP li (goP li s l k) l[k] := by
  unfold goP
  rw [List.take_succ_eq_append_getElem hk, List.foldl_append]
  rfl
def startP (li : List It) (ship : Int) : PrS := ⟨li.map fun y => (y.cents * y.many).toNat, ship.toNat, []⟩
structure PrI (n M : Nat) (s : PrS) : Prop where
  len : s.left.length = n
  le : ∀ z ∈ s.left, z ≤ 1000000000
  sh : s.ship ≤ M
theorem PrI.start (li : List It) (ship : Int) (h : ∀ y ∈ li, itB y = true) : PrI li.length ship.toNat (startP li ship) := by
  refine ⟨by simp [startP], fun z hz => ?_, Nat.le_refl _⟩
  obtain ⟨y, hy, rfl⟩ := List.mem_map.1 hz
  have := it_mul (h y hy)
  omega
theorem PrI.step {n M : Nat} {s : PrS} (h : PrI n M s) (li : List It) (x : Of) : PrI n M (stepP li s x) := by
  refine ⟨(subL_length _ _).trans h.len, fun z hz => ?_, Nat.le_trans (Nat.sub_le _ _) h.sh⟩
  obtain ⟨j, hj, rfl⟩ := List.mem_iff_getElem.1 hz
  have h1 := (subL_le s.left (cutN x li s.left)).2 j
  have hj2 : j < s.left.length := by simpa [stepP, subL] using hj
  have e : (stepP li s x).left[j] = (subL s.left (cutN x li s.left)).getD j 0 := by rw [getD_lt _ _ (by rw [subL_length]; exact hj2)]; rfl
  rw [e]
  refine Nat.le_trans h1 ?_
  rw [getD_lt _ _ hj2]
  exact h.le _ (List.getElem_mem hj2)
theorem PrI.go {n M : Nat} {s : PrS} (h : PrI n M s) (li : List It) (l : List Of) : ∀ k, PrI n M (goP li s l k)
  | 0 => by simpa [goP] using h
  | k + 1 => by
    by_cases hk : k < l.length
    · rw [goP_succ _ _ _ _ hk]
      exact (PrI.go h li l k).step li _
    · have : goP li s l (k + 1) = goP li s l k := by
        unfold goP
        rw [List.take_of_length_le (by omega), List.take_of_length_le (by omega)]
      rw [this]
      exact PrI.go h li l k
end Go.Proofs.YtdefjnefkdemiaaGreatDoor
/- offer.most: amounts held to a greatest sum. -/
set_option linter.unusedVariables false
namespace Go.Proofs.YtdefjnefkdemiaaGreatDoor
open Go.RowKit

/-- the first k numbers are there, the others are 0 -/
def upF (f : Nat → Nat) (k j : Nat) : Value := .int .i64 ((if j < k then f j else 0 : Nat) : Int)
theorem upF_succ (f : Nat → Nat) (k j q : Nat) (hq : f k = q) : (if j = k then Value.int .i64 (q : Int) else upF f k j) = upF f (k + 1) j := by
  subst hq
  unfold upF
  by_cases e : j = k
  · subst e; rw [if_pos rfl, if_pos (by omega)]
  · rw [if_neg e]
    by_cases h : j < k
    · rw [if_pos h, if_pos (by omega)]
    · rw [if_neg h, if_neg (by omega)]
theorem upF_skip (f : Nat → Nat) (k j : Nat) (hq : f k = 0) : upF f k j = upF f (k + 1) j := by
  unfold upF
  by_cases e : j = k
  · subst e; rw [if_neg (by omega), if_pos (by omega), hq]
  · by_cases h : j < k
    · rw [if_pos h, if_pos (by omega)]
    · rw [if_neg h, if_neg (by omega)]
theorem RowG.upF {w : World} {g n : Nat} {f : Nat → Nat} (h : RowG w g n (upF f n)) : natsAt w (some ⟨g, 0, none⟩) ((List.range n).map f) := by
  refine h.ints (by simp) fun j hj => ?_
  have hj' : j < n := by simpa using hj
  unfold Go.Proofs.YtdefjnefkdemiaaGreatDoor.upF
  rw [if_pos hj']
  simp
theorem natsAt.below {w w' : World} {a : Option Addr} {ws : List Nat} (h : natsAt w a ws) (hb : Below w.heap.size w w') : natsAt w' a ws := IntsAt.below h hb
theorem sum_bound (M : Nat) (l : List Nat) (h : ∀ x ∈ l, x ≤ M) : l.sum ≤ l.length * M := by
  induction l with
  | nil => simp
  | cons x l ih =>
    have h1 := h x (by simp)
    have h2 := ih fun y hy => h y (by simp [hy])
    rw [List.sum_cons, List.length_cons, Nat.add_mul]
    omega

set_option maxHeartbeats 4000000 in
theorem most_any (a : Option Addr) (ws : List Nat) (n cp M : Nat) (w : World) (hn : ws.length = n) (hn1 : n < 20) (hr : natsAt w a ws) (hb : ∀ x ∈ ws, x ≤ 1000000000) (hM : M ≤ 1000000000000) :
    Calls Tryz.prog 111 #[.slice a n cp, .int .i64 M] w fun e w' => ∃ a' c', e = .returned (.slice a' n c') ∧ natsAt w' a' (mostN ws M) ∧ Below w.heap.size w w' := by
  have hsum : ws.sum ≤ 20000000000 := by
    have := sum_bound _ ws hb
    have h2 : ws.length * 1000000000 ≤ 20 * 1000000000 := Nat.mul_le_mul_right _ (by omega)
    omega
  have HB := Lib.hid hb
  have HN := Lib.hid hn
  have HR := Lib.hid hr
  clear hb hn hr
  go_enter Tryz.func111, Tryz.ntmps111
  go_wp2_with fail
  go_loopw [5, 7, 10] (fun s _ i wr => ∃ k : Nat, k ≤ n ∧ i = .int .i64 k ∧ s = .int .i64 ((ws.take k).sum : Nat) ∧ w = wr) (fun _ _ i _ => n - (intOf i).toNat)
  case atStart => exact ⟨0, Nat.zero_le _, rfl, rfl, rfl⟩
  case round =>
    obtain ⟨k, hk, rfl, rfl, rfl⟩ := hrel
    have s1 := sum_take_le ws k
    by_cases hlt : k < n
    · have hkz : k < ws.length := by have := HN.out; omega
      obtain ⟨p, off, rfl, hp, hcell⟩ := HR.out.at_ hkz
      have z1 := HB.out ws[k] (List.getElem_mem hkz)
      have HS := Lib.hid (sum_take_succ ws k hkz)
      generalize hz : ws[k] = z at *
      clear hz
      generalize (ws.take k).sum = s at *
      go_wp2_with fail
      go_roundw
      case rel => exact ⟨k + 1, by omega, by go_num, by rw [HS.out]; go_num, trivial⟩
      case measure => simp [intOf]; omega
    · obtain rfl : k = n := by omega
      have HT : Hid ((ws.take k).sum = ws.sum) := Lib.hid (by rw [← HN.out, List.take_length])
      rw [HT.out]
      obtain ⟨S, hS⟩ : ∃ S, ws.sum = S := ⟨_, rfl⟩
      rw [hS] at hsum ⊢
      have HSS := Lib.hid hS
      clear hS s1 HT
      by_cases hM0 : M = 0
      · subst hM0
        have HE : Hid (mostN ws 0 = ws) := Lib.hid (by unfold mostN; rw [if_pos (.inl rfl)])
        go_wp2_with fail
        go_ret
        exact ⟨_, _, rfl, by rw [HE.out]; exact HR.out, Below.refl _ _⟩
      · have e0 : ((M : Int) == 0) = false := by simp; omega
        by_cases hle : S ≤ M
        · have HE : Hid (mostN ws M = ws) := Lib.hid (by unfold mostN; rw [if_pos (.inr (by rw [HSS.out]; exact hle))])
          have hd : decide ((S : Int) ≤ (M : Int)) = true := decide_eq_true (by omega)
          go_wp2_with fail
          go_ret
          exact ⟨_, _, rfl, by rw [HE.out]; exact HR.out, Below.refl _ _⟩
        · have HE : Hid (mostN ws M = dealN M ws) := Lib.hid (by unfold mostN; rw [if_neg (by rw [HSS.out]; omega)])
          have hd : decide ((S : Int) ≤ (M : Int)) = false := decide_eq_false (by omega)
          have hk0 : 0 < k := by
            rcases Nat.eq_zero_or_pos k with h0 | h0
            · have h1 := List.eq_nil_of_length_eq_zero (HN.out.trans h0)
              have h2 := HSS.out
              rw [h1] at h2
              simp at h2
              omega
            · exact h0
          have C := Lib.hid (share_any M a ws k cp w hM HN.out hk0 hn1 HR.out (fun x hx => by have := HB.out x hx; omega) (by rw [HSS.out]; omega) (by rw [HSS.out]; omega))
          clear hk0
          go_wp2_with fail
          with_reducible refine C.out.mono ?_
          rintro e w2 ⟨g, cap, rfl, hI, hbl⟩
          have HI := Lib.hid hI
          have HBL := Lib.hid hbl
          clear hI hbl C
          go_wp2_with fail
          go_ret
          exact ⟨_, _, rfl, by rw [HE.out]; unfold natsAt; rw [← dealL_N]; exact HI.out, HBL.out⟩
end Go.Proofs.YtdefjnefkdemiaaGreatDoor
/- An item matches an offer: offer.matches, handref1.matches (printed by gen_match.py). -/
set_option linter.unusedVariables false
namespace Go.Proofs.YtdefjnefkdemiaaGreatDoor
open Go.RowKit

theorem any_drop {α : Type} (l : List α) (f : α → Bool) (k : Nat) (h : k < l.length) : (l.drop k).any f = (f l[k] || (l.drop (k + 1)).any f) := by
  rw [List.drop_eq_getElem_cons h, List.any_cons]

theorem mtcX_any (yt : List ByteArray) (tv : Option Addr) (tc q : Nat) (s : ByteArray) (w : World) (hq : w.cell? ⟨q, 3, none⟩ = some (.slice tv yt.length tc)) (hn : yt.length ≤ 1000) (hT : StrsAt w tv yt) :
    Calls Tryz.prog 80 #[.string s, .pointer (some ⟨q, 0, none⟩)] w fun e w' => e = .returned (.bool (hasS yt s)) ∧ Below w.heap.size w w' := by
  have hql := World.block_lt_of_cell? w _ hq
  have C := Lib.hid (contains_strs tv yt yt.length tc s w rfl hn hT)
  generalize hasS yt s = b at *
  clear hT
  go_enter Tryz.func80, Tryz.ntmps80
  go_wp2_with fail
  with_reducible refine C.out.mono ?_
  rintro e w1 ⟨rfl, rfl⟩
  go_wp2_with fail
  go_ret
  exact ⟨rfl, Below.refl _ _⟩
set_option maxRecDepth 100000 in
set_option maxHeartbeats 4000000 in
theorem mtiX_any (a : Option Addr) (l : List ByteArray) (n c : Nat) (yt : List ByteArray) (tv : Option Addr) (tc q : Nat) (w : World) (hq : w.cell? ⟨q, 3, none⟩ = some (.slice tv yt.length tc)) (hn : l.length = n) (hn0 : n ≤ 1000) (hn1 : yt.length ≤ 1000) (hI : StrsAt w a l) (hT : StrsAt w tv yt) :
    Calls Tryz.prog 73 #[.slice a n c, .func (.func 80) #[] #[.pointer (some ⟨q, 0, none⟩)]] w (IdxOut w (l.any fun s => hasS yt s)) := by
  have hql := World.block_lt_of_cell? w _ hq
  have HN := Lib.hid hn
  have HI := Lib.hid hI
  have HC := Lib.hid (fun w' (hb : Below w.heap.size w w') s => mtcX_any yt tv tc q s w' ((hb.cell (p := ⟨q, 3, none⟩) hql).trans hq) hn1 (hT.below hb))
  obtain ⟨V, hV⟩ : ∃ V, (l.any fun s => hasS yt s) = V := ⟨_, rfl⟩
  rw [hV]
  have HV : Hid (V = (l.drop 0).any fun s => hasS yt s) := Lib.hid hV.symm
  clear hn hI hq hV hT
  go_enter Tryz.func73, Tryz.ntmps73
  go_wp2_with fail
  go_loopw [5, 8] (fun _ i wr => ∃ k : Nat, k ≤ n ∧ i = .int .i64 k ∧ Below w.heap.size w wr ∧ Hid (V = (l.drop k).any fun s => hasS yt s)) (fun _ i _ => n - (intOf i).toNat)
  case atStart => exact ⟨0, Nat.zero_le _, rfl, Below.refl _ _, HV⟩
  case round =>
    obtain ⟨k, hk, rfl, hB, hH⟩ := hrel
    by_cases hlt : k < n
    · have hkl : k < l.length := by have := HN.out; omega
      obtain ⟨p, off, rfl, hp, c0⟩ := (HI.out.below hB) k hkl
      have C := Lib.hid (HC.out wr hB l[k])
      have HS := Lib.hid (hH.out.trans (any_drop l (fun s => hasS yt s) k hkl))
      obtain ⟨b, hb⟩ : ∃ b, hasS yt l[k] = b := ⟨_, rfl⟩
      rw [hb] at C HS
      generalize l[k] = x at *
      have HB := Lib.hid hB
      clear hb hH
      cases b with
      | true =>
        obtain rfl : V = true := HS.out.trans (Bool.true_or _)
        go_wp2_with fail
        with_reducible refine C.out.mono ?_
        rintro e w1 ⟨rfl, b1⟩
        have HB1 := Lib.hid (HB.out.trans (b1.mono HB.out.size))
        go_wp2_with fail
        go_ret
        exact ⟨(k : Int), rfl, decide_eq_true (by omega), HB1.out⟩
      | false =>
        have HR := Lib.hid (HS.out.trans (Bool.false_or _))
        go_wp2_with fail
        with_reducible refine C.out.mono ?_
        rintro e w1 ⟨rfl, b1⟩
        have HB1 := Lib.hid (HB.out.trans (b1.mono HB.out.size))
        go_wp2_with fail
        go_roundw
        case rel => exact ⟨k + 1, by omega, by go_num, HB1.out, HR⟩
        case measure => simp [intOf]; omega
    · have HE := Lib.hid (show V = false by rw [hH.out, List.drop_eq_nil_of_le (by rw [HN.out]; omega)]; rfl)
      have HB := Lib.hid hB
      clear hH hB
      go_wp2_with fail
      go_ret
      exact ⟨-1, rfl, by rw [HE.out]; rfl, HB.out⟩

theorem mtcR_any (yt : List ByteArray) (tv : Option Addr) (tc q : Nat) (s : ByteArray) (w : World) (hq : w.cell? ⟨q, 3, none⟩ = some (.slice tv yt.length tc)) (hn : yt.length ≤ 1000) (hT : StrsAt w tv yt) :
    Calls Tryz.prog 50 #[.string s, .pointer (some ⟨q, 0, none⟩)] w fun e w' => e = .returned (.bool (hasS yt s)) ∧ Below w.heap.size w w' := by
  have hql := World.block_lt_of_cell? w _ hq
  have C := Lib.hid (contains_strs tv yt yt.length tc s w rfl hn hT)
  generalize hasS yt s = b at *
  clear hT
  go_enter Tryz.func50, Tryz.ntmps50
  go_wp2_with fail
  with_reducible refine C.out.mono ?_
  rintro e w1 ⟨rfl, rfl⟩
  go_wp2_with fail
  go_ret
  exact ⟨rfl, Below.refl _ _⟩
set_option maxRecDepth 100000 in
set_option maxHeartbeats 4000000 in
theorem mtiR_any (a : Option Addr) (l : List ByteArray) (n c : Nat) (yt : List ByteArray) (tv : Option Addr) (tc q : Nat) (w : World) (hq : w.cell? ⟨q, 3, none⟩ = some (.slice tv yt.length tc)) (hn : l.length = n) (hn0 : n ≤ 1000) (hn1 : yt.length ≤ 1000) (hI : StrsAt w a l) (hT : StrsAt w tv yt) :
    Calls Tryz.prog 73 #[.slice a n c, .func (.func 50) #[] #[.pointer (some ⟨q, 0, none⟩)]] w (IdxOut w (l.any fun s => hasS yt s)) := by
  have hql := World.block_lt_of_cell? w _ hq
  have HN := Lib.hid hn
  have HI := Lib.hid hI
  have HC := Lib.hid (fun w' (hb : Below w.heap.size w w') s => mtcR_any yt tv tc q s w' ((hb.cell (p := ⟨q, 3, none⟩) hql).trans hq) hn1 (hT.below hb))
  obtain ⟨V, hV⟩ : ∃ V, (l.any fun s => hasS yt s) = V := ⟨_, rfl⟩
  rw [hV]
  have HV : Hid (V = (l.drop 0).any fun s => hasS yt s) := Lib.hid hV.symm
  clear hn hI hq hV hT
  go_enter Tryz.func73, Tryz.ntmps73
  go_wp2_with fail
  go_loopw [5, 8] (fun _ i wr => ∃ k : Nat, k ≤ n ∧ i = .int .i64 k ∧ Below w.heap.size w wr ∧ Hid (V = (l.drop k).any fun s => hasS yt s)) (fun _ i _ => n - (intOf i).toNat)
  case atStart => exact ⟨0, Nat.zero_le _, rfl, Below.refl _ _, HV⟩
  case round =>
    obtain ⟨k, hk, rfl, hB, hH⟩ := hrel
    by_cases hlt : k < n
    · have hkl : k < l.length := by have := HN.out; omega
      obtain ⟨p, off, rfl, hp, c0⟩ := (HI.out.below hB) k hkl
      have C := Lib.hid (HC.out wr hB l[k])
      have HS := Lib.hid (hH.out.trans (any_drop l (fun s => hasS yt s) k hkl))
      obtain ⟨b, hb⟩ : ∃ b, hasS yt l[k] = b := ⟨_, rfl⟩
      rw [hb] at C HS
      generalize l[k] = x at *
      have HB := Lib.hid hB
      clear hb hH
      cases b with
      | true =>
        obtain rfl : V = true := HS.out.trans (Bool.true_or _)
        go_wp2_with fail
        with_reducible refine C.out.mono ?_
        rintro e w1 ⟨rfl, b1⟩
        have HB1 := Lib.hid (HB.out.trans (b1.mono HB.out.size))
        go_wp2_with fail
        go_ret
        exact ⟨(k : Int), rfl, decide_eq_true (by omega), HB1.out⟩
      | false =>
        have HR := Lib.hid (HS.out.trans (Bool.false_or _))
        go_wp2_with fail
        with_reducible refine C.out.mono ?_
        rintro e w1 ⟨rfl, b1⟩
        have HB1 := Lib.hid (HB.out.trans (b1.mono HB.out.size))
        go_wp2_with fail
        go_roundw
        case rel => exact ⟨k + 1, by omega, by go_num, HB1.out, HR⟩
        case measure => simp [intOf]; omega
    · have HE := Lib.hid (show V = false by rw [hH.out, List.drop_eq_nil_of_le (by rw [HN.out]; omega)]; rfl)
      have HB := Lib.hid hB
      clear hH hB
      go_wp2_with fail
      go_ret
      exact ⟨-1, rfl, by rw [HE.out]; rfl, HB.out⟩

set_option maxHeartbeats 4000000 in
theorem mthX_any (a : Option Addr) (l : List ByteArray) (n c : Nat) (yt : List ByteArray) (tv : Option Addr) (tc q : Nat) (w : World) (hq : w.cell? ⟨q, 3, none⟩ = some (.slice tv yt.length tc)) (hn : l.length = n) (hn0 : n ≤ 1000) (hn1 : yt.length ≤ 1000) (hI : StrsAt w a l) (hT : StrsAt w tv yt) :
    Calls Tryz.prog 49 #[.slice a n c, .func (.func 80) #[] #[.pointer (some ⟨q, 0, none⟩)]] w fun e w' => e = .returned (.bool (l.any fun s => hasS yt s)) ∧ Below w.heap.size w w' := by
  have C := Lib.hid (mtiX_any a l n c yt tv tc q w hq hn hn0 hn1 hI hT)
  clear hn hI hq hT
  generalize (l.any fun s => hasS yt s) = b at *
  go_enter Tryz.func49, Tryz.ntmps49
  go_wp2_with fail
  with_reducible refine C.out.mono ?_
  rintro e w1 ⟨r, rfl, hr, hb⟩
  have HR := Lib.hid hr
  clear hr
  go_wp2_with fail
  go_ret
  exact ⟨ret_bool HR.out, hb⟩
set_option maxRecDepth 100000 in
set_option maxHeartbeats 4000000 in
theorem matchesX_any (x : Of) (y : It) (w : World) (hx : x.tags.length ≤ 1000) (hy : y.tags.length ≤ 1000) (hTx : StrsAt w x.tv x.tags) (hTy : StrsAt w y.tv y.tags) :
    Calls Tryz.prog 55 #[.agg #[.string x.key, .int .i64 x.kind, .int .i64 x.a, .int .i64 x.b, .slice x.tv x.tags.length x.tc, .int .i64 x.least, .int .i64 x.most, .string x.group, .bool x.alone, .int .i64 x.order, .int .i64 x.from_, .int .i64 x.to_], .agg #[.string y.key, .int .i64 y.cents, .int .i64 y.many, .slice y.tv y.tags.length y.tc]] w fun e w' => e = .returned (.bool (mtB x y)) ∧ Below w.heap.size w w' := by
  have HM := Lib.hid (show mtB x y = (decide (x.tags.length = 0) || x.tags.any fun s => hasS y.tags s) from rfl)
  generalize mtB x y = b at *
  obtain ⟨k, kd, ia, ib, tv, tc, tags, le, mo, gr, al, od, fr, t2⟩ := x
  obtain ⟨yk, yc, ym, yv, ytc, yt⟩ := y
  simp only at hx hy hTx hTy HM ⊢
  have HB1 := Lib.hid ((Below.refl w.heap.size w).alloc (Nat.le_refl _) (.cells #[.string k, .int .i64 kd, .int .i64 ia, .int .i64 ib, .slice tv tags.length tc, .int .i64 le, .int .i64 mo, .string gr, .bool al, .int .i64 od, .int .i64 fr, .int .i64 t2] 37))
  have HB2 := Lib.hid (HB1.out.alloc HB1.out.size (.cells #[.string yk, .int .i64 yc, .int .i64 ym, .slice yv yt.length ytc] 60))
  have HX := Lib.hid ((XB.new w [.string k, .int .i64 kd, .int .i64 ia, .int .i64 ib, .slice tv tags.length tc, .int .i64 le, .int .i64 mo, .string gr, .bool al, .int .i64 od, .int .i64 fr, .int .i64 t2] 37).alloc (.cells #[.string yk, .int .i64 yc, .int .i64 ym, .slice yv yt.length ytc] 60))
  have HY := Lib.hid (XB.new (w.alloc (.cells #[.string k, .int .i64 kd, .int .i64 ia, .int .i64 ib, .slice tv tags.length tc, .int .i64 le, .int .i64 mo, .string gr, .bool al, .int .i64 od, .int .i64 fr, .int .i64 t2] 37)) [.string yk, .int .i64 yc, .int .i64 ym, .slice yv yt.length ytc] 60)
  simp only [List.toArray] at HX HY
  have hz : (w.alloc (.cells #[.string k, .int .i64 kd, .int .i64 ia, .int .i64 ib, .slice tv tags.length tc, .int .i64 le, .int .i64 mo, .string gr, .bool al, .int .i64 od, .int .i64 fr, .int .i64 t2] 37)).heap.size = w.heap.size + 1 := by simp
  rw [hz] at HY
  obtain ⟨n, hn⟩ : ∃ n, tags.length = n := ⟨_, rfl⟩
  have C := Lib.hid (mthX_any tv tags n tc yt yv ytc (w.heap.size + 1) ((w.alloc (.cells #[.string k, .int .i64 kd, .int .i64 ia, .int .i64 ib, .slice tv tags.length tc, .int .i64 le, .int .i64 mo, .string gr, .bool al, .int .i64 od, .int .i64 fr, .int .i64 t2] 37)).alloc (.cells #[.string yk, .int .i64 yc, .int .i64 ym, .slice yv yt.length ytc] 60)) HY.out.at4.2.2.2 hn (by omega) (by omega) (hTx.below HB2.out) (hTy.below HB2.out))
  rw [hn] at HM HX HB1 HB2 C ⊢
  generalize (tags.any fun s => hasS yt s) = ba at *
  clear hn hTx hTy hz HY
  go_enter Tryz.func55, Tryz.ntmps55
  go_upto_region 1 with (fail)
  generalize (w.alloc (.cells #[.string k, .int .i64 kd, .int .i64 ia, .int .i64 ib, .slice tv n tc, .int .i64 le, .int .i64 mo, .string gr, .bool al, .int .i64 od, .int .i64 fr, .int .i64 t2] 37)).alloc (.cells #[.string yk, .int .i64 yc, .int .i64 ym, .slice yv yt.length ytc] 60) = w1 at *
  have x4 := HX.out.at12.2.2.2.2.1
  have hq := HX.out.1
  by_cases h0 : n = 0
  · obtain rfl : b = true := HM.out.trans (by simp [h0])
    subst h0
    go_wp2_with fail
    go_ret
    exact ⟨rfl, HB2.out⟩
  · obtain rfl : b = ba := HM.out.trans (by simp [h0])
    have hd : ((n : Int) == 0) = false := by simp; omega
    have hd2 : (n == 0) = false := by simpa using h0
    go_wp2_with fail
    with_reducible refine C.out.mono ?_
    rintro e w2 ⟨rfl, b2⟩
    have HB3 := Lib.hid (HB2.out.trans (b2.mono HB2.out.size))
    go_wp2_with fail
    go_ret
    exact ⟨rfl, HB3.out⟩

set_option maxHeartbeats 4000000 in
theorem mthR_any (a : Option Addr) (l : List ByteArray) (n c : Nat) (yt : List ByteArray) (tv : Option Addr) (tc q : Nat) (w : World) (hq : w.cell? ⟨q, 3, none⟩ = some (.slice tv yt.length tc)) (hn : l.length = n) (hn0 : n ≤ 1000) (hn1 : yt.length ≤ 1000) (hI : StrsAt w a l) (hT : StrsAt w tv yt) :
    Calls Tryz.prog 49 #[.slice a n c, .func (.func 50) #[] #[.pointer (some ⟨q, 0, none⟩)]] w fun e w' => e = .returned (.bool (l.any fun s => hasS yt s)) ∧ Below w.heap.size w w' := by
  have C := Lib.hid (mtiR_any a l n c yt tv tc q w hq hn hn0 hn1 hI hT)
  clear hn hI hq hT
  generalize (l.any fun s => hasS yt s) = b at *
  go_enter Tryz.func49, Tryz.ntmps49
  go_wp2_with fail
  with_reducible refine C.out.mono ?_
  rintro e w1 ⟨r, rfl, hr, hb⟩
  have HR := Lib.hid hr
  clear hr
  go_wp2_with fail
  go_ret
  exact ⟨ret_bool HR.out, hb⟩
set_option maxRecDepth 100000 in
set_option maxHeartbeats 4000000 in
theorem matchesR_any (x : Of) (y : It) (w : World) (hx : x.tags.length ≤ 1000) (hy : y.tags.length ≤ 1000) (hTx : StrsAt w x.tv x.tags) (hTy : StrsAt w y.tv y.tags) :
    Calls Tryz.prog 26 #[.agg #[.string x.key, .int .i64 x.kind, .int .i64 x.a, .int .i64 x.b, .slice x.tv x.tags.length x.tc, .int .i64 x.least, .int .i64 x.most, .string x.group, .bool x.alone, .int .i64 x.order, .int .i64 x.from_, .int .i64 x.to_], .agg #[.string y.key, .int .i64 y.cents, .int .i64 y.many, .slice y.tv y.tags.length y.tc]] w fun e w' => e = .returned (.bool (mtB x y)) ∧ Below w.heap.size w w' := by
  have HM := Lib.hid (show mtB x y = (decide (x.tags.length = 0) || x.tags.any fun s => hasS y.tags s) from rfl)
  generalize mtB x y = b at *
  obtain ⟨k, kd, ia, ib, tv, tc, tags, le, mo, gr, al, od, fr, t2⟩ := x
  obtain ⟨yk, yc, ym, yv, ytc, yt⟩ := y
  simp only at hx hy hTx hTy HM ⊢
  have HB1 := Lib.hid ((Below.refl w.heap.size w).alloc (Nat.le_refl _) (.cells #[.string k, .int .i64 kd, .int .i64 ia, .int .i64 ib, .slice tv tags.length tc, .int .i64 le, .int .i64 mo, .string gr, .bool al, .int .i64 od, .int .i64 fr, .int .i64 t2] 37))
  have HB2 := Lib.hid (HB1.out.alloc HB1.out.size (.cells #[.string yk, .int .i64 yc, .int .i64 ym, .slice yv yt.length ytc] 60))
  have HX := Lib.hid ((XB.new w [.string k, .int .i64 kd, .int .i64 ia, .int .i64 ib, .slice tv tags.length tc, .int .i64 le, .int .i64 mo, .string gr, .bool al, .int .i64 od, .int .i64 fr, .int .i64 t2] 37).alloc (.cells #[.string yk, .int .i64 yc, .int .i64 ym, .slice yv yt.length ytc] 60))
  have HY := Lib.hid (XB.new (w.alloc (.cells #[.string k, .int .i64 kd, .int .i64 ia, .int .i64 ib, .slice tv tags.length tc, .int .i64 le, .int .i64 mo, .string gr, .bool al, .int .i64 od, .int .i64 fr, .int .i64 t2] 37)) [.string yk, .int .i64 yc, .int .i64 ym, .slice yv yt.length ytc] 60)
  simp only [List.toArray] at HX HY
  have hz : (w.alloc (.cells #[.string k, .int .i64 kd, .int .i64 ia, .int .i64 ib, .slice tv tags.length tc, .int .i64 le, .int .i64 mo, .string gr, .bool al, .int .i64 od, .int .i64 fr, .int .i64 t2] 37)).heap.size = w.heap.size + 1 := by simp
  rw [hz] at HY
  obtain ⟨n, hn⟩ : ∃ n, tags.length = n := ⟨_, rfl⟩
  have C := Lib.hid (mthR_any tv tags n tc yt yv ytc (w.heap.size + 1) ((w.alloc (.cells #[.string k, .int .i64 kd, .int .i64 ia, .int .i64 ib, .slice tv tags.length tc, .int .i64 le, .int .i64 mo, .string gr, .bool al, .int .i64 od, .int .i64 fr, .int .i64 t2] 37)).alloc (.cells #[.string yk, .int .i64 yc, .int .i64 ym, .slice yv yt.length ytc] 60)) HY.out.at4.2.2.2 hn (by omega) (by omega) (hTx.below HB2.out) (hTy.below HB2.out))
  rw [hn] at HM HX HB1 HB2 C ⊢
  generalize (tags.any fun s => hasS yt s) = ba at *
  clear hn hTx hTy hz HY
  go_enter Tryz.func26, Tryz.ntmps26
  go_upto_region 1 with (fail)
  generalize (w.alloc (.cells #[.string k, .int .i64 kd, .int .i64 ia, .int .i64 ib, .slice tv n tc, .int .i64 le, .int .i64 mo, .string gr, .bool al, .int .i64 od, .int .i64 fr, .int .i64 t2] 37)).alloc (.cells #[.string yk, .int .i64 yc, .int .i64 ym, .slice yv yt.length ytc] 60) = w1 at *
  have x4 := HX.out.at12.2.2.2.2.1
  have hq := HX.out.1
  by_cases h0 : n = 0
  · obtain rfl : b = true := HM.out.trans (by simp [h0])
    subst h0
    go_wp2_with fail
    go_ret
    exact ⟨rfl, HB2.out⟩
  · obtain rfl : b = ba := HM.out.trans (by simp [h0])
    have hd : ((n : Int) == 0) = false := by simp; omega
    have hd2 : (n == 0) = false := by simpa using h0
    go_wp2_with fail
    with_reducible refine C.out.mono ?_
    rintro e w2 ⟨rfl, b2⟩
    have HB3 := Lib.hid (HB2.out.trans (b2.mono HB2.out.size))
    go_wp2_with fail
    go_ret
    exact ⟨rfl, HB3.out⟩
end Go.Proofs.YtdefjnefkdemiaaGreatDoor
/- offer.pricer's percents and amount (printed by gen_perc.py). -/
set_option linter.unusedVariables false
namespace Go.Proofs.YtdefjnefkdemiaaGreatDoor
open Go.RowKit

theorem XB.at_pr {w : World} {q : Nat} {v0 v1 v2 v3 : Value} (h : XB w q [v0, v1, v2, v3]) : w.cell? ⟨q, 0, none⟩ = some v0 ∧ w.cell? ⟨q, 1, none⟩ = some v1 ∧ w.cell? ⟨q, 2, none⟩ = some v2 ∧ w.cell? ⟨q, 3, none⟩ = some v3 :=
  ⟨h.2 0 _ rfl, h.2 1 _ rfl, h.2 2 _ rfl, h.2 3 _ rfl⟩
theorem XB.drew {w : World} {q : Nat} {cs : List Value} (h : XB w q cs) : XB w.drew q cs := h
theorem hitB_at (x : Of) (li : List It) (k : Nat) (h : k < li.length) : hitB x li k = mtB x li[k] := by
  unfold hitB
  rw [List.getElem?_eq_getElem h]
theorem ofB_kd {x : Of} (h : ofB x = true) : 1 ≤ x.a ∧ x.a ≤ 1000000000000 ∧ (x.kind = 1 → x.a ≤ 100) ∧ (x.kind = 3 → x.a ≤ 20 ∧ 1 ≤ x.b ∧ x.b ≤ 20) ∧ 0 ≤ x.most ∧ x.most ≤ 1000000000000 := by
  unfold ofB kindM at h
  simp only [Bool.and_eq_true, decide_eq_true_eq] at h
  obtain ⟨⟨⟨⟨⟨⟨⟨⟨h1, h2⟩, h3⟩, h4⟩, h5⟩, h6⟩, h7⟩, h8⟩, h9⟩ := h
  refine ⟨h1, ?_, ?_, ?_, h6, h7⟩
  · split at h2
    · omega
    · split at h2
      · omega
      · split at h2
        · omega
        · split at h2 <;> omega
  · intro hk
    rw [if_pos hk] at h2
    exact h2
  · intro hk
    rw [hk] at h2 h3
    simp at h2 h3
    omega
theorem sum_rs (f : Nat → Nat) (k : Nat) : ((List.range (k + 1)).map f).sum = ((List.range k).map f).sum + f k := by simp [List.range_succ]
theorem infoP_int : (Tryz.prog.info? 3).map (fun i => (i.zero, i.size, i.bytes)) = some (some (.int .i64 0), 1, 8) := by kernel_rfl

set_option maxRecDepth 100000 in
set_option maxHeartbeats 8000000 in
theorem percents_any (x : Of) (q : Nat) (ai : Option Addr) (li : List It) (n ci : Nat) (sh0 : Int) (la : Option Addr) (left : List Nat) (cl sh : Nat) (w : World)
    (hx : x.ok) (hxb : ofB x = true) (hxk : x.kind = 1) (hxt : StrsAt w x.tv x.tags) (hQ : XB w q [.slice ai n ci, .int .i64 sh0, .slice la n cl, .int .i64 (sh : Nat)])
    (hni : li.length = n) (hn : left.length = n) (hn1 : n < 20) (hI : RAt w ai 4 It.cells li) (hTG : TagsAt It.tv It.tags w li) (hok : ∀ y ∈ li, y.ok) (hL : natsAt w la left) (hb : ∀ z ∈ left, z ≤ 1000000000) :
    Calls Tryz.prog 83 #[.pointer (some ⟨q, 0, none⟩), .agg x.cells.toArray] w fun e w' => ∃ a' c', e = .returned (.slice a' n c') ∧ natsAt w' a' (mostN (percN x li left) x.most.toNat) ∧ Below w.heap.size w w' := by
  obtain ⟨i0, hi, hz0, hz1, hz2⟩ := info_parts infoP_int
  have HN := Lib.hid hn
  have HNI := Lib.hid hni
  have HI := Lib.hid hI
  have HL := Lib.hid hL
  have HBL := Lib.hid hb
  have HM := Lib.hid (fun y w' (h1 : y ∈ li) (hbl : Below w.heap.size w w') => matchesX_any x y w' (by have := hx.2.2.2.2.2.2.2.1; omega) (by have := (hok y h1).2.2.2.2.2.1; omega) (hxt.below hbl) ((hTG y h1).below hbl))
  obtain ⟨a0, a1, a2, a3, m0, m1⟩ := ofB_kd hxb
  replace a2 := a2 hxk
  clear a3
  obtain ⟨f, hf⟩ : ∃ f : Nat → Nat, f = fun i => if hitB x li i = true then left.getD i 0 * x.a.toNat / 100 else 0 := ⟨_, rfl⟩
  have HF : Hid (∀ k (h : k < li.length) (h2 : k < left.length), f k = if mtB x li[k] = true then left[k] * x.a.toNat / 100 else 0) := Lib.hid (by
    intro k h h2
    rw [hf]
    simp only
    rw [hitB_at x li k h, getD_lt _ _ h2])
  have HV : Hid (percN x li left = (List.range n).map f) := Lib.hid (by rw [hf, ← hn]; rfl)
  have HLE := Lib.hid (percN_le x li left a2)
  obtain ⟨k0, kd, ia, ib, tv, tc, tags, le, mo, gr, al, od, fr, t2⟩ := x
  simp only at hxk
  subst hxk
  simp only at HM HF HV a0 a1 a2 m0 m1 ⊢
  obtain ⟨A, rfl⟩ : ∃ A : Nat, ia = A := ⟨ia.toNat, by omega⟩
  obtain ⟨M, rfl⟩ : ∃ M : Nat, mo = M := ⟨mo.toNat, by omega⟩
  try simp only [Int.toNat_natCast] at HF
  try simp only [Int.toNat_natCast] at HV
  try simp only [Int.toNat_natCast]
  rw [show (Of.cells ⟨k0, 1, A, ib, tv, tc, tags, le, M, gr, al, od, fr, t2⟩).toArray = #[.string k0, .int .i64 1, .int .i64 (A : Nat), .int .i64 ib, .slice tv tags.length tc, .int .i64 le, .int .i64 (M : Nat), .string gr, .bool al, .int .i64 od, .int .i64 fr, .int .i64 t2] from rfl]
  rw [show (⟨k0, 1, A, ib, tv, tc, tags, le, M, gr, al, od, fr, t2⟩ : Of) = ⟨k0, 1, A, ib, tv, tc, tags, le, M, gr, al, od, fr, t2⟩ from rfl] at *
  have HX0 := Lib.hid (XB.new w [.string k0, .int .i64 1, .int .i64 (A : Nat), .int .i64 ib, .slice tv tags.length tc, .int .i64 le, .int .i64 (M : Nat), .string gr, .bool al, .int .i64 od, .int .i64 fr, .int .i64 t2] 37)
  have HB0 := Lib.hid ((Below.refl w.heap.size w).alloc (Nat.le_refl _) (.cells #[.string k0, .int .i64 1, .int .i64 (A : Nat), .int .i64 ib, .slice tv tags.length tc, .int .i64 le, .int .i64 (M : Nat), .string gr, .bool al, .int .i64 od, .int .i64 fr, .int .i64 t2] 37))
  have HQ0 := Lib.hid (hQ.alloc (.cells #[.string k0, .int .i64 1, .int .i64 (A : Nat), .int .i64 ib, .slice tv tags.length tc, .int .i64 le, .int .i64 (M : Nat), .string gr, .bool al, .int .i64 od, .int .i64 fr, .int .i64 t2] 37))
  have hqw := hQ.1
  simp only [List.toArray] at HX0
  have hz : (w.alloc (.cells #[.string k0, .int .i64 1, .int .i64 (A : Nat), .int .i64 ib, .slice tv tags.length tc, .int .i64 le, .int .i64 (M : Nat), .string gr, .bool al, .int .i64 od, .int .i64 fr, .int .i64 t2] 37)).heap.size = w.heap.size + 1 := by simp
  clear hni hn hI hTG hok hb hx hxt hf hQ hL hxb
  go_enter Tryz.func83, Tryz.ntmps83
  go_upto_region 1 with (fail)
  generalize (w.alloc (.cells #[.string k0, .int .i64 1, .int .i64 (A : Nat), .int .i64 ib, .slice tv tags.length tc, .int .i64 le, .int .i64 (M : Nat), .string gr, .bool al, .int .i64 od, .int .i64 fr, .int .i64 t2] 37)) = w1 at *
  obtain ⟨z0, z1, z2, z3⟩ := HQ0.out.at_pr
  have hzl := HQ0.out.1
  go_wp2_with (refine wpList_make_row _ rfl _ _ 22 rfl 3 i0 (.int .i64 0) Tryz.underlying22 hi hz0 hz1 rfl n rfl rfl ?c1 ?c2 ?_)
  case c1 => rw [hz2]; omega
  case c2 => unfold maxLen; omega
  intro w2 R2 g2 s2
  have hB2 := HB0.out.grown g2 (by omega) (by simp)
  have hX2 := HX0.out.grown g2 (by simp)
  have hQ2 := HQ0.out.grown g2 (by simp)
  try rw [hz] at R2
  have HR2 := Lib.hid (R2.congr (f' := upF f 0) fun j _ => by simp [upF])
  have HB2 := Lib.hid hB2
  have HX2 := Lib.hid hX2
  have HQ2 := Lib.hid hQ2
  have hsz : w2.heap.size = w.heap.size + 2 := by omega
  clear z0 z1 z2 z3 hzl R2 hB2 hX2 hQ2 HB0 HX0 HQ0 g2 s2
  obtain ⟨z0, z1, z2, z3⟩ := HQ2.out.at_pr
  have hzl := HQ2.out.1
  go_wp2_with fail
  clear z0 z1 z2 z3 hzl hz
  go_loopw [6, 7, 19] (fun _ _ i wr => ∃ k : Nat, k ≤ n ∧ i = .int .i64 k ∧ RowG wr (w.heap.size + 1) n (upF f k) ∧ XB wr w.heap.size [.string k0, .int .i64 1, .int .i64 (A : Nat), .int .i64 ib, .slice tv tags.length tc, .int .i64 le, .int .i64 (M : Nat), .string gr, .bool al, .int .i64 od, .int .i64 fr, .int .i64 t2] ∧ XB wr q [.slice ai n ci, .int .i64 sh0, .slice la n cl, .int .i64 (sh : Nat)] ∧ Below w.heap.size w wr) (fun _ _ i _ => n - (intOf i).toNat)
  case atStart => exact ⟨0, Nat.zero_le _, rfl, HR2.out, HX2.out, HQ2.out, HB2.out⟩
  case round =>
    obtain ⟨k, hk, rfl, hR, hX, hQ, hB⟩ := hrel
    clear HR2 HX2 HQ2 HB2 hsz
    have HR := Lib.hid hR
    have HX := Lib.hid hX
    have HQ := Lib.hid hQ
    have HB := Lib.hid hB
    by_cases hlt : k < n
    · have hkl : k < li.length := by have := HNI.out; omega
      have hkz : k < left.length := by have := HN.out; omega
      obtain ⟨p, off, rfl, hp, hcell⟩ := HL.out.at_ hkz
      have hcell2 := (hB.cell (p := ⟨p, off + k, none⟩) hp).trans hcell
      obtain ⟨p2, off2, rfl, hp2, y0, y1, y2, y3⟩ := (HI.out.below hB).at4 hkl (v0 := .string li[k].key) (v1 := .int .i64 li[k].cents) (v2 := .int .i64 li[k].many) (v3 := .slice li[k].tv li[k].tags.length li[k].tc) rfl
      have b1 := HBL.out left[k] (List.getElem_mem hkz)
      have HFK := Lib.hid (HF.out k hkl hkz)
      have C := Lib.hid (fun w' hbl => HM.out li[k] w' (List.getElem_mem hkl) hbl)
      generalize left[k] = z at *
      generalize mtB ⟨k0, 1, A, ib, tv, tc, tags, le, M, gr, al, od, fr, t2⟩ li[k] = mt at *
      generalize li[k] = y at *
      obtain ⟨yk, yc, ym, yv, ytc, yt⟩ := y
      simp only at y0 y1 y2 y3 C
      clear hR hX hQ hcell
      obtain ⟨x0, x1, x2, x3, x4, x5, x6, x7, x8, x9, x10, x11⟩ := HX.out.at12
      have hxl := HX.out.1
      obtain ⟨z0, z1, z2, z3⟩ := HQ.out.at_pr
      have hzl := HQ.out.1
      have hkc : (k : Int) < (n : Int) := by omega
      go_upto_region 5 with (fail)
      go_still_tail 9, (by kernel_rfl)
      change wpList _ _ _ _ _ wr.drew
      have hB5 := hB.drew
      have HR5 := Lib.hid HR.out.drew
      have HX5 := Lib.hid HX.out.drew
      have HQ5 := Lib.hid HQ.out.drew
      have HB5 := Lib.hid hB5
      clear x0 x1 x2 x3 x4 x5 x6 x7 x8 x9 x10 x11 z0 z1 z2 z3 hxl hzl y0 y1 y2 y3 hB hB5 HR HX HQ HB
      generalize wr.drew = w5 at *
      go_wp2_with fail
      with_reducible refine (C.out _ HB5.out).mono ?_
      rintro e w6 ⟨rfl, d6⟩
      have HR6 := Lib.hid (HR5.out.below d6)
      have HX6 := Lib.hid (HX5.out.below d6)
      have HQ6 := Lib.hid (HQ5.out.below d6)
      have HB6 := Lib.hid (HB5.out.trans (d6.mono HB5.out.size))
      clear d6 HR5 HX5 HQ5 HB5 C
      cases mt with
      | true =>
        have c1 := HR6.out.cell k hlt
        have f1 := HR6.out.free k hlt
        have hq1 : f k = z * A / 100 := HFK.out.trans (if_pos rfl)
        have HQ1 := Lib.hid hq1
        clear hq1
        obtain ⟨x0, x1, x2, x3, x4, x5, x6, x7, x8, x9, x10, x11⟩ := HX6.out.at12
        have hxl := HX6.out.1
        generalize upF f k k = o1 at *
        have hP : (z : Int) * (A : Int) = ((z * A : Nat) : Int) := by simp
        have hP1 : z * A ≤ 1000000000 * 100 := Nat.mul_le_mul b1 (by omega)
        have HPP := Lib.hid hP1
        generalize z * A = P at *
        clear HPP
        have hP2 : (P : Int).tdiv 100 = ((P / 100 : Nat) : Int) := by rw [Int.tdiv_eq_ediv_of_nonneg (by omega)]; omega
        have hP3 : P / 100 ≤ 1000000000 := by omega
        go_wp2_with fail
        go_roundw
        case rel =>
          refine ⟨k + 1, by omega, by go_num, ?_, ?_, ?_, ?_⟩
          · exact (HR6.out.set k hlt _).congr (fun j _ => upF_succ f k j _ HQ1.out)
          · exact HX6.out.grown (grown_set (grown_same w6 (some (w.heap.size + 1))) (p := ⟨w.heap.size + 1, k, none⟩) (.inl rfl) _) (by simp)
          · exact HQ6.out.grown (grown_set (grown_same w6 (some (w.heap.size + 1))) (p := ⟨w.heap.size + 1, k, none⟩) (.inl rfl) _) (by simp; omega)
          · exact HB6.out.setCell (by simp) _
        case measure => simp [intOf]; omega
      | false =>
        have hq1 : f k = 0 := HFK.out.trans (if_neg (by simp))
        have HQ1 := Lib.hid hq1
        clear hq1
        go_wp2_with fail
        go_roundw
        case rel => exact ⟨k + 1, by omega, by go_num, HR6.out.congr (fun j _ => upF_skip f k j HQ1.out), HX6.out, HQ6.out, HB6.out⟩
        case measure => simp [intOf]; omega
    · obtain rfl : k = n := by omega
      have HV2 := Lib.hid hR.upF
      rw [← HV.out] at HV2
      obtain ⟨x0, x1, x2, x3, x4, x5, x6, x7, x8, x9, x10, x11⟩ := HX.out.at12
      have hxl := HX.out.1
      have C := Lib.hid (most_any (some ⟨w.heap.size + 1, 0, none⟩) (percN ⟨k0, 1, A, ib, tv, tc, tags, le, M, gr, al, od, fr, t2⟩ li left) k k M wr (HLE.out.1.trans HN.out) hn1 HV2.out (fun z hz => by
        obtain ⟨j, hj, rfl⟩ := List.mem_iff_getElem.1 hz
        have h1 := HLE.out.2 j
        rw [getD_lt _ _ hj] at h1
        have hj2 : j < left.length := by rw [← HLE.out.1]; exact hj
        rw [getD_lt _ _ hj2] at h1
        exact Nat.le_trans h1 (HBL.out _ (List.getElem_mem hj2))) (by omega))
      clear hR hX hQ hB
      go_wp2_with fail
      with_reducible refine C.out.mono ?_
      rintro e w6 ⟨a', c', rfl, hI6, d6⟩
      have HI6 := Lib.hid hI6
      have HB6 := Lib.hid (HB.out.trans (d6.mono HB.out.size))
      clear hI6 d6 C
      go_wp2_with fail
      go_ret
      exact ⟨_, _, rfl, HI6.out, HB6.out⟩
end Go.Proofs.YtdefjnefkdemiaaGreatDoor
/- copy at rows of k cells (the generic part of XInsertCe). -/
set_option linter.unusedVariables false
namespace Go.Proofs.YtdefjnefkdemiaaGreatDoor
open Go.RowKit Go.Lib

theorem run_copy_rowK {P : Program} (k : Nat) (w : World) (dT sT ty elem : TypeId) (g o dLen dCap : Nat) (a : Addr) (sLen sCap : Nat) (cur : Array Value) (t : TypeId) (cs : List Value)
    (hu : P.underlying dT = some (.slice elem)) (hs : (P.info? elem).map (·.size) = some k)
    (hg : w.heap[g]? = some (.cells cur t (0, 0))) (hn : cs.length = Nat.min sLen dLen * k)
    (hsrc : ∀ j v, cs[j]? = some v → w.cell? (a.add j) = some v) (hfit : o + cs.length ≤ cur.size) (h1 : ∀ v ∈ cs, v.oneCell' = true) :
    (Builtin.copy_ #[dT, sT] ty #[.slice (some ⟨g, o, none⟩) dLen dCap, .slice (some a) sLen sCap]).run P w =
      .ok (goInt (Nat.min sLen dLen)) (w.setRow g (cur.toList.take o ++ cs ++ cur.toList.drop (o + cs.length)).toArray) := by
  have hl := run_loadCells_list (P := P) w a cs hsrc
  have hst := run_storeCells_at P g o t cs 0 cur w hg (by simpa using hfit) h1
  cases hq : P.info? elem with
  | none => simp [hq] at hs
  | some i =>
    have hi : i.size = k := by simpa [hq] using hs
    simp [Builtin.copy_, run_underlying hu, Builtin.lenOf, Builtin.firstCells, sizeOf, typeInfo, hq, hi, ← hn, hl, hst]
theorem setRow_grown (w : World) (g : Nat) (cs : Array Value) : w.grownBy (w.setRow g cs) (some g) := ⟨rfl, rfl, rfl, by simp [World.setRow], fun k _ hne => setRow_other w g k cs (fun e => hne (by rw [e]))⟩
theorem fm_take {α : Type} (C : Nat) (f : α → List Value) (l : List α) (hf : ∀ x ∈ l, (f x).length = C) (i : Nat) (hi : i ≤ l.length) : (l.flatMap f).take (i * C) = (l.take i).flatMap f ∧ (l.flatMap f).drop (i * C) = (l.drop i).flatMap f := by
  have e : l.flatMap f = (l.take i).flatMap f ++ (l.drop i).flatMap f := by rw [← List.flatMap_append, List.take_append_drop]
  have hl : ((l.take i).flatMap f).length = i * C := by
    rw [fm_length C f (l.take i) (fun x hx => hf x (List.mem_of_mem_take hx)), List.length_take]
    congr 1
    omega
  rw [e, ← hl]
  exact ⟨List.take_left, List.drop_left⟩
end Go.Proofs.YtdefjnefkdemiaaGreatDoor
/- slices.Repeat at pieces: one piece, m times. -/
set_option linter.unusedVariables false
namespace Go.Proofs.YtdefjnefkdemiaaGreatDoor
open Go.RowKit Go.Lib

def pcC (x : Pc) : List Value := [.int .i64 x.1, .int .i64 x.2]
/-- the row when k pieces are there -/
def repL (x : Pc) (k m : Nat) : List Pc := List.replicate k x ++ List.replicate (m - k) (0, 0)
theorem pcC_fl (l : List Pc) : (l.flatMap pcC).length = l.length * 2 := fm_length 2 pcC l (fun _ _ => rfl)
theorem repL_zero (x : Pc) (m : Nat) : madeCells #[.int .i64 0, .int .i64 0] (m * 2) = ((repL x 0 m).flatMap pcC).toArray := by
  have e1 : (madeCells #[.int .i64 0, .int .i64 0] (m * 2)).toList = List.replicate (m * 2) (.int .i64 0) := by
    rw [List.eq_replicate_iff]
    refine ⟨by simp [size_madeCells], fun v hv => ?_⟩
    unfold madeCells at hv
    simp at hv
    obtain ⟨i, hi, rfl⟩ := hv
    rcases Nat.mod_two_eq_zero_or_one i with h | h <;> simp [h]
  have e2 : (repL x 0 m).flatMap pcC = List.replicate (m * 2) (.int .i64 0) := by
    rw [List.eq_replicate_iff]
    refine ⟨by rw [pcC_fl]; simp [repL], fun v hv => ?_⟩
    obtain ⟨y, hy, hv⟩ := List.mem_flatMap.1 hv
    simp only [repL, List.replicate_zero, List.nil_append] at hy
    obtain rfl := (List.mem_replicate.1 hy).2
    simpa [pcC] using hv
  rw [e2, ← e1]
theorem repL_len (x : Pc) (k m : Nat) (h : k ≤ m) : (repL x k m).length = m := by simp [repL]; omega
theorem repL_copy (x : Pc) (k j m : Nat) (h : k + j ≤ m) :
    ((repL x k m).flatMap pcC).take (k * 2) ++ (List.replicate j x).flatMap pcC ++ ((repL x k m).flatMap pcC).drop (k * 2 + ((List.replicate j x).flatMap pcC).length) = (repL x (k + j) m).flatMap pcC := by
  have hl := repL_len x k m (by omega)
  obtain ⟨h1, -⟩ := fm_take 2 pcC (repL x k m) (fun _ _ => rfl) k (by omega)
  obtain ⟨-, h2⟩ := fm_take 2 pcC (repL x k m) (fun _ _ => rfl) (k + j) (by omega)
  rw [pcC_fl, List.length_replicate, ← Nat.add_mul, h1, h2, ← List.flatMap_append, ← List.flatMap_append]
  congr 1
  unfold repL
  rw [List.take_left' (by simp), List.drop_append, List.drop_of_length_le (by simp), List.length_replicate, List.drop_replicate, List.nil_append, ← List.replicate_append_replicate]
  congr 2
  omega
theorem infoPc : (Tryz.prog.info? 139).map (fun i => (i.zero, i.size, i.bytes)) = some (some (.agg #[.int .i64 0, .int .i64 0]), 2, 16) := by kernel_rfl
/-- make of n elements -/
theorem wpList_make_cells {P : Program} (w : World) {ops : Array Oper} {rest : List Oper} {o : Oper} {a : Act} {Q : Exit → Act → World → Prop}
    (hg : o.guard = none) (l c : Operand) (t : TypeId) (hop : o.op = Op.makeSlice t l c)
    (e : TypeId) (i : TypeInfo) (z : Value) (h1 : P.underlying t = some (.slice e)) (h2 : P.info? e = some i) (h3 : i.zero = some z)
    (n : Nat) (hl : a.eval l = .int .i64 (n : Int)) (hc : a.eval c = .int .i64 (n : Int)) (b2 : i.bytes * n ≤ 281474976710656) (b3 : n ≤ maxLen)
    (hK : wpList P ops Q rest (a.put o.dst (.slice (some ⟨w.heap.size, 0, none⟩) n n)) (w.alloc (.cells (madeCells z.cells (n * i.size)) e))) :
    wpList P ops Q (o :: rest) a w := by
  refine wpList_plain hg fun K hK' => ?_
  have hrun2 := run_make (P := P) w t e i z h1 h2 h3 .i64 .i64 n n (by omega) (Int.le_refl _) (by have h : ((i.bytes * n : Nat) : Int) ≤ 281474976710656 := by omega
                                                                                                  rwa [Int.natCast_mul] at h) (by unfold maxLen at b3; omega)
  unfold Oper.wp
  simp only [Int.toNat_natCast] at hrun2
  simp [execOp, hop, hl, hc, hrun2, Result.andThen]
  exact hK' _ _ hK

set_option maxRecDepth 100000 in
set_option maxHeartbeats 4000000 in
theorem repeat_pc (x : Pc) (w : World) (m p : Nat) (hm : 1 ≤ m) (hm1 : m ≤ 1000) (hp : w.heap[p]? = some (.cells (pcC x).toArray 139 (0, 0))) :
    Calls Tryz.prog 113 #[.slice (some ⟨p, 0, none⟩) 1 1, .int .i64 m] w fun e w' => ∃ g, e = .returned (.slice (some ⟨g, 0, none⟩) m m) ∧ w'.heap[g]? = some (.cells ((List.replicate m x).flatMap pcC).toArray 139 (0, 0)) ∧ Below w.heap.size w w' := by
  obtain ⟨i0, hi, hz0, hz1, hz2⟩ := info_parts infoPc
  have hsz2 : (Tryz.prog.info? 139).map (·.size) = some 2 := by rw [hi]; simp [hz1]
  have M0 := fun w => Tryz.bits_Mul 1 m (by omega) (by omega) w
  rw [show 1 * m / 18446744073709551616 = 0 by omega, show 1 * m % 18446744073709551616 = m by omega, show ((1 : Nat) : Int) = 1 from rfl] at M0
  have M := Lib.hid M0
  clear M0
  have hplt := (Array.getElem?_eq_some_iff.1 hp).1
  have hzc : i0.size = 2 := hz1
  obtain ⟨w1, hw1⟩ : ∃ w1, w.alloc (.cells (madeCells #[.int .i64 0, .int .i64 0] (m * 2)) 139) = w1 := ⟨_, rfl⟩
  obtain ⟨g, hg⟩ : ∃ g, w.heap.size = g := ⟨_, rfl⟩
  have hb1 : w1.heap[g]? = some (.cells ((repL x 0 m).flatMap pcC).toArray 139 (0, 0)) := by rw [← hw1, ← hg, ← repL_zero]; exact heap_alloc_new _ _
  have hp1 : w1.heap[p]? = some (.cells (pcC x).toArray 139 (0, 0)) := by rw [← hw1]; exact (Below.heap_alloc w _ p hplt).trans hp
  have HB1 := Lib.hid (show Below w.heap.size w w1 by rw [← hw1]; exact (Below.refl _ _).alloc (Nat.le_refl _) _)
  have hone : ∀ (l : List Pc) (v : Value), v ∈ l.flatMap pcC → v.oneCell' = true := fun l v hv => by
    obtain ⟨y, _, hv⟩ := List.mem_flatMap.1 hv
    simp only [pcC, List.mem_cons, List.mem_nil_iff, or_false] at hv
    rcases hv with rfl | rfl <;> rfl
  have hcp : ∀ ty dc, (Builtin.copy_ #[136, 136] ty #[.slice (some ⟨g, 0, none⟩) m dc, .slice (some ⟨p, 0, none⟩) 1 1]).run Tryz.prog w1 = .ok (goInt 1) (w1.setRow g ((repL x 1 m).flatMap pcC).toArray) := fun ty dc => by
    have h2 := run_copy_rowK 2 w1 136 136 ty 139 g 0 m dc ⟨p, 0, none⟩ 1 1 ((repL x 0 m).flatMap pcC).toArray 139 ((List.replicate 1 x).flatMap pcC) Tryz.underlying136 hsz2 hb1
      (by rw [pcC_fl, show Nat.min 1 m = 1 by simp only [Nat.min_def]; split <;> omega]; rfl)
      (fun j v h => World.news_of_block hp1 j v h)
      (by rw [pcC_fl]; simp only [List.size_toArray]; rw [pcC_fl, repL_len _ _ _ (by omega)]; simp; omega)
      (hone _)
    rw [show Nat.min 1 m = 1 by simp only [Nat.min_def]; split <;> omega] at h2
    have h3 := repL_copy x 0 1 m (by omega)
    simp only [Nat.zero_mul, Nat.zero_add] at h3 h2
    rw [h3] at h2
    exact h2
  have HC := Lib.hid hcp
  clear hcp
  go_enter Tryz.func113, Tryz.ntmps113
  go_wp2_with fail
  with_reducible refine (M.out _).mono ?_
  rintro e w' ⟨rfl, hw⟩
  rw [hw]
  clear hw w'
  have hm0 : decide (0 < m) = true := decide_eq_true (by omega)
  clear M
  go_wp2_with (first | refine wpList_make_cells _ rfl _ _ 136 rfl 139 i0 _ Tryz.underlying136 hi hz0 m rfl rfl ?c1 ?c2 ?_)
  case c1 => rw [hz2]; omega
  case c2 => unfold maxLen; omega
  obtain ⟨w2, hw2⟩ : ∃ w2, w1.setRow g ((repL x 1 m).flatMap pcC).toArray = w2 := ⟨_, rfl⟩
  have hb2 : w2.heap[g]? = some (.cells ((repL x 1 m).flatMap pcC).toArray 139 (0, 0)) := by rw [← hw2]; exact setRow_heap w1 g _ _ _ _ hb1
  have HB2 := Lib.hid (show Below w.heap.size w w2 by rw [← hw2]; exact HB1.out.grown (setRow_grown w1 g _) HB1.out.size (fun q hq => by injection hq with hq; omega))
  have HC2 := Lib.hid (fun ty dc => (HC.out ty dc).trans (by rw [hw2]))
  have HB0 := Lib.hid hb2
  have HS2 := Lib.hid hsz2
  have HO := Lib.hid hone
  have HG := Lib.hid hg
  clear hw2 hb2 hb1 hp1 HC HB1 hw1 hp hone hsz2 hg hplt
  go_wp2_with (simp only [HC2.out])
  clear HC2
  go_loopw [8] (fun u wr => ∃ k : Nat, 1 ≤ k ∧ k ≤ m ∧ u = .int .i64 k ∧ wr.heap[g]? = some (.cells ((repL x k m).flatMap pcC).toArray 139 (0, 0)) ∧ Below w.heap.size w wr) (fun u _ => m - (intOf u).toNat)
  case atStart => exact ⟨1, Nat.le_refl _, hm, rfl, HB0.out, HB2.out⟩
  case round =>
    obtain ⟨k, hk1, hk, rfl, hb, hB⟩ := hrel
    by_cases hlt : k < m
    · obtain ⟨j, hj⟩ : ∃ j, Nat.min k (m - k) = j := ⟨_, rfl⟩
      have hj1 : 1 ≤ j ∧ k + j ≤ m ∧ j ≤ k := by
        simp only [Nat.min_def] at hj
        split at hj <;> omega
      obtain ⟨w3, hw3⟩ : ∃ w3, wr.drew.setRow g ((repL x (k + j) m).flatMap pcC).toArray = w3 := ⟨_, rfl⟩
      have hcp : ∀ ty dc sc, (Builtin.copy_ #[136, 136] ty #[.slice (some ⟨g, k * 2, none⟩) (m - k) dc, .slice (some ⟨g, 0, none⟩) k sc]).run Tryz.prog wr.drew = .ok (goInt j) w3 := fun ty dc sc => by
        have h2 := run_copy_rowK 2 wr.drew 136 136 ty 139 g (k * 2) (m - k) dc ⟨g, 0, none⟩ k sc ((repL x k m).flatMap pcC).toArray 139 ((List.replicate j x).flatMap pcC) Tryz.underlying136 HS2.out hb
          (by rw [pcC_fl, hj]; simp)
          (fun i v h => World.news_of_block (w := wr.drew) hb i v (by
            have hl : i < j * 2 := by have := (List.getElem?_eq_some_iff.1 h).1; rw [pcC_fl] at this; simpa using this
            rw [List.toList_toArray]
            unfold repL
            rw [List.flatMap_append, List.getElem?_append_left (by rw [pcC_fl, List.length_replicate]; omega), ← h]
            have e : List.replicate k x = List.replicate j x ++ List.replicate (k - j) x := by rw [List.replicate_append_replicate]; congr 1; omega
            rw [e, List.flatMap_append, List.getElem?_append_left (by rw [pcC_fl, List.length_replicate]; omega)]))
          (by rw [pcC_fl, List.size_toArray, pcC_fl, repL_len _ _ _ hk, List.length_replicate]; omega)
          (HO.out _)
        rw [hj, List.toList_toArray, repL_copy x k j m hj1.2.1, hw3] at h2
        exact h2
      have hb3 : w3.heap[g]? = some (.cells ((repL x (k + j) m).flatMap pcC).toArray 139 (0, 0)) := by rw [← hw3]; exact setRow_heap wr.drew g _ _ _ _ hb
      have HB3 := Lib.hid (show Below w.heap.size w w3 by rw [← hw3]; exact hB.drew.grown (setRow_grown wr.drew g _) hB.size (fun q hq => by injection hq with hq; have := HG.out; omega))
      have HB3' := Lib.hid hb3
      have HCP := Lib.hid hcp
      obtain ⟨hj2, hj3, hj4⟩ := hj1
      clear hw3 hb3 hcp hj hb hB
      have hmk : ¬ (m = k) := by omega
      have hwk : IntKind.i64.wrap ((k : Int) + (j : Int)) = ((k + j : Nat) : Int) := by rw [IntKind.wrap_i64]; omega
      go_wp2_with fail
      go_region_law (refine step_copy_runI (o := ⟨some 45, _, _, _, _, _⟩) rfl (.tmp 41) (.tmp 44) 136 136 rfl (.slice (some ⟨g, k * 2, none⟩) (m - k) (m - k)) (.slice (some ⟨g, 0, none⟩) k m) (by simp [Act.eval, Act.put]) (by simp [Act.eval, Act.put]) (HCP.out _ _ _) ?_)
      go_wp2_with fail
      go_roundw
      case rel =>
        go_simp
        exact ⟨k + j, by omega, by omega, by go_num, HB3'.out, HB3.out⟩
      case measure =>
        go_simp
        simp [intOf]; omega
    · obtain rfl : k = m := by omega
      have HH := Lib.hid hb
      have HHB := Lib.hid hB
      go_wp2_with fail
      go_ret
      refine ⟨g, rfl, ?_, HHB.out⟩
      have h := HH.out
      unfold repL at h
      rw [Nat.sub_self, List.replicate_zero, List.append_nil] at h
      exact h
end Go.Proofs.YtdefjnefkdemiaaGreatDoor
/- Plain: which pieces are free; pieces as rows. -/
set_option linter.unusedVariables false
namespace Go.Proofs.YtdefjnefkdemiaaGreatDoor
open Go.RowKit Go.Sort

theorem frS_skip (s : Array Pc) (A B j a : Nat) : ∀ (d : Nat), (∀ k, a ≤ k → k < a + d → selB A B s.size k = false) → frS s A B (a + d) j = frS s A B a j
  | 0, _ => rfl
  | d + 1, h => by
    rw [← Nat.add_assoc, frS, h (a + d) (by omega) (by omega), frS_skip s A B j a d fun k h1 h2 => h k h1 (by omega)]
    simp
theorem selB_no (A B len t i : Nat) (hB : 1 ≤ B) (hi : i < A) : selB A B len (t * (A + B) + i) = false := by
  have h : (t * (A + B) + i) % (A + B) = i := by rw [Nat.mul_add_mod', Nat.mod_eq_of_lt (by omega)]
  unfold selB
  rw [h, decide_eq_false (by omega)]
  rfl
theorem selB_yes (A B len t j : Nat) (hj : j < B) (hl : (t + 1) * (A + B) ≤ len) : selB A B len (t * (A + B) + (A + j)) = true := by
  have h : (t * (A + B) + (A + j)) % (A + B) = A + j := by rw [Nat.mul_add_mod', Nat.mod_eq_of_lt (by omega)]
  have h2 : (t * (A + B) + (A + j)) / (A + B) = t := by
    rw [Nat.mul_comm t, Nat.mul_add_div (by omega), Nat.div_eq_of_lt (by omega)]; rfl
  unfold selB
  rw [h, h2, decide_eq_true (by omega), decide_eq_true hl]
  rfl
theorem selB_end (A B len t k : Nat) (hS : 0 < A + B) (hl : len < (t + 1) * (A + B)) (hk : t * (A + B) ≤ k) : selB A B len k = false := by
  have h : t ≤ k / (A + B) := (Nat.le_div_iff_mul_le hS).2 hk
  have h2 : (t + 1) * (A + B) ≤ (k / (A + B) + 1) * (A + B) := Nat.mul_le_mul_right _ (by omega)
  unfold selB
  rw [decide_eq_false (p := (k / (A + B) + 1) * (A + B) ≤ len) (by omega), Bool.and_false]
theorem blk_at (x : Of) (li : List It) (left : List Nat) (k : Nat) (h : k < li.length) (h2 : k < left.length) : blkP x li left k = if mtB x li[k] = true then List.replicate li[k].many.toNat ((k : Int), ((left[k] / li[k].many.toNat : Nat) : Int)) else [] := by
  unfold blkP
  rw [List.getElem?_eq_getElem h]
  simp only [getD_lt _ _ h2]
theorem PrW.of_own {W : World} {b0 g m cap : Nat} {t : TypeId} {l : List Pc} (own : W.ownsRow b0 t 2 (.slice (some ⟨g, 0, none⟩) m cap) m (l.flatMap pcC)) (hm : l.length = m) : PrW W g l.toArray W := by
  have hlt := (own.lt g (by simp [Value.ownBlock])).2
  have hget : ∀ i (hi : i < l.length) j (hj : j < 2), W.cell? ⟨g, i * 2 + j, none⟩ = (pcC l[i])[j]? := by
    intro i hi j hj
    rw [own.cellAt (i * 2 + j) (by omega)]
    exact fm_get 2 pcC l (fun _ _ => rfl) i j hi hj
  refine ⟨hlt, grown_same _ _, fun i hi => ?_, fun i hi => ?_, fun i _ => own.frozenAt _, fun i _ => own.frozenAt _⟩
  · have hi' : i < l.length := by simpa using hi
    have := hget i hi' 0 (by omega)
    rw [getElem!_pos l.toArray i hi]
    exact this
  · have hi' : i < l.length := by simpa using hi
    have := hget i hi' 1 (by omega)
    rw [getElem!_pos l.toArray i hi]
    exact this
/-- block g holds the pieces s -/
structure PcC (w : World) (g : Nat) (s : Array Pc) : Prop where
  lt : g < w.heap.size
  c0 : ∀ i, i < s.size → w.cell? ⟨g, i * 2, none⟩ = some (.int .i64 s[i]!.1)
  c1 : ∀ i, i < s.size → w.cell? ⟨g, i * 2 + 1, none⟩ = some (.int .i64 s[i]!.2)
theorem PcC.of {w0 w : World} {g : Nat} {s : Array Pc} (h : PrW w0 g s w) : PcC w g s := ⟨h.gl, h.c0, h.c1⟩
theorem PcC.below {w w' : World} {g : Nat} {s : Array Pc} (h : PcC w g s) (hb : Below w.heap.size w w') : PcC w' g s :=
  ⟨Nat.lt_of_lt_of_le h.lt hb.size, fun i hi => (hb.cell (p := ⟨g, _, none⟩) h.lt).trans (h.c0 i hi), fun i hi => (hb.cell (p := ⟨g, _, none⟩) h.lt).trans (h.c1 i hi)⟩
theorem PcC.far {w : World} {g : Nat} {s : Array Pc} (h : PcC w g s) {p : Addr} (hp : g ≠ p.block) (u : Value) : PcC (w.setCell p u) g s :=
  ⟨by simpa [World.setCell] using h.lt, fun i hi => (World.cell?_of_block (a := ⟨g, i * 2, none⟩) (Below.heap_setCell w p u g hp)).trans (h.c0 i hi), fun i hi => (World.cell?_of_block (a := ⟨g, i * 2 + 1, none⟩) (Below.heap_setCell w p u g hp)).trans (h.c1 i hi)⟩
theorem PcC.drew {w : World} {g : Nat} {s : Array Pc} (h : PcC w g s) : PcC w.drew g s := ⟨h.lt, h.c0, h.c1⟩
theorem PcC.grown {w w' : World} {g : Nat} {s : Array Pc} {row : Option Nat} (h : PcC w g s) (hg : w.grownBy w' row) (hne : some g ≠ row) : PcC w' g s :=
  ⟨Nat.lt_of_lt_of_le h.lt hg.size, fun i hi => hg.cell (h.c0 i hi) hne, fun i hi => hg.cell (h.c1 i hi) hne⟩
theorem own_below {w w' : World} {b0 C n : Nat} {t : TypeId} {v : Value} {xs : List Value} (own : w.ownsRow b0 t C v n xs) (hb : Below w.heap.size w w') : w'.ownsRow b0 t C v n xs := by
  refine own.kept (grown_of_below hb none) ?_
  cases v.ownBlock with
  | none => exact .inl rfl
  | some q => exact .inr (by simp)
theorem own_form {w : World} {b0 C n : Nat} {t : TypeId} {v : Value} {xs : List Value} (own : w.ownsRow b0 t C v n xs) : ∃ a c, v = .slice a n c ∧ n ≤ c ∧ c ≤ maxLen := by
  rcases own.2 with ⟨e, h0⟩ | ⟨g, cap, cur, e, _, _, h1, h2, _⟩
  · exact ⟨none, 0, by rw [e, h0], by omega, Nat.zero_le _⟩
  · exact ⟨_, _, e, h1, h2⟩
theorem s3_below {w w' : World} {a b c : Addr} {x y z : Value} (h : Below w.heap.size w w') (k : w.cell? a = some x ∧ w.cell? b = some y ∧ w.cell? c = some z) : w'.cell? a = some x ∧ w'.cell? b = some y ∧ w'.cell? c = some z :=
  ⟨(h.cell (World.block_lt_of_cell? w _ k.1)).trans k.1, (h.cell (World.block_lt_of_cell? w _ k.2.1)).trans k.2.1, (h.cell (World.block_lt_of_cell? w _ k.2.2)).trans k.2.2⟩
theorem s3_grown {w w' : World} {a b c : Addr} {x y z : Value} {row : Option Nat} (h : w.grownBy w' row) (k : w.cell? a = some x ∧ w.cell? b = some y ∧ w.cell? c = some z) (ha : some a.block ≠ row) (hb : some b.block ≠ row) (hc : some c.block ≠ row) : w'.cell? a = some x ∧ w'.cell? b = some y ∧ w'.cell? c = some z :=
  ⟨h.cell k.1 ha, h.cell k.2.1 hb, h.cell k.2.2 hc⟩
/-- the row of what each line loses -/
def frV (s : Array Pc) (A B k j : Nat) : Value := .int .i64 ((frS s A B k j : Nat) : Int)
theorem frV_hit (s : Array Pc) (A B k it c : Nat) (hs : selB A B s.size k = true) (h1 : s[k]!.1 = (it : Int)) (h2 : s[k]!.2 = (c : Int)) (v : Nat) (hv : frS s A B k it = v) (j : Nat) :
    (if j = it then Value.int .i64 ((v + c : Nat) : Int) else frV s A B k j) = frV s A B (k + 1) j := by
  unfold frV
  rw [frS, hs, h1, h2, ← hv]
  by_cases e : j = it
  · subst e; simp
  · have e2 : ¬ (it : Int) = (j : Int) := by omega
    rw [if_neg e]
    simp [e2]
theorem freeN_row {w : World} {g n : Nat} {x : Of} {li : List It} {left : List Nat} (h : RowG w g n (frV (srtP x li left) x.a.toNat x.b.toNat (srtP x li left).size)) (hn : left.length = n) : natsAt w (some ⟨g, 0, none⟩) (freeN x li left) := by
  refine h.ints (by simp [freeN, hn]) fun j hj => ?_
  unfold frV freeN
  simp
def lenV : Value → Nat
  | .slice _ n _ => n
  | _ => 0
end Go.Proofs.YtdefjnefkdemiaaGreatDoor
/- slices.SortStableFunc at the pieces of handbill/offer.piece, the whole (printed by gen_stab.py). -/
set_option linter.unusedVariables false
namespace Go.Proofs.YtdefjnefkdemiaaGreatDoor
open Go.RowKit Go.Sort

set_option maxRecDepth 100000 in
set_option maxHeartbeats 8000000 in
theorem stabO (g n cap : Nat) (d : Array Pc) (w0 W : World) (h : PrW w0 g d W) (hn : d.size = n) (hn1 : n ≤ 100000) :
    Calls Tryz.prog 130 #[.slice (some ⟨g, 0, none⟩) n cap, .int .i64 n, .func (.func 115) #[] #[]] W fun e w' => e = .returned (.tuple #[]) ∧ PrW w0 g (stable ltP d) w' := by
  have HN := Lib.hid hn
  have HP := Lib.hid h
  have HST : Hid (stable ltP d = stM ltP (n + 1) 20 (stI ltP (n + 1) d 0 n) n) := Lib.hid (by unfold stable; rw [hn])
  rw [HST.out]
  clear HST
  obtain ⟨d1, hd1⟩ : ∃ d1, stI ltP (n + 1) d 0 n = d1 := ⟨_, rfl⟩
  rw [hd1]
  have HD1 := Lib.hid hd1
  have HD1S : Hid (d1.size = n) := Lib.hid (by rw [← hd1, size_stI, hn])
  obtain ⟨d2, hd2⟩ : ∃ d2, stM ltP (n + 1) 20 d1 n = d2 := ⟨_, rfl⟩
  rw [hd2]
  have HD2 := Lib.hid hd2
  clear hn h hd1 hd2
  go_enter Tryz.func130, Tryz.ntmps130
  go_wp2_with fail
  go_loopw [7, 8] (fun u v wr => ∃ (a b f : Nat) (d' : Array Pc), a ≤ n ∧ a + 20 = b ∧ n + 1 ≤ f + a ∧ u = .int .i64 a ∧ v = .int .i64 b ∧ d'.size = n ∧ stI ltP f d' a n = d1 ∧ PrW w0 g d' wr) (fun _ v _ => n + 1 - (intOf v).toNat)
  case atStart => exact ⟨0, 20, n + 1, d, Nat.zero_le _, rfl, by omega, rfl, rfl, HN.out, HD1.out, HP.out⟩
  case round =>
    obtain ⟨a, b, f, d', han, hab, hf, rfl, rfl, hd', hE, hP⟩ := hrel
    obtain ⟨f, rfl⟩ : ∃ f', f = f' + 1 := ⟨f - 1, by omega⟩
    have HD := Lib.hid hd'
    by_cases hlt : b ≤ n
    · have hE2 : stI ltP f (insertionSort ltP d' a b) b n = d1 := by
        rw [← hE, ← hab]
        exact (show stI ltP (f + 1) d' a n = _ by rw [stI, if_pos (by omega)]).symm
      have HE := Lib.hid hE2
      have C := Lib.hid (insO g n cap a b d' w0 _ hP hd' hn1 (by omega) hlt)
      clear hP hd' hE hE2
      go_wp2_with fail
      with_reducible refine C.out.mono ?_
      rintro e w2 ⟨rfl, hP2⟩
      have HP2 := Lib.hid hP2
      clear hP2 C
      go_wp2_with fail
      go_roundw
      case rel => exact ⟨b, b + 20, f, insertionSort ltP d' a b, hlt, rfl, by omega, rfl, by go_num, (size_ins _ _ _ _).trans HD.out, HE.out, HP2.out⟩
      case measure => simp [intOf]; omega
    · have hE2 : insertionSort ltP d' a n = d1 := by
        rw [← hE]
        exact (show stI ltP (f + 1) d' a n = _ by rw [stI, if_neg (by omega)]).symm
      have HE := Lib.hid hE2
      have C := Lib.hid (insO g n cap a n d' w0 _ hP hd' hn1 han (Nat.le_refl _))
      clear hP hd' hE hE2
      go_wp2_with fail
      with_reducible refine C.out.mono ?_
      rintro e w2 ⟨rfl, hP2⟩
      rw [HE.out] at hP2
      have HP2 := Lib.hid hP2
      clear hP2 C HE HD HD1 HP HN hf
      go_wp2_with fail
      go_loopw [6, 7, 8, 9] (fun z _ _ _ wr => ∃ (s f : Nat) (d' : Array Pc), 20 ≤ s ∧ n < f + s ∧ s ≤ 300000 ∧ z = .int .i64 s ∧ d'.size = n ∧ stM ltP f s d' n = d2 ∧ PrW w0 g d' wr) (fun z _ _ _ _ => n - (intOf z).toNat)
      case atStart => exact ⟨20, n + 1, d1, Nat.le_refl _, by omega, by omega, rfl, HD1S.out, HD2.out, HP2.out⟩
      case round =>
        obtain ⟨s, f, d', hs, hf, hs9, rfl, hd', hE, hP⟩ := hrel
        have HD := Lib.hid hd'
        have HPR := Lib.hid hP
        by_cases hlt : s < n
        · obtain ⟨f, rfl⟩ : ∃ f', f = f' + 1 := ⟨f - 1, by omega⟩
          obtain ⟨dp, hdp⟩ : ∃ dp, stP ltP (n + 1) s d' 0 n = dp := ⟨_, rfl⟩
          have hE2 : stM ltP f (2 * s) dp n = d2 := by
            rw [← hE, ← hdp]
            exact (show stM ltP (f + 1) s d' n = _ by rw [stM, if_pos hlt]).symm
          have HE0 := Lib.hid hE2
          have HDP := Lib.hid hdp
          have HDPS : Hid (dp.size = n) := Lib.hid (by rw [← hdp, size_stP, hd'])
          clear hP hd' hE hE2 hdp HP2
          have k2 : (2 : Int) * (s : Int) = ((2 * s : Nat) : Int) := by omega
          obtain ⟨s2, hs2⟩ : ∃ s2, 2 * s = s2 := ⟨_, rfl⟩
          rw [hs2] at k2
          have HS2 := Lib.hid hs2
          have hs20 : s + s = s2 := by omega
          clear hs2
          go_wp2_with fail
          go_loopw [7, 8] (fun u v wr => ∃ (a b f : Nat) (dq : Array Pc), a ≤ n ∧ a + s2 = b ∧ n < f + a ∧ u = .int .i64 a ∧ v = .int .i64 b ∧ dq.size = n ∧ stP ltP f s dq a n = dp ∧ PrW w0 g dq wr) (fun _ v _ => n + 1 - (intOf v).toNat)
          case atStart => exact ⟨0, s2, n + 1, d', Nat.zero_le _, by omega, by omega, rfl, by go_num, HD.out, HDP.out, HPR.out⟩
          case round =>
            obtain ⟨a, b, f2, dq, han, hab, hf2, rfl, rfl, hdq, hE, hP⟩ := hrel
            obtain ⟨f2, rfl⟩ : ∃ f', f2 = f' + 1 := ⟨f2 - 1, by omega⟩
            have HDQ := Lib.hid hdq
            have HPR := Lib.hid hP
            by_cases hbn : b ≤ n
            · have hE2 : stP ltP f2 s (symF ltP s2 dq a (a + s) b) b n = dp := by
                rw [← hE, ← hab, ← HS2.out]
                exact (show stP ltP (f2 + 1) s dq a n = _ by rw [stP, if_pos (by have := HS2.out; omega)]).symm
              have HE := Lib.hid hE2
              have C := Lib.hid (symO s2 g n cap a (a + s) b dq w0 _ hP hdq hn1 (by omega) (by omega) hbn (by omega))
              clear hP hdq hE hE2
              have k3 : (a : Int) + (s : Int) = ((a + s : Nat) : Int) := by omega
              have k4 : 0 ≤ a + s ∧ a + s ≤ 500000 := by omega
              generalize a + s = m at *
              go_wp2_with fail
              with_reducible refine C.out.mono ?_
              rintro e w2 ⟨rfl, hP2⟩
              have HP2 := Lib.hid hP2
              clear hP2 C
              go_wp2_with fail
              go_roundw
              case rel => exact ⟨b, b + s2, f2, symF ltP s2 dq a m b, hbn, rfl, by omega, rfl, by go_num, (size_symF _ _ _ _ _ _).trans HDQ.out, HE.out, HP2.out⟩
              case measure => simp [intOf]; omega
            · obtain ⟨m, hm⟩ : ∃ m, a + s = m := ⟨_, rfl⟩
              have k3 : (a : Int) + (s : Int) = (m : Int) := by omega
              by_cases hmn : m < n
              · have hE2 : symF ltP (n - a) dq a m n = dp := by
                  rw [← hE, ← hm]
                  exact (show stP ltP (f2 + 1) s dq a n = _ by rw [stP, if_neg (by omega), if_pos (by omega)]).symm
                have HE := Lib.hid hE2
                have C := Lib.hid (symO (n - a) g n cap a m n dq w0 _ hP hdq hn1 (by omega) hmn (Nat.le_refl _) (Nat.le_refl _))
                clear hP hdq hE hE2
                go_wp2_with fail
                with_reducible refine C.out.mono ?_
                rintro e w2 ⟨rfl, hP2⟩
                rw [HE.out] at hP2
                have HP2 := Lib.hid hP2
                clear hP2 C
                go_wp2_with fail
                go_roundw
                case rel => exact ⟨s2, f, dp, by omega, by omega, by omega, by go_num, HDPS.out, by rw [← HS2.out]; exact HE0.out, HP2.out⟩
                case measure => simp [intOf]; omega
              · have hE2 : dq = dp := by
                  rw [← hE]
                  exact (show stP ltP (f2 + 1) s dq a n = _ by rw [stP, if_neg (by omega), if_neg (by omega)]).symm
                clear hP hdq hE
                subst hE2
                go_wp2_with fail
                go_roundw
                case rel => exact ⟨s2, f, dq, by omega, by omega, by omega, by go_num, HDPS.out, by rw [← HS2.out]; exact HE0.out, HPR.out⟩
                case measure => simp [intOf]; omega
        · have hE2 : d' = d2 := by
            rw [← hE]
            cases f with
            | zero => rfl
            | succ f => rw [stM, if_neg hlt]
          clear hE hP hd'
          subst hE2
          go_wp2_with fail
          go_end0
          exact ⟨rfl, HPR.out⟩
set_option maxHeartbeats 4000000 in
theorem stbO (g n cap : Nat) (d : Array Pc) (w0 W : World) (h : PrW w0 g d W) (hn : d.size = n) (hn1 : n ≤ 100000) :
    Calls Tryz.prog 114 #[.slice (some ⟨g, 0, none⟩) n cap, .func (.func 115) #[] #[]] W fun e w' => e = .returned (.tuple #[]) ∧ PrW w0 g (stable ltP d) w' := by
  have C := Lib.hid (stabO g n cap d w0 W h hn hn1)
  clear h hn
  go_enter Tryz.func114, Tryz.ntmps114
  go_wp2_with fail
  with_reducible refine C.out.mono ?_
  rintro e w2 ⟨rfl, hP2⟩
  have HP2 := Lib.hid hP2
  clear hP2 C
  go_wp2_with fail
  go_end0
  exact ⟨rfl, HP2.out⟩
/-- no pieces -/
theorem insNO (W : World) :
    Calls Tryz.prog 139 #[.slice none 0 0, .int .i64 0, .int .i64 0, .func (.func 115) #[] #[]] W fun e w' => e = .returned (.tuple #[]) ∧ W = w' := by
  go_enter Tryz.func139, Tryz.ntmps139
  go_wp2_with fail
  go_loopw [8, 9] (fun u _ wr => u = .int .i64 1 ∧ W = wr) (fun u _ _ => 0)
  case atStart => exact ⟨by go_num, rfl⟩
  case round =>
    obtain ⟨rfl, rfl⟩ := hrel
    go_wp2_with fail
    go_end0
    exact ⟨rfl, rfl⟩
theorem stabNO (W : World) :
    Calls Tryz.prog 130 #[.slice none 0 0, .int .i64 0, .func (.func 115) #[] #[]] W fun e w' => e = .returned (.tuple #[]) ∧ W = w' := by
  go_enter Tryz.func130, Tryz.ntmps130
  go_wp2_with fail
  go_loopw [7, 8] (fun u v wr => u = .int .i64 0 ∧ v = .int .i64 20 ∧ W = wr) (fun _ _ _ => 0)
  case atStart => exact ⟨rfl, rfl, rfl⟩
  case round =>
    obtain ⟨rfl, rfl, rfl⟩ := hrel
    go_wp2_with fail
    with_reducible refine (insNO _).mono ?_
    rintro e w2 ⟨rfl, rfl⟩
    go_wp2_with fail
    go_loopw [6, 7, 8, 9] (fun z _ _ _ wr => z = .int .i64 20 ∧ W = wr) (fun _ _ _ _ _ => 0)
    case atStart => exact ⟨rfl, rfl⟩
    case round =>
      obtain ⟨rfl, rfl⟩ := hrel
      go_wp2_with fail
      go_end0
      exact ⟨rfl, rfl⟩
theorem stbNO (W : World) :
    Calls Tryz.prog 114 #[.slice none 0 0, .func (.func 115) #[] #[]] W fun e w' => e = .returned (.tuple #[]) ∧ W = w' := by
  go_enter Tryz.func114, Tryz.ntmps114
  go_wp2_with fail
  with_reducible refine (stabNO _).mono ?_
  rintro e w2 ⟨rfl, rfl⟩
  go_wp2_with fail
  go_end0
  exact ⟨rfl, rfl⟩
end Go.Proofs.YtdefjnefkdemiaaGreatDoor
/- offer.pricer's amount (printed by gen_perc.py). -/
set_option linter.unusedVariables false
namespace Go.Proofs.YtdefjnefkdemiaaGreatDoor
open Go.RowKit

set_option maxRecDepth 100000 in
set_option maxHeartbeats 8000000 in
theorem amount_any (x : Of) (q : Nat) (ai : Option Addr) (li : List It) (n ci : Nat) (sh0 : Int) (la : Option Addr) (left : List Nat) (cl sh : Nat) (w : World)
    (hx : x.ok) (hxb : ofB x = true) (hxk : x.kind = 2) (hxt : StrsAt w x.tv x.tags) (hQ : XB w q [.slice ai n ci, .int .i64 sh0, .slice la n cl, .int .i64 (sh : Nat)])
    (hni : li.length = n) (hn : left.length = n) (hn1 : n < 20) (hI : RAt w ai 4 It.cells li) (hTG : TagsAt It.tv It.tags w li) (hok : ∀ y ∈ li, y.ok) (hL : natsAt w la left) (hb : ∀ z ∈ left, z ≤ 1000000000) :
    Calls Tryz.prog 84 #[.pointer (some ⟨q, 0, none⟩), .agg x.cells.toArray] w fun e w' => ∃ a' c', e = .returned (.slice a' n c') ∧ natsAt w' a' (amtN x li left) ∧ Below w.heap.size w w' := by
  obtain ⟨i0, hi, hz0, hz1, hz2⟩ := info_parts infoP_int
  have HN := Lib.hid hn
  have HNI := Lib.hid hni
  have HI := Lib.hid hI
  have HL := Lib.hid hL
  have HBL := Lib.hid hb
  have HM := Lib.hid (fun y w' (h1 : y ∈ li) (hbl : Below w.heap.size w w') => matchesX_any x y w' (by have := hx.2.2.2.2.2.2.2.1; omega) (by have := (hok y h1).2.2.2.2.2.1; omega) (hxt.below hbl) ((hTG y h1).below hbl))
  obtain ⟨a0, a1, a2, a3, m0, m1⟩ := ofB_kd hxb
  replace a2 := a2
  clear a3
  obtain ⟨f, hf⟩ : ∃ f : Nat → Nat, f = fun i => if hitB x li i = true then left.getD i 0 else 0 := ⟨_, rfl⟩
  have HF : Hid (∀ k (h : k < li.length) (h2 : k < left.length), f k = if mtB x li[k] = true then left[k] else 0) := Lib.hid (by
    intro k h h2
    rw [hf]
    simp only
    rw [hitB_at x li k h, getD_lt _ _ h2])
  have HV : Hid (ownN x li left = (List.range n).map f) := Lib.hid (by rw [hf, ← hn]; rfl)
  have HLE := Lib.hid (ownN_le x li left)
  obtain ⟨k0, kd, ia, ib, tv, tc, tags, le, mo, gr, al, od, fr, t2⟩ := x
  simp only at hxk
  subst hxk
  simp only at HM HF HV a0 a1 a2 m0 m1 ⊢
  obtain ⟨A, rfl⟩ : ∃ A : Nat, ia = A := ⟨ia.toNat, by omega⟩
  obtain ⟨M, rfl⟩ : ∃ M : Nat, mo = M := ⟨mo.toNat, by omega⟩
  try simp only [Int.toNat_natCast] at HF
  try simp only [Int.toNat_natCast] at HV
  try simp only [Int.toNat_natCast]
  rw [show (Of.cells ⟨k0, 2, A, ib, tv, tc, tags, le, M, gr, al, od, fr, t2⟩).toArray = #[.string k0, .int .i64 2, .int .i64 (A : Nat), .int .i64 ib, .slice tv tags.length tc, .int .i64 le, .int .i64 (M : Nat), .string gr, .bool al, .int .i64 od, .int .i64 fr, .int .i64 t2] from rfl]
  rw [show (⟨k0, 2, A, ib, tv, tc, tags, le, M, gr, al, od, fr, t2⟩ : Of) = ⟨k0, 2, A, ib, tv, tc, tags, le, M, gr, al, od, fr, t2⟩ from rfl] at *
  have HX0 := Lib.hid (XB.new w [.string k0, .int .i64 2, .int .i64 (A : Nat), .int .i64 ib, .slice tv tags.length tc, .int .i64 le, .int .i64 (M : Nat), .string gr, .bool al, .int .i64 od, .int .i64 fr, .int .i64 t2] 37)
  have HB0 := Lib.hid ((Below.refl w.heap.size w).alloc (Nat.le_refl _) (.cells #[.string k0, .int .i64 2, .int .i64 (A : Nat), .int .i64 ib, .slice tv tags.length tc, .int .i64 le, .int .i64 (M : Nat), .string gr, .bool al, .int .i64 od, .int .i64 fr, .int .i64 t2] 37))
  have HQ0 := Lib.hid (hQ.alloc (.cells #[.string k0, .int .i64 2, .int .i64 (A : Nat), .int .i64 ib, .slice tv tags.length tc, .int .i64 le, .int .i64 (M : Nat), .string gr, .bool al, .int .i64 od, .int .i64 fr, .int .i64 t2] 37))
  have hqw := hQ.1
  simp only [List.toArray] at HX0
  have hz : (w.alloc (.cells #[.string k0, .int .i64 2, .int .i64 (A : Nat), .int .i64 ib, .slice tv tags.length tc, .int .i64 le, .int .i64 (M : Nat), .string gr, .bool al, .int .i64 od, .int .i64 fr, .int .i64 t2] 37)).heap.size = w.heap.size + 1 := by simp
  clear hni hn hI hTG hok hb hx hxt hf hQ hL hxb
  go_enter Tryz.func84, Tryz.ntmps84
  go_upto_region 1 with (fail)
  generalize (w.alloc (.cells #[.string k0, .int .i64 2, .int .i64 (A : Nat), .int .i64 ib, .slice tv tags.length tc, .int .i64 le, .int .i64 (M : Nat), .string gr, .bool al, .int .i64 od, .int .i64 fr, .int .i64 t2] 37)) = w1 at *
  obtain ⟨z0, z1, z2, z3⟩ := HQ0.out.at_pr
  have hzl := HQ0.out.1
  go_wp2_with (refine wpList_make_row _ rfl _ _ 22 rfl 3 i0 (.int .i64 0) Tryz.underlying22 hi hz0 hz1 rfl n rfl rfl ?c1 ?c2 ?_)
  case c1 => rw [hz2]; omega
  case c2 => unfold maxLen; omega
  intro w2 R2 g2 s2
  have hB2 := HB0.out.grown g2 (by omega) (by simp)
  have hX2 := HX0.out.grown g2 (by simp)
  have hQ2 := HQ0.out.grown g2 (by simp)
  try rw [hz] at R2
  have HR2 := Lib.hid (R2.congr (f' := upF f 0) fun j _ => by simp [upF])
  have HB2 := Lib.hid hB2
  have HX2 := Lib.hid hX2
  have HQ2 := Lib.hid hQ2
  have hsz : w2.heap.size = w.heap.size + 2 := by omega
  clear z0 z1 z2 z3 hzl R2 hB2 hX2 hQ2 HB0 HX0 HQ0 g2 s2
  obtain ⟨z0, z1, z2, z3⟩ := HQ2.out.at_pr
  have hzl := HQ2.out.1
  go_wp2_with fail
  clear z0 z1 z2 z3 hzl hz
  go_loopw [6, 7, 8, 21] (fun a1 _ _ i wr => ∃ k : Nat, k ≤ n ∧ i = .int .i64 k ∧ (∃ s : Nat, a1 = .int .i64 (s : Int) ∧ s = ((List.range k).map f).sum ∧ s ≤ k * 1000000000) ∧ RowG wr (w.heap.size + 1) n (upF f k) ∧ XB wr w.heap.size [.string k0, .int .i64 2, .int .i64 (A : Nat), .int .i64 ib, .slice tv tags.length tc, .int .i64 le, .int .i64 (M : Nat), .string gr, .bool al, .int .i64 od, .int .i64 fr, .int .i64 t2] ∧ XB wr q [.slice ai n ci, .int .i64 sh0, .slice la n cl, .int .i64 (sh : Nat)] ∧ Below w.heap.size w wr) (fun _ _ _ i _ => n - (intOf i).toNat)
  case atStart => exact ⟨0, Nat.zero_le _, rfl, ⟨0, rfl, rfl, by omega⟩, HR2.out, HX2.out, HQ2.out, HB2.out⟩
  case round =>
    obtain ⟨k, hk, rfl, ⟨s, rfl, hs, hsb⟩, hR, hX, hQ, hB⟩ := hrel
    clear HR2 HX2 HQ2 HB2 hsz
    have HR := Lib.hid hR
    have HX := Lib.hid hX
    have HQ := Lib.hid hQ
    have HB := Lib.hid hB
    by_cases hlt : k < n
    · have hkl : k < li.length := by have := HNI.out; omega
      have hkz : k < left.length := by have := HN.out; omega
      obtain ⟨p, off, rfl, hp, hcell⟩ := HL.out.at_ hkz
      have hcell2 := (hB.cell (p := ⟨p, off + k, none⟩) hp).trans hcell
      obtain ⟨p2, off2, rfl, hp2, y0, y1, y2, y3⟩ := (HI.out.below hB).at4 hkl (v0 := .string li[k].key) (v1 := .int .i64 li[k].cents) (v2 := .int .i64 li[k].many) (v3 := .slice li[k].tv li[k].tags.length li[k].tc) rfl
      have b1 := HBL.out left[k] (List.getElem_mem hkz)
      have HFK := Lib.hid (HF.out k hkl hkz)
      have C := Lib.hid (fun w' hbl => HM.out li[k] w' (List.getElem_mem hkl) hbl)
      have HS := Lib.hid hs
      clear hs
      generalize left[k] = z at *
      generalize mtB ⟨k0, 2, A, ib, tv, tc, tags, le, M, gr, al, od, fr, t2⟩ li[k] = mt at *
      generalize li[k] = y at *
      obtain ⟨yk, yc, ym, yv, ytc, yt⟩ := y
      simp only at y0 y1 y2 y3 C
      clear hR hX hQ hcell
      obtain ⟨x0, x1, x2, x3, x4, x5, x6, x7, x8, x9, x10, x11⟩ := HX.out.at12
      have hxl := HX.out.1
      obtain ⟨z0, z1, z2, z3⟩ := HQ.out.at_pr
      have hzl := HQ.out.1
      have hkc : (k : Int) < (n : Int) := by omega
      go_upto_region 5 with (fail)
      go_still_tail 9, (by kernel_rfl)
      change wpList _ _ _ _ _ wr.drew
      have hB5 := hB.drew
      have HR5 := Lib.hid HR.out.drew
      have HX5 := Lib.hid HX.out.drew
      have HQ5 := Lib.hid HQ.out.drew
      have HB5 := Lib.hid hB5
      clear x0 x1 x2 x3 x4 x5 x6 x7 x8 x9 x10 x11 z0 z1 z2 z3 hxl hzl y0 y1 y2 y3 hB hB5 HR HX HQ HB
      generalize wr.drew = w5 at *
      go_wp2_with fail
      with_reducible refine (C.out _ HB5.out).mono ?_
      rintro e w6 ⟨rfl, d6⟩
      have HR6 := Lib.hid (HR5.out.below d6)
      have HX6 := Lib.hid (HX5.out.below d6)
      have HQ6 := Lib.hid (HQ5.out.below d6)
      have HB6 := Lib.hid (HB5.out.trans (d6.mono HB5.out.size))
      clear d6 HR5 HX5 HQ5 HB5 C
      cases mt with
      | true =>
        have c1 := HR6.out.cell k hlt
        have f1 := HR6.out.free k hlt
        have hq1 : f k = z := HFK.out.trans (if_pos rfl)
        have HQ1 := Lib.hid hq1
        clear hq1
        obtain ⟨x0, x1, x2, x3, x4, x5, x6, x7, x8, x9, x10, x11⟩ := HX6.out.at12
        have hxl := HX6.out.1
        generalize upF f k k = o1 at *
        go_wp2_with fail
        go_roundw
        case rel =>
          refine ⟨k + 1, by omega, by go_num, ⟨s + z, by go_num, by rw [sum_rs, HQ1.out, ← HS.out], by omega⟩, ?_, ?_, ?_, ?_⟩
          · exact (HR6.out.set k hlt _).congr (fun j _ => upF_succ f k j _ HQ1.out)
          · exact HX6.out.grown (grown_set (grown_same w6 (some (w.heap.size + 1))) (p := ⟨w.heap.size + 1, k, none⟩) (.inl rfl) _) (by simp)
          · exact HQ6.out.grown (grown_set (grown_same w6 (some (w.heap.size + 1))) (p := ⟨w.heap.size + 1, k, none⟩) (.inl rfl) _) (by simp; omega)
          · exact HB6.out.setCell (by simp) _
        case measure => simp [intOf]; omega
      | false =>
        have hq1 : f k = 0 := HFK.out.trans (if_neg (by simp))
        have HQ1 := Lib.hid hq1
        clear hq1
        go_wp2_with fail
        go_roundw
        case rel => exact ⟨k + 1, by omega, by go_num, ⟨s, rfl, by have h1 := sum_rs f k; have h2 := HQ1.out; have h3 := HS.out; omega, Nat.le_trans hsb (Nat.mul_le_mul_right _ (Nat.le_succ k))⟩, HR6.out.congr (fun j _ => upF_skip f k j HQ1.out), HX6.out, HQ6.out, HB6.out⟩
        case measure => simp [intOf]; omega
    · obtain rfl : k = n := by omega
      have HV2 := Lib.hid hR.upF
      rw [← HV.out] at HV2
      obtain ⟨x0, x1, x2, x3, x4, x5, x6, x7, x8, x9, x10, x11⟩ := HX.out.at12
      have hxl := HX.out.1
      have hS : (ownN ⟨k0, 2, A, ib, tv, tc, tags, le, M, gr, al, od, fr, t2⟩ li left).sum = s := by rw [HV.out]; exact hs.symm
      have HSS := Lib.hid hS
      have HRS : Hid (amtN ⟨k0, 2, A, ib, tv, tc, tags, le, M, gr, al, od, fr, t2⟩ li left = if s = 0 then ownN ⟨k0, 2, A, ib, tv, tc, tags, le, M, gr, al, od, fr, t2⟩ li left else dealN (capN M (min A s)) (ownN ⟨k0, 2, A, ib, tv, tc, tags, le, M, gr, al, od, fr, t2⟩ li left)) := Lib.hid (by unfold amtN; rw [hS]; rfl)
      clear hs hS hR hX hQ
      obtain ⟨T, hT⟩ : ∃ T, min A s = T := ⟨_, rfl⟩
      have hTT : min (A : Int) (s : Int) = (T : Int) := by omega
      have hT9 : T ≤ s := by omega
      rw [hT] at HRS
      clear hT
      go_upto_if 50 with (fail)
      go_cut [9] (fun u wx => u = .int .i64 (capN M T : Nat) ∧ wx = wr)
      case first =>
        by_cases hM0 : M = 0
        · subst hM0
          have hc : capN 0 T = T := by unfold capN; rw [if_pos rfl]
          go_wp2_with fail
          go_meet
          exact ⟨by rw [hc], rfl⟩
        · have e0 : ((M : Int) == 0) = false := by simp; omega
          have e1 : ((M : Int) != 0) = true := by simp; omega
          have hc : ((capN M T : Nat) : Int) = min (T : Int) (M : Int) := by unfold capN; rw [if_neg hM0]; omega
          go_wp2_with fail
          go_meet
          exact ⟨by rw [hc], rfl⟩
      case rest =>
      obtain ⟨rfl, rfl⟩ := hcut
      have hcn := capN_le M T
      generalize capN M T = C9 at *
      clear hTT
      by_cases hs0 : s = 0
      · subst hs0
        have hr := HRS.out
        rw [if_pos rfl] at hr
        have HRR := Lib.hid hr
        clear hr HRS
        go_wp2_with fail
        go_ret
        exact ⟨_, _, rfl, by rw [HRR.out]; exact HV2.out, hB⟩
      · have e0 : ((s : Int) == 0) = false := by simp; omega
        have hr := HRS.out
        rw [if_neg hs0] at hr
        have HRR := Lib.hid hr
        clear hr HRS
        have hk0 : 0 < k := by
          rcases Nat.eq_zero_or_pos k with h0 | h0
          · have h1 := List.eq_nil_of_length_eq_zero (show (ownN ⟨k0, 2, A, ib, tv, tc, tags, le, M, gr, al, od, fr, t2⟩ li left).length = 0 by rw [HV.out, h0]; rfl)
            have h2 := HSS.out
            rw [h1] at h2
            simp at h2
            omega
          · exact h0
        have C := Lib.hid (share_any C9 (some ⟨w.heap.size + 1, 0, none⟩) (ownN ⟨k0, 2, A, ib, tv, tc, tags, le, M, gr, al, od, fr, t2⟩ li left) k k _ (by omega) (HLE.out.1.trans HN.out) hk0 hn1 HV2.out (fun z hz => by
          obtain ⟨j, hj, rfl⟩ := List.mem_iff_getElem.1 hz
          have h1 := HLE.out.2 j
          rw [getD_lt _ _ hj] at h1
          have hj2 : j < left.length := by rw [← HLE.out.1]; exact hj
          rw [getD_lt _ _ hj2] at h1
          have := HBL.out _ (List.getElem_mem hj2)
          omega) (by rw [HSS.out]; omega) (by rw [HSS.out]; omega))
        have HB := Lib.hid hB
        clear hk0 hB
        go_wp2_with fail
        with_reducible refine C.out.mono ?_
        rintro e w6 ⟨g6, c6, rfl, hI6, d6⟩
        have HI6 := Lib.hid hI6
        have HB6 := Lib.hid (HB.out.trans (d6.mono HB.out.size))
        clear hI6 d6 C
        go_wp2_with fail
        go_ret
        exact ⟨_, _, rfl, by rw [HRR.out]; unfold natsAt; rw [← dealL_N]; exact HI6.out, HB6.out⟩
end Go.Proofs.YtdefjnefkdemiaaGreatDoor
/- slices.SortStableFunc at the pieces of handbill/handref1.piece, the whole (printed by gen_stab.py). -/
set_option linter.unusedVariables false
namespace Go.Proofs.YtdefjnefkdemiaaGreatDoor
open Go.RowKit Go.Sort

set_option maxRecDepth 100000 in
set_option maxHeartbeats 8000000 in
theorem stabR (g n cap : Nat) (d : Array Pc) (w0 W : World) (h : PrW w0 g d W) (hn : d.size = n) (hn1 : n ≤ 100000) :
    Calls Tryz.prog 124 #[.slice (some ⟨g, 0, none⟩) n cap, .int .i64 n, .func (.func 102) #[] #[]] W fun e w' => e = .returned (.tuple #[]) ∧ PrW w0 g (stable ltP d) w' := by
  have HN := Lib.hid hn
  have HP := Lib.hid h
  have HST : Hid (stable ltP d = stM ltP (n + 1) 20 (stI ltP (n + 1) d 0 n) n) := Lib.hid (by unfold stable; rw [hn])
  rw [HST.out]
  clear HST
  obtain ⟨d1, hd1⟩ : ∃ d1, stI ltP (n + 1) d 0 n = d1 := ⟨_, rfl⟩
  rw [hd1]
  have HD1 := Lib.hid hd1
  have HD1S : Hid (d1.size = n) := Lib.hid (by rw [← hd1, size_stI, hn])
  obtain ⟨d2, hd2⟩ : ∃ d2, stM ltP (n + 1) 20 d1 n = d2 := ⟨_, rfl⟩
  rw [hd2]
  have HD2 := Lib.hid hd2
  clear hn h hd1 hd2
  go_enter Tryz.func124, Tryz.ntmps124
  go_wp2_with fail
  go_loopw [7, 8] (fun u v wr => ∃ (a b f : Nat) (d' : Array Pc), a ≤ n ∧ a + 20 = b ∧ n + 1 ≤ f + a ∧ u = .int .i64 a ∧ v = .int .i64 b ∧ d'.size = n ∧ stI ltP f d' a n = d1 ∧ PrW w0 g d' wr) (fun _ v _ => n + 1 - (intOf v).toNat)
  case atStart => exact ⟨0, 20, n + 1, d, Nat.zero_le _, rfl, by omega, rfl, rfl, HN.out, HD1.out, HP.out⟩
  case round =>
    obtain ⟨a, b, f, d', han, hab, hf, rfl, rfl, hd', hE, hP⟩ := hrel
    obtain ⟨f, rfl⟩ : ∃ f', f = f' + 1 := ⟨f - 1, by omega⟩
    have HD := Lib.hid hd'
    by_cases hlt : b ≤ n
    · have hE2 : stI ltP f (insertionSort ltP d' a b) b n = d1 := by
        rw [← hE, ← hab]
        exact (show stI ltP (f + 1) d' a n = _ by rw [stI, if_pos (by omega)]).symm
      have HE := Lib.hid hE2
      have C := Lib.hid (insR g n cap a b d' w0 _ hP hd' hn1 (by omega) hlt)
      clear hP hd' hE hE2
      go_wp2_with fail
      with_reducible refine C.out.mono ?_
      rintro e w2 ⟨rfl, hP2⟩
      have HP2 := Lib.hid hP2
      clear hP2 C
      go_wp2_with fail
      go_roundw
      case rel => exact ⟨b, b + 20, f, insertionSort ltP d' a b, hlt, rfl, by omega, rfl, by go_num, (size_ins _ _ _ _).trans HD.out, HE.out, HP2.out⟩
      case measure => simp [intOf]; omega
    · have hE2 : insertionSort ltP d' a n = d1 := by
        rw [← hE]
        exact (show stI ltP (f + 1) d' a n = _ by rw [stI, if_neg (by omega)]).symm
      have HE := Lib.hid hE2
      have C := Lib.hid (insR g n cap a n d' w0 _ hP hd' hn1 han (Nat.le_refl _))
      clear hP hd' hE hE2
      go_wp2_with fail
      with_reducible refine C.out.mono ?_
      rintro e w2 ⟨rfl, hP2⟩
      rw [HE.out] at hP2
      have HP2 := Lib.hid hP2
      clear hP2 C HE HD HD1 HP HN hf
      go_wp2_with fail
      go_loopw [6, 7, 8, 9] (fun z _ _ _ wr => ∃ (s f : Nat) (d' : Array Pc), 20 ≤ s ∧ n < f + s ∧ s ≤ 300000 ∧ z = .int .i64 s ∧ d'.size = n ∧ stM ltP f s d' n = d2 ∧ PrW w0 g d' wr) (fun z _ _ _ _ => n - (intOf z).toNat)
      case atStart => exact ⟨20, n + 1, d1, Nat.le_refl _, by omega, by omega, rfl, HD1S.out, HD2.out, HP2.out⟩
      case round =>
        obtain ⟨s, f, d', hs, hf, hs9, rfl, hd', hE, hP⟩ := hrel
        have HD := Lib.hid hd'
        have HPR := Lib.hid hP
        by_cases hlt : s < n
        · obtain ⟨f, rfl⟩ : ∃ f', f = f' + 1 := ⟨f - 1, by omega⟩
          obtain ⟨dp, hdp⟩ : ∃ dp, stP ltP (n + 1) s d' 0 n = dp := ⟨_, rfl⟩
          have hE2 : stM ltP f (2 * s) dp n = d2 := by
            rw [← hE, ← hdp]
            exact (show stM ltP (f + 1) s d' n = _ by rw [stM, if_pos hlt]).symm
          have HE0 := Lib.hid hE2
          have HDP := Lib.hid hdp
          have HDPS : Hid (dp.size = n) := Lib.hid (by rw [← hdp, size_stP, hd'])
          clear hP hd' hE hE2 hdp HP2
          have k2 : (2 : Int) * (s : Int) = ((2 * s : Nat) : Int) := by omega
          obtain ⟨s2, hs2⟩ : ∃ s2, 2 * s = s2 := ⟨_, rfl⟩
          rw [hs2] at k2
          have HS2 := Lib.hid hs2
          have hs20 : s + s = s2 := by omega
          clear hs2
          go_wp2_with fail
          go_loopw [7, 8] (fun u v wr => ∃ (a b f : Nat) (dq : Array Pc), a ≤ n ∧ a + s2 = b ∧ n < f + a ∧ u = .int .i64 a ∧ v = .int .i64 b ∧ dq.size = n ∧ stP ltP f s dq a n = dp ∧ PrW w0 g dq wr) (fun _ v _ => n + 1 - (intOf v).toNat)
          case atStart => exact ⟨0, s2, n + 1, d', Nat.zero_le _, by omega, by omega, rfl, by go_num, HD.out, HDP.out, HPR.out⟩
          case round =>
            obtain ⟨a, b, f2, dq, han, hab, hf2, rfl, rfl, hdq, hE, hP⟩ := hrel
            obtain ⟨f2, rfl⟩ : ∃ f', f2 = f' + 1 := ⟨f2 - 1, by omega⟩
            have HDQ := Lib.hid hdq
            have HPR := Lib.hid hP
            by_cases hbn : b ≤ n
            · have hE2 : stP ltP f2 s (symF ltP s2 dq a (a + s) b) b n = dp := by
                rw [← hE, ← hab, ← HS2.out]
                exact (show stP ltP (f2 + 1) s dq a n = _ by rw [stP, if_pos (by have := HS2.out; omega)]).symm
              have HE := Lib.hid hE2
              have C := Lib.hid (symR s2 g n cap a (a + s) b dq w0 _ hP hdq hn1 (by omega) (by omega) hbn (by omega))
              clear hP hdq hE hE2
              have k3 : (a : Int) + (s : Int) = ((a + s : Nat) : Int) := by omega
              have k4 : 0 ≤ a + s ∧ a + s ≤ 500000 := by omega
              generalize a + s = m at *
              go_wp2_with fail
              with_reducible refine C.out.mono ?_
              rintro e w2 ⟨rfl, hP2⟩
              have HP2 := Lib.hid hP2
              clear hP2 C
              go_wp2_with fail
              go_roundw
              case rel => exact ⟨b, b + s2, f2, symF ltP s2 dq a m b, hbn, rfl, by omega, rfl, by go_num, (size_symF _ _ _ _ _ _).trans HDQ.out, HE.out, HP2.out⟩
              case measure => simp [intOf]; omega
            · obtain ⟨m, hm⟩ : ∃ m, a + s = m := ⟨_, rfl⟩
              have k3 : (a : Int) + (s : Int) = (m : Int) := by omega
              by_cases hmn : m < n
              · have hE2 : symF ltP (n - a) dq a m n = dp := by
                  rw [← hE, ← hm]
                  exact (show stP ltP (f2 + 1) s dq a n = _ by rw [stP, if_neg (by omega), if_pos (by omega)]).symm
                have HE := Lib.hid hE2
                have C := Lib.hid (symR (n - a) g n cap a m n dq w0 _ hP hdq hn1 (by omega) hmn (Nat.le_refl _) (Nat.le_refl _))
                clear hP hdq hE hE2
                go_wp2_with fail
                with_reducible refine C.out.mono ?_
                rintro e w2 ⟨rfl, hP2⟩
                rw [HE.out] at hP2
                have HP2 := Lib.hid hP2
                clear hP2 C
                go_wp2_with fail
                go_roundw
                case rel => exact ⟨s2, f, dp, by omega, by omega, by omega, by go_num, HDPS.out, by rw [← HS2.out]; exact HE0.out, HP2.out⟩
                case measure => simp [intOf]; omega
              · have hE2 : dq = dp := by
                  rw [← hE]
                  exact (show stP ltP (f2 + 1) s dq a n = _ by rw [stP, if_neg (by omega), if_neg (by omega)]).symm
                clear hP hdq hE
                subst hE2
                go_wp2_with fail
                go_roundw
                case rel => exact ⟨s2, f, dq, by omega, by omega, by omega, by go_num, HDPS.out, by rw [← HS2.out]; exact HE0.out, HPR.out⟩
                case measure => simp [intOf]; omega
        · have hE2 : d' = d2 := by
            rw [← hE]
            cases f with
            | zero => rfl
            | succ f => rw [stM, if_neg hlt]
          clear hE hP hd'
          subst hE2
          go_wp2_with fail
          go_end0
          exact ⟨rfl, HPR.out⟩
set_option maxHeartbeats 4000000 in
theorem stbR (g n cap : Nat) (d : Array Pc) (w0 W : World) (h : PrW w0 g d W) (hn : d.size = n) (hn1 : n ≤ 100000) :
    Calls Tryz.prog 101 #[.slice (some ⟨g, 0, none⟩) n cap, .func (.func 102) #[] #[]] W fun e w' => e = .returned (.tuple #[]) ∧ PrW w0 g (stable ltP d) w' := by
  have C := Lib.hid (stabR g n cap d w0 W h hn hn1)
  clear h hn
  go_enter Tryz.func101, Tryz.ntmps101
  go_wp2_with fail
  with_reducible refine C.out.mono ?_
  rintro e w2 ⟨rfl, hP2⟩
  have HP2 := Lib.hid hP2
  clear hP2 C
  go_wp2_with fail
  go_end0
  exact ⟨rfl, HP2.out⟩
/-- no pieces -/
theorem insNR (W : World) :
    Calls Tryz.prog 133 #[.slice none 0 0, .int .i64 0, .int .i64 0, .func (.func 102) #[] #[]] W fun e w' => e = .returned (.tuple #[]) ∧ W = w' := by
  go_enter Tryz.func133, Tryz.ntmps133
  go_wp2_with fail
  go_loopw [8, 9] (fun u _ wr => u = .int .i64 1 ∧ W = wr) (fun u _ _ => 0)
  case atStart => exact ⟨by go_num, rfl⟩
  case round =>
    obtain ⟨rfl, rfl⟩ := hrel
    go_wp2_with fail
    go_end0
    exact ⟨rfl, rfl⟩
theorem stabNR (W : World) :
    Calls Tryz.prog 124 #[.slice none 0 0, .int .i64 0, .func (.func 102) #[] #[]] W fun e w' => e = .returned (.tuple #[]) ∧ W = w' := by
  go_enter Tryz.func124, Tryz.ntmps124
  go_wp2_with fail
  go_loopw [7, 8] (fun u v wr => u = .int .i64 0 ∧ v = .int .i64 20 ∧ W = wr) (fun _ _ _ => 0)
  case atStart => exact ⟨rfl, rfl, rfl⟩
  case round =>
    obtain ⟨rfl, rfl, rfl⟩ := hrel
    go_wp2_with fail
    with_reducible refine (insNR _).mono ?_
    rintro e w2 ⟨rfl, rfl⟩
    go_wp2_with fail
    go_loopw [6, 7, 8, 9] (fun z _ _ _ wr => z = .int .i64 20 ∧ W = wr) (fun _ _ _ _ _ => 0)
    case atStart => exact ⟨rfl, rfl⟩
    case round =>
      obtain ⟨rfl, rfl⟩ := hrel
      go_wp2_with fail
      go_end0
      exact ⟨rfl, rfl⟩
theorem stbNR (W : World) :
    Calls Tryz.prog 101 #[.slice none 0 0, .func (.func 102) #[] #[]] W fun e w' => e = .returned (.tuple #[]) ∧ W = w' := by
  go_enter Tryz.func101, Tryz.ntmps101
  go_wp2_with fail
  with_reducible refine (stabNR _).mono ?_
  rintro e w2 ⟨rfl, rfl⟩
  go_wp2_with fail
  go_end0
  exact ⟨rfl, rfl⟩
end Go.Proofs.YtdefjnefkdemiaaGreatDoor
