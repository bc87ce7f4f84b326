/- What conditions say, wherever they lie: their order, the names in them, how far they look back, what they cost, and the cheap form. -/
import Derived.Test.YtfdpfkdfglombaaGreatDoorCndP
import Derived.Test.YtfdpfkdfglombaaGreatDoorSgW
import Derived.Test.YtfdpfkdfglombaaGreatDoorCeSpec
import Derived.Test.YtfdpfkdfglombaaGreatDoorFrac
import Derived.Test.YtfdpfkdfglombaaGreatDoorCompare
import Derived.Shelf.SlSortCmp.InsertionK
set_option linter.unusedVariables false
namespace Go.Proofs.YtfdpfkdfglombaaGreatDoor
open Go.RowKit Go.Sort

/-- what a condition says, without where it lies -/
def erN (n : Nd) : Nd := ⟨n.kind, n.name, n.field, n.sign, none, 0, n.vals, none, 0, n.whs, n.within, n.number, none, 0⟩
def er : Nat → Cn → Cn
  | 0, c => .mk (erN c.nd) []
  | d + 1, c => .mk (erN c.nd) (c.args.map (er d))
theorem erN_eq {a b : Nd} (h : erN a = erN b) : a.kind = b.kind ∧ a.name = b.name ∧ a.field = b.field ∧ a.sign = b.sign ∧ a.vals = b.vals ∧ a.whs = b.whs ∧ a.within = b.within ∧ a.number = b.number := by
  unfold erN at h
  injection h with h1 h2 h3 h4 _ _ h5 _ _ h6 h7 h8 _ _
  exact ⟨h1, h2, h3, h4, h5, h6, h7, h8⟩
theorem er_eq {d : Nat} {a b : Cn} (h : er (d + 1) a = er (d + 1) b) : erN a.nd = erN b.nd ∧ a.args.map (er d) = b.args.map (er d) := by
  unfold er at h
  injection h with h1 h2
  exact ⟨h1, h2⟩
theorem er_nd (d : Nat) (c : Cn) : (er d c).nd = erN c.nd := by cases d <;> rfl
theorem erN_erN (n : Nd) : erN (erN n) = erN n := rfl
theorem er_er : ∀ (d : Nat) (c : Cn), er d (er d c) = er d c
  | 0, c => rfl
  | d + 1, c => by
    show Cn.mk _ ((c.args.map (er d)).map (er d)) = Cn.mk _ (c.args.map (er d))
    rw [List.map_map]
    congr 1
    exact List.map_congr_left fun x _ => er_er d x
/-- the order of values, and of comparisons -/
def vlC (a b : Vl) : Int := orF [Frac.cmpI a.kind b.kind, Frac.cmpI a.num b.num, cmpB a.text b.text]
def whC (a b : Wh) : Int := orF [cmpB a.field b.field, Frac.cmpI (idxS sgnL a.sign) (idxS sgnL b.sign), vlC a.val b.val]
/-- the order of conditions -/
def ordC : Nat → Cn → Cn → Int
  | 0, _, _ => 0
  | d + 1, a, b => orF [Frac.cmpI a.nd.kind b.nd.kind, cmpB a.nd.name b.nd.name, cmpB a.nd.field b.nd.field, Frac.cmpI (idxS sgnL a.nd.sign) (idxS sgnL b.nd.sign), lexC vlC a.nd.vals b.nd.vals, lexC whC a.nd.whs b.nd.whs, Frac.cmpI a.nd.within b.nd.within, Frac.cmpI a.nd.number b.nd.number, lexC (ordC d) a.args b.args]
theorem cmpI_self (x : Int) : Frac.cmpI x x = 0 := by unfold Frac.cmpI; simp
theorem cmpB_self (x : ByteArray) : cmpB x x = 0 := (cmpB_tot.eq x x).2 rfl
theorem lexC_self {α : Type} {f : α → α → Int} (hf : ∀ x, f x x = 0) : ∀ l, lexC f l l = 0
  | [] => rfl
  | x :: r => by rw [lexC, if_pos (hf x)]; exact lexC_self hf r
theorem vlC_self (x : Vl) : vlC x x = 0 := by
  unfold vlC
  rw [cmpI_self, cmpI_self, cmpB_self]
  rfl
theorem whC_self (x : Wh) : whC x x = 0 := by
  unfold whC
  rw [cmpB_self, cmpI_self, vlC_self]
  rfl
theorem lexC_map {α β : Type} {f : α → α → Int} (g : α → β) (hf : ∀ x y, g x = g y → f x y = 0) : ∀ l m : List α, l.map g = m.map g → lexC f l m = 0
  | [], [], _ => rfl
  | [], _ :: _, h => by cases h
  | _ :: _, [], h => by cases h
  | x :: r, y :: s, h => by
    rw [List.map_cons, List.map_cons] at h
    injection h with h1 h2
    rw [lexC, if_pos (hf x y h1)]
    exact lexC_map g hf r s h2
/-- conditions that say the same are the same in this order -/
theorem ordC_same : ∀ (d : Nat) (a b : Cn), er d a = er d b → ordC d a b = 0
  | 0, _, _, _ => rfl
  | d + 1, a, b, h => by
    obtain ⟨h1, h2⟩ := er_eq h
    obtain ⟨e1, e2, e3, e4, e5, e6, e7, e8⟩ := erN_eq h1
    show orF _ = 0
    rw [e1, e2, e3, e4, e5, e6, e7, e8, cmpI_self, cmpB_self, cmpB_self, cmpI_self, lexC_self vlC_self, lexC_self whC_self, cmpI_self, cmpI_self, lexC_map (er d) (fun x y => ordC_same d x y) _ _ h2]
    rfl

/-! ### the names -/
def fdN (n : Nd) : List ByteArray := if 6 ≤ n.kind ∧ n.kind ≤ 10 then [n.name] else []
def evN (n : Nd) : List ByteArray := (if 11 ≤ n.kind ∧ n.kind ≤ 14 then [n.name] else []) ++ (if n.kind = 14 then [n.field] else [])
def fdT : Nat → Cn → List ByteArray
  | 0, _ => []
  | d + 1, c => fdN c.nd ++ c.args.flatMap (fdT d)
def evT : Nat → Cn → List ByteArray
  | 0, _ => []
  | d + 1, c => evN c.nd ++ c.args.flatMap (evT d)
theorem fdN_len (n : Nd) : (fdN n).length ≤ 1 := by unfold fdN; split <;> simp
theorem evN_len (n : Nd) : (evN n).length ≤ 2 := by unfold evN; rw [List.length_append]; split <;> split <;> simp
theorem fm_len_le {α β : Type} (f : α → List β) (g : α → Nat) (k : Nat) : ∀ l : List α, (∀ x ∈ l, (f x).length ≤ k * g x) → (l.flatMap f).length ≤ k * (l.map g).sum
  | [], _ => by simp
  | x :: r, h => by
    rw [List.flatMap_cons, List.length_append, List.map_cons, List.sum_cons, Nat.mul_add]
    have := h x (by simp)
    have := fm_len_le f g k r (fun y hy => h y (by simp [hy]))
    omega
theorem fdT_len : ∀ (d : Nat) (c : Cn), (fdT d c).length ≤ 1 * szN d c
  | 0, c => by simp [fdT]
  | d + 1, c => by
    show (fdN c.nd ++ c.args.flatMap (fdT d)).length ≤ 1 * (1 + (c.args.map (szN d)).sum)
    rw [List.length_append]
    have := fdN_len c.nd
    have := fm_len_le (fdT d) (szN d) 1 c.args (fun x _ => fdT_len d x)
    omega
theorem evT_len : ∀ (d : Nat) (c : Cn), (evT d c).length ≤ 2 * szN d c
  | 0, c => by simp [evT]
  | d + 1, c => by
    show (evN c.nd ++ c.args.flatMap (evT d)).length ≤ 2 * (1 + (c.args.map (szN d)).sum)
    rw [List.length_append]
    have := evN_len c.nd
    have := fm_len_le (evT d) (szN d) 2 c.args (fun x _ => evT_len d x)
    omega

/-! ### how far it looks back -/
def evrN (n : Nd) : Bool := decide (n.kind = 13) || (decide (11 ≤ n.kind ∧ n.kind ≤ 14) && decide (n.within = 0))
def big60 : Int := 1152921504606846976
/-- from one to the next, each before those in it -/
def gT {σ : Type} (f : σ → Nd → σ) : Nat → Cn → σ → σ
  | 0, _, s => s
  | d + 1, c, s => c.args.foldl (fun s x => gT f d x s) (f s c.nd)
def nmF (s : List ByteArray × List ByteArray) (n : Nd) : List ByteArray × List ByteArray := (s.1 ++ fdN n, s.2 ++ evN n)
theorem gT_names : ∀ (d : Nat) (c : Cn) (s : List ByteArray × List ByteArray), gT nmF d c s = (s.1 ++ fdT d c, s.2 ++ evT d c)
  | 0, _, s => by simp [gT, fdT, evT]
  | d + 1, c, s => by
    have key : ∀ (l : List Cn) (s : List ByteArray × List ByteArray), l.foldl (fun s x => gT nmF d x s) s = (s.1 ++ l.flatMap (fdT d), s.2 ++ l.flatMap (evT d)) := by
      intro l
      induction l with
      | nil => intro s; simp
      | cons x r ih => intro s; rw [List.foldl_cons, gT_names d x, ih]; simp [List.append_assoc]
    show c.args.foldl (fun s x => gT nmF d x s) (nmF s c.nd) = (s.1 ++ (fdN c.nd ++ c.args.flatMap (fdT d)), s.2 ++ (evN c.nd ++ c.args.flatMap (evT d)))
    rw [key]
    simp [nmF, List.append_assoc]
def mpF (m : Int) (n : Nd) : Int := max (if evrN n = true then big60 else m) n.within
def mrF (s : Int × Bool) (n : Nd) : Int × Bool := (max s.1 n.within, s.2 || evrN n)
/-- what both tell: -1 is ever -/
def memE (d : Nat) (c : Cn) : Int := if (gT mrF d c (0, false)).2 = true then -1 else (gT mrF d c (0, false)).1
def WiT : Nat → Cn → Prop
  | 0, _ => True
  | d + 1, c => (0 ≤ c.nd.within ∧ c.nd.within ≤ 4321440) ∧ ∀ x ∈ c.args, WiT d x
def MJ (m : Int) (s : Int × Bool) : Prop := m = (if s.2 = true then big60 else s.1) ∧ 0 ≤ s.1 ∧ s.1 ≤ 4321440
theorem mpT_law : ∀ (d : Nat) (c : Cn) (m : Int) (s : Int × Bool), WiT d c → MJ m s → MJ (gT mpF d c m) (gT mrF d c s)
  | 0, _, _, _, _, h => h
  | d + 1, c, m, s, ⟨h1, h2⟩, h => by
    have key : ∀ (l : List Cn) (m : Int) (s : Int × Bool), (∀ x ∈ l, WiT d x) → MJ m s → MJ (l.foldl (fun m x => gT mpF d x m) m) (l.foldl (fun s x => gT mrF d x s) s) := by
      intro l
      induction l with
      | nil => intro m s _ h; exact h
      | cons x r ih => intro m s hl h; exact ih _ _ (fun y hy => hl y (by simp [hy])) (mpT_law d x m s (hl x (by simp)) h)
    refine key c.args _ _ h2 ?_
    obtain ⟨e, e1, e2⟩ := h
    unfold MJ mpF mrF big60 at *
    obtain ⟨s1, s2⟩ := s
    simp only at *
    cases s2 <;> cases evrN c.nd <;> simp at * <;> omega
/-- what the program makes of it -/
theorem memE_of (d : Nat) (c : Cn) (h : WiT d c) : (if gT mpF d c 0 = big60 then -1 else gT mpF d c 0) = memE d c := by
  obtain ⟨e, e1, e2⟩ := mpT_law d c 0 (0, false) h ⟨rfl, by simp, by simp⟩
  unfold memE
  generalize gT mpF d c 0 = m at *
  generalize gT mrF d c (0, false) = s at *
  obtain ⟨s1, s2⟩ := s
  simp only at *
  subst e
  cases s2
  · simp only [Bool.false_eq_true, if_false]
    rw [if_neg (by unfold big60; omega)]
  · simp

/-! ### what it costs -/
def csN (n : Nd) : Int :=
  if n.kind = 6 then 1 else if n.kind = 7 ∨ n.kind = 9 then 2 else if n.kind = 8 then 2 + (n.vals.length : Int) else if n.kind = 10 then 5 else if n.kind = 13 then 10 + (n.whs.length : Int) else
  if n.kind = 11 then 20 + (n.whs.length : Int) else if n.kind = 12 then 25 + (n.whs.length : Int) else if n.kind = 14 then 60 else 0
def csP : Nat → Cn → Int
  | 0, _ => 0
  | d + 1, c => if 6 ≤ c.nd.kind ∧ c.nd.kind ≤ 14 then csN c.nd else (c.args.map (csP d)).sum
def csR : Nat → Cn → Int
  | 0, _ => 0
  | d + 1, c => csN c.nd + (c.args.map (csR d)).sum
/-- a condition that uses what its kind uses -/
def Fm : Nat → Cn → Prop
  | 0, _ => True
  | d + 1, c => (1 ≤ c.nd.kind ∧ c.nd.kind ≤ 14) ∧ (6 ≤ c.nd.kind → c.args = []) ∧ (¬ (c.nd.kind = 3 ∨ c.nd.kind = 4) → c.args.length ≤ 1) ∧ ∀ x ∈ c.args, Fm d x
theorem csR_csP : ∀ (d : Nat) (c : Cn), Fm d c → csR d c = csP d c
  | 0, _, _ => rfl
  | d + 1, c, ⟨⟨h1, h2⟩, h3, h4, h5⟩ => by
    show csN c.nd + (c.args.map (csR d)).sum = if _ then _ else _
    by_cases h : 6 ≤ c.nd.kind
    · rw [if_pos ⟨h, h2⟩, h3 h]; simp
    · have e : csN c.nd = 0 := by
        unfold csN
        rw [if_neg (by omega), if_neg (by omega), if_neg (by omega), if_neg (by omega), if_neg (by omega), if_neg (by omega), if_neg (by omega), if_neg (by omega)]
      rw [if_neg (by omega), e, Int.zero_add]
      congr 1
      exact List.map_congr_left fun x hx => csR_csP d x (h5 x hx)
theorem csP_er : ∀ (d : Nat) (c : Cn), csP d (er d c) = csP d c
  | 0, _ => rfl
  | d + 1, c => by
    show (if 6 ≤ c.nd.kind ∧ c.nd.kind ≤ 14 then csN c.nd else ((c.args.map (er d)).map (csP d)).sum) = if _ then _ else _
    rw [List.map_map]
    congr 1
    congr 1
    exact List.map_congr_left fun x _ => csP_er d x
theorem isum_bd : ∀ (l : List Cn) (f : Cn → Int) (g : Cn → Nat) (k : Int), 0 ≤ k → (∀ x ∈ l, 0 ≤ f x ∧ f x ≤ k * (g x : Int)) → 0 ≤ (l.map f).sum ∧ (l.map f).sum ≤ k * (((l.map g).sum : Nat) : Int)
  | [], _, _, k, hk, _ => by simp
  | x :: r, f, g, k, hk, h => by
    have h1 := h x (by simp)
    have h2 := isum_bd r f g k hk (fun y hy => h y (by simp [hy]))
    simp only [List.map_cons, List.sum_cons]
    rw [Int.natCast_add, Int.mul_add]
    omega
theorem csN_bd (n : Nd) (h1 : n.vals.length ≤ 1000) (h2 : n.whs.length ≤ 1000) : 0 ≤ csN n ∧ csN n ≤ 1100 := by
  unfold csN
  repeat' split
  all_goals omega
theorem csP_bd {w : World} : ∀ (d : Nat) (c : Cn), TAt d w c → 0 ≤ csP d c ∧ csP d c ≤ 1100 * (szN d c : Int)
  | 0, _, h => h.elim
  | d + 1, c, ⟨⟨_, _, _, _, ⟨_, _, o7⟩, ⟨_, _, o10⟩, _⟩, _, _, _, _, h6⟩ => by
    have hb := csN_bd c.nd o7 o10
    have hs := isum_bd c.args (csP d) (szN d) 1100 (by omega) (fun x hx => csP_bd d x (h6 x hx))
    have e : szN (d + 1) c = 1 + (c.args.map (szN d)).sum := rfl
    have e2 : csP (d + 1) c = if 6 ≤ c.nd.kind ∧ c.nd.kind ≤ 14 then csN c.nd else (c.args.map (csP d)).sum := rfl
    rw [e, e2, Int.natCast_add, Int.mul_add]
    split <;> omega
theorem csR_bd {w : World} : ∀ (d : Nat) (c : Cn), TAt d w c → 0 ≤ csR d c ∧ csR d c ≤ 1100 * (szN d c : Int)
  | 0, _, h => h.elim
  | d + 1, c, ⟨⟨_, _, _, _, ⟨_, _, o7⟩, ⟨_, _, o10⟩, _⟩, _, _, _, _, h6⟩ => by
    have hb := csN_bd c.nd o7 o10
    have hs := isum_bd c.args (csR d) (szN d) 1100 (by omega) (fun x hx => csR_bd d x (h6 x hx))
    have e : szN (d + 1) c = 1 + (c.args.map (szN d)).sum := rfl
    have e2 : csR (d + 1) c = csN c.nd + (c.args.map (csR d)).sum := rfl
    rw [e, e2, Int.natCast_add, Int.mul_add]
    omega

/-! ### sorted by costs -/
section
variable {α β : Type} [Inhabited α] [Inhabited β] (f : α → β)
theorem getB_map (d : Array α) (i : Nat) (h : i < d.size) : (d.map f)[i]! = f d[i]! := by
  rw [getElem!_pos (d.map f) i (by simpa using h), getElem!_pos d i h, Array.getElem_map]
theorem size_swpC (d : Array α) (i j : Nat) : (swp d i j).size = d.size := by unfold swp; simp
theorem swp_map (d : Array α) (i j : Nat) (hi : i < d.size) (hj : j < d.size) : (swp d i j).map f = swp (d.map f) i j := by
  unfold swp
  rw [getB_map f d i hi, getB_map f d j hj]
  apply Array.ext
  · simp
  · intro k h1 h2
    simp only [Array.getElem_map]
    simp only [Array.size_map, Array.size_setIfInBounds] at h1
    rw [Array.getElem_setIfInBounds (by simpa using h1), Array.getElem_setIfInBounds (by simpa using h1), Array.getElem_setIfInBounds (by simpa using h1), Array.getElem_setIfInBounds (by simpa using h1)]
    split
    · rfl
    · split
      · rfl
      · rw [Array.getElem_map]
theorem size_insInnerC (lt : α → α → Bool) (a : Nat) : ∀ (j : Nat) (d : Array α), (insInner lt a j d).size = d.size
  | 0, d => rfl
  | j + 1, d => by
    unfold insInner
    split
    · rw [size_insInnerC lt a j, size_swpC]
    · rfl
end
section
variable {α β : Type} [Inhabited α] [Inhabited β] (f : α → β) (lt : α → α → Bool) (lt' : β → β → Bool) (hlt : ∀ x y, lt x y = lt' (f x) (f y))
include hlt
theorem insInner_map (a : Nat) : ∀ (j : Nat) (d : Array α), j < d.size → (insInner lt a j d).map f = insInner lt' a j (d.map f)
  | 0, d, _ => rfl
  | j + 1, d, h => by
    unfold insInner
    rw [getB_map f d (j + 1) h, getB_map f d j (by omega), ← hlt]
    split
    · rw [insInner_map a j _ (by rw [size_swpC]; omega), swp_map f d _ _ h (by omega)]
    · rfl
theorem insOuter_map (a b : Nat) : ∀ (n i : Nat) (d : Array α), b - i ≤ n → b ≤ d.size → (insOuter lt a b i d).map f = insOuter lt' a b i (d.map f)
  | 0, i, d, hn, _ => by
    conv => lhs; rw [insOuter]
    conv => rhs; rw [insOuter]
    rw [if_neg (by omega), if_neg (by omega)]
  | n + 1, i, d, hn, hb => by
    conv => lhs; rw [insOuter]
    conv => rhs; rw [insOuter]
    by_cases h : i < b
    · rw [if_pos h, if_pos h, insOuter_map a b n (i + 1) _ (by omega) (by rw [size_insInnerC]; exact hb), insInner_map f lt lt' hlt a i d (by omega)]
    · rw [if_neg h, if_neg h]
theorem insort_map (d : Array α) : (insertionSort lt d 0 d.size).map f = insertionSort lt' (d.map f) 0 d.size :=
  insOuter_map f lt lt' hlt 0 d.size _ 1 d (Nat.le_refl _) (Nat.le_refl _)
end
theorem cmpI_tot : TotCmp Frac.cmpI where
  eq := fun x y => by unfold Frac.cmpI; repeat' split
                      all_goals omega
  anti := fun x y => by unfold Frac.cmpI; repeat' split
                        all_goals omega
  tr := fun x y z => by unfold Frac.cmpI; repeat' split
                        all_goals omega
/-- a list, sorted by costs -/
def insL (d : Nat) (l : List Cn) : List Cn := isort Frac.cmpI (csP d) l
theorem insL_map {α : Type} [Inhabited α] (d : Nat) (g : α → Cn) (c : α → Int) (hc : ∀ x, c x = csP d (g x)) (l : Array α) :
    (insertionSort (ltOf fun x y => Frac.cmpI (c x) (c y)) l 0 l.size).toList.map (fun x => er d (g x)) = insL d (l.toList.map fun x => er d (g x)) := by
  unfold insL isort
  rw [← Array.toList_map, insort_map (fun x => er d (g x)) _ (ltK Frac.cmpI (csP d)) (fun x y => by unfold ltOf ltK; simp only [hc, csP_er])]
  congr 2
  · apply Array.ext' ; simp
  · simp
theorem insL_one (d : Nat) (l : List Cn) (h : l.length ≤ 1) : insL d l = l := by
  unfold insL isort insertionSort
  rw [insOuter, if_neg (by omega)]
theorem insL_perm (d : Nat) (l : List Cn) : (insL d l).length = l.length ∧ ∀ x, x ∈ insL d l ↔ x ∈ l := by
  have h := (isort_law cmpI_tot (csP d) l).1
  exact ⟨h.length_eq, fun x => h.mem_iff⟩
/-- the cheap form -/
def chC : Nat → Cn → Cn
  | 0, c => .mk (erN c.nd) []
  | d + 1, c => .mk (erN c.nd) (insL d (c.args.map (chC d)))
theorem chC_er : ∀ (d : Nat) (a b : Cn), er d a = er d b → chC d a = chC d b
  | 0, a, b, h => h
  | d + 1, a, b, h => by
    obtain ⟨h1, h2⟩ := er_eq h
    have h3 : a.args.map (chC d) = b.args.map (chC d) := by
      have hh : ∀ l m : List Cn, l.map (er d) = m.map (er d) → l.map (chC d) = m.map (chC d) := by
        intro l
        induction l with
        | nil => intro m h; cases m with
          | nil => rfl
          | cons y s => cases h
        | cons x r ih => intro m h; cases m with
          | nil => cases h
          | cons y s =>
            rw [List.map_cons, List.map_cons] at h
            injection h with h1 h2
            rw [List.map_cons, List.map_cons, chC_er d x y h1, ih s h2]
      exact hh _ _ h2
    show Cn.mk _ _ = Cn.mk _ _
    rw [h1, h3]
theorem er_chC : ∀ (d : Nat) (c : Cn), er d (chC d c) = chC d c
  | 0, c => rfl
  | d + 1, c => by
    show Cn.mk (erN (erN c.nd)) ((insL d (c.args.map (chC d))).map (er d)) = Cn.mk _ _
    rw [erN_erN]
    congr 1
    have h : ∀ x ∈ insL d (c.args.map (chC d)), er d x = x := fun x hx => by
      obtain ⟨y, _, rfl⟩ := List.mem_map.1 (((insL_perm d _).2 x).1 hx)
      exact er_chC d y
    rw [List.map_congr_left h, List.map_id']
theorem Fm_er : ∀ (d : Nat) (c : Cn), Fm d c ↔ Fm d (er d c)
  | 0, _ => Iff.rfl
  | d + 1, c => by
    show (_ ∧ (_ → c.args = []) ∧ (_ → c.args.length ≤ 1) ∧ ∀ x ∈ c.args, Fm d x) ↔ (_ ∧ (_ → c.args.map (er d) = []) ∧ (_ → (c.args.map (er d)).length ≤ 1) ∧ ∀ x ∈ c.args.map (er d), Fm d x)
    rw [List.length_map]
    constructor
    · rintro ⟨h1, h2, h3, h4⟩
      exact ⟨h1, fun h => by rw [h2 h]; rfl, h3, fun x hx => by obtain ⟨y, hy, rfl⟩ := List.mem_map.1 hx; exact (Fm_er d y).1 (h4 y hy)⟩
    · rintro ⟨h1, h2, h3, h4⟩
      exact ⟨h1, fun h => List.map_eq_nil_iff.1 (h2 h), h3, fun x hx => (Fm_er d x).2 (h4 _ (List.mem_map.2 ⟨x, hx, rfl⟩))⟩
theorem Fm_chC : ∀ (d : Nat) (c : Cn), Fm d c → Fm d (chC d c)
  | 0, _, _ => trivial
  | d + 1, c, ⟨h1, h2, h3, h4⟩ => by
    obtain ⟨p1, p2⟩ := insL_perm d (c.args.map (chC d))
    refine ⟨h1, fun h => ?_, fun h => ?_, fun x hx => ?_⟩
    · have := h2 h
      show insL d (c.args.map (chC d)) = []
      rw [this]
      exact insL_one d _ (by simp)
    · show (insL d (c.args.map (chC d))).length ≤ 1
      rw [p1, List.length_map]
      exact h3 h
    · obtain ⟨y, hy, rfl⟩ := List.mem_map.1 ((p2 x).1 hx)
      exact Fm_chC d y (h4 y hy)
/-- right conditions use what their kinds use -/
theorem Fm_of_right : ∀ (d : Nat) (c : Cn), trE d c = 0 → Fm d c ∧ WiT d c
  | 0, _, _ => ⟨trivial, trivial⟩
  | d + 1, c, h => by
    have h' : (if ndE c.nd c.args.length ≠ 0 then ndE c.nd c.args.length else fstE (trE d) c.args) = 0 := h
    have h0 : ndE c.nd c.args.length = 0 := by
      by_cases e : ndE c.nd c.args.length = 0
      · exact e
      · rw [if_pos e] at h'; exact absurd h' e
    rw [if_neg (by simpa using h0)] at h'
    have h9 := fstE_zero (trE d) c.args h'
    unfold ndE at h0
    by_cases hk : c.nd.kind < 1 ∨ 14 < c.nd.kind
    · rw [if_pos hk] at h0; cases h0
    · rw [if_neg hk] at h0
      by_cases hf : frmB c.nd c.args.length = false
      · rw [if_pos hf] at h0; cases h0
      · rw [if_neg hf] at h0
        have hf' : frmB c.nd c.args.length = true := by simpa using hf
        have ha : loAs c.nd.kind ≤ c.args.length ∧ c.args.length ≤ hiAs c.nd.kind := by
          unfold frmB at hf'
          simp only [Bool.and_eq_true, decide_eq_true_eq] at hf'
          exact hf'.1.2
        have hw : 0 ≤ c.nd.within ∧ c.nd.within ≤ 4321440 := by
          by_cases hw : (c.nd.within < 0 ∨ 4321440 < c.nd.within) ∨ (c.nd.number < loNu c.nd.kind ∨ hiNu c.nd.kind < c.nd.number)
          · exfalso
            revert h0
            rw [if_pos hw]
            repeat' split
            all_goals (intro h0; first | (cases h0; done) | (exact absurd h0 (by assumption)))
          · omega
        refine ⟨⟨by omega, fun h6 => ?_, fun h6 => ?_, fun x hx => (Fm_of_right d x (h9 x hx)).1⟩, hw, fun x hx => (Fm_of_right d x (h9 x hx)).2⟩
        · have : hiAs c.nd.kind = 0 := by unfold hiAs; rw [if_neg (by omega), if_neg (by omega)]
          exact List.eq_nil_of_length_eq_zero (by omega)
        · have : hiAs c.nd.kind ≤ 1 := by unfold hiAs; rw [if_neg h6]; split <;> omega
          omega
end Go.Proofs.YtfdpfkdfglombaaGreatDoor
