/- slices.SortStableFunc at fewer than 20 cells, by their keys. -/
import Derived.Test.YtmhnnbffhciinaaDoorKyF
import Derived.Test.YtmhnnbffhciinaaDoorCeSpec
import Derived.Test.YtmhnnbffhciinaaDoorCheckCells
import Derived.Test.YtmhnnbffhciinaaDoorOfSpec
import Derived.Shelf.SlSortCmp.InsertionK
set_option linter.unusedVariables false
namespace Go.Proofs.YtmhnnbffhciinaaDoor
open Go.RowKit Go.Shelf Go.Lib Go.Sort

theorem flatK_list {α : Type} [Inhabited α] (enc : α → List Value) (k : Nat) (hk : ∀ x, (enc x).length = k) (hk0 : 0 < k) (d : Array α) : (flatK enc k d).toList = d.toList.flatMap enc := by
  apply List.ext_getElem?
  intro t
  by_cases ht : t < d.size * k
  · have hq : t / k < d.size := Nat.div_lt_of_lt_mul (by rwa [Nat.mul_comm] at ht)
    have h1 := fm_get k enc d.toList (fun x _ => hk x) (t / k) (t % k) (by simpa using hq) (Nat.mod_lt _ hk0)
    rw [Nat.div_add_mod' t k] at h1
    rw [h1]
    have h2 := get_flatK enc k d t ht
    have hs : t < (flatK enc k d).size := by simpa using ht
    rw [getElem!_pos _ t hs] at h2
    rw [Array.getElem?_toList, Array.getElem?_eq_getElem hs, h2]
    have h3 : t % k < (enc d[t / k]!).length := by rw [hk]; exact Nat.mod_lt _ hk0
    rw [getElem!_pos (enc d[t / k]!) (t % k) h3]
    have h4 : d[t / k]! = d[t / k] := getElem!_pos d _ hq
    simp only [Array.getElem_toList]
    rw [List.getElem?_eq_getElem (show t % k < (enc d[t / k]).length by rw [hk]; exact Nat.mod_lt _ hk0)]
    simp only [h4]
  · rw [List.getElem?_eq_none (by simp; omega), List.getElem?_eq_none (by rw [fm_length k enc d.toList (fun x _ => hk x)]; simp; omega)]
section
variable {α : Type} [Inhabited α] (enc : α → List Value) (k : Nat) (w : World) (g m : Nat) (d : Array α) (os : Array Obj)
theorem sortK_block {p : Nat} (hp : p < w.heap.size) (hne : p ≠ g) : (sortWorldK enc k w g 0 m d os).heap[p]? = w.heap[p]? := by
  unfold sortWorldK putRowK putRow mapBlock grow Sort.ahead
  simp only
  rw [Array.getElem?_append_left (by simpa using hp), Array.getElem?_modify, if_neg (fun e => hne e.symm)]
theorem sortK_size : (sortWorldK enc k w g 0 m d os).heap.size = w.heap.size + os.size := by
  unfold sortWorldK putRowK putRow mapBlock grow Sort.ahead
  simp
theorem sortK_grown : w.grownBy (sortWorldK enc k w g 0 m d os) (some g) :=
  ⟨rfl, rfl, rfl, by rw [sortK_size]; omega, fun p hp hne => sortK_block enc k w g m d os hp (fun e => hne (by rw [e]))⟩
theorem sortK_row {b0 n cap : Nat} {t : TypeId} {xs : List Value} (h : w.ownsRow b0 t k (.slice (some ⟨g, 0, none⟩) n cap) n xs) (hk : ∀ x, (enc x).length = k) (hk0 : 0 < k) (hd : d.size = n) :
    (sortWorldK enc k w g 0 m d os).ownsRow b0 t k (.slice (some ⟨g, 0, none⟩) n cap) n (d.toList.flatMap enc) := by
  subst hd
  refine ⟨by rw [fm_length k enc d.toList (fun x _ => hk x)]; simp, .inr ?_⟩
  rcases h.2 with ⟨e, _⟩ | ⟨g', cap', cur, e, hb, hg, hnc, hcm, hs, ht⟩
  · cases e
  · injection e with e1 e2 e3
    injection e1 with e1
    injection e1 with e1
    subst e1 e3
    have hlt := (Array.getElem?_eq_some_iff.1 hg).1
    refine ⟨g, cap, putCells id 0 (flatK enc k d) cur, rfl, hb, ?_, hnc, hcm, by unfold putCells; simpa using hs, ?_⟩
    · unfold sortWorldK putRowK putRow mapBlock grow Sort.ahead
      simp only
      rw [Array.getElem?_append_left (by simpa using hlt), Array.getElem?_modify, if_pos rfl, hg]
      rfl
    · rw [← flatK_list enc k hk hk0 d]
      have hle : d.size * k ≤ cap * k := Nat.mul_le_mul_right _ hnc
      apply List.ext_getElem?
      intro i
      by_cases hi : i < d.size * k
      · rw [List.getElem?_take_of_lt hi]
        unfold putCells
        have hi2 : i < (flatK enc k d).size := by simpa using hi
        simp only [Array.getElem?_toList, Array.getElem?_mapIdx, size_flatK, Nat.zero_le, true_and, Nat.zero_add, id, Nat.sub_zero]
        rw [Array.getElem?_eq_getElem (by omega), Array.getElem?_eq_getElem hi2]
        simp only [Option.map_some, if_pos hi]
        rw [getElem!_pos _ i hi2]
      · rw [List.getElem?_eq_none (by simp; omega), List.getElem?_eq_none (by simp; omega)]
theorem rowK_holds {b0 n cap : Nat} {t : TypeId} (h : w.ownsRow b0 t k (.slice (some ⟨g, 0, none⟩) n cap) n (d.toList.flatMap enc)) (hk : ∀ x, (enc x).length = k) (hk0 : 0 < k) (hd : d.size = n) : HoldsK enc k w g 0 d := by
  subst hd
  intro j hj
  rw [size_flatK] at hj
  rw [Nat.zero_add]
  refine ⟨?_, h.frozenAt _⟩
  rw [h.cellAt j hj, ← flatK_list enc k hk hk0 d, Array.getElem?_toList]
  have hj2 : j < (flatK enc k d).size := by simpa using hj
  rw [Array.getElem?_eq_getElem hj2, getElem!_pos _ j hj2]
  rfl
end
def ceRen : Go.Shelf.Ren := ⟨fun | 20 => 56 | n => n, fun | 22 => 26 | 24 => 44 | 25 => 54 | n => n, fun | n => n⟩
theorem lays_ce : Go.Proofs.SlLaysF0.n20 Tryd.prog ceRen := {
  mixed := by kernel_rfl
  f20 := ⟨"slices.insertionSortCmpFunc[handbill/api.Cell]", by decide, Tryd.func56.trans (congrArg some (by kernel_rfl))⟩
  t0 := Tryd.underlying0
  a0 := Tryd.isAgg0
  z0 := Tryd.sizeOf0
  v0 := Tryd.zeroValue0
  t3 := Tryd.underlying3
  a3 := Tryd.isAgg3
  z3 := Tryd.sizeOf3
  v3 := Tryd.zeroValue3
  t4 := Tryd.underlying4
  a4 := Tryd.isAgg4
  z4 := Tryd.sizeOf4
  v4 := Tryd.zeroValue4
  t22 := Tryd.underlying26
  a22 := Tryd.isAgg26
  z22 := Tryd.sizeOf26
  v22 := Tryd.zeroValue26
  t25 := Tryd.underlying54
  a25 := Tryd.isAgg54
  z25 := Tryd.sizeOf54
  v25 := Tryd.zeroValue54 }
/-- the comparison -/
theorem foldCmp_any (x y : Ce) (w : World) (h : StrsAt w x.tv x.keys) (h' : StrsAt w y.tv y.keys) (hl : x.keys.length ≤ 1000) (hl' : y.keys.length ≤ 1000) :
    Calls Tryd.prog 28 #[.agg x.cells.toArray, .agg y.cells.toArray] w fun e w' => e = .returned (.int .i64 (cmpL x.keys y.keys)) ∧ w' = (w.alloc (.cells x.cells.toArray 44)).alloc (.cells y.cells.toArray 44) := by
  obtain ⟨tv, tc, ks, many, cents⟩ := x
  obtain ⟨tv', tc', ks', many', cents'⟩ := y
  simp only at h h' hl hl'
  simp only [Ce.cells]
  have C := Lib.hid (fun w (h : StrsAt w tv ks) (h' : StrsAt w tv' ks') => compare_strs tv tv' ks ks' ks.length ks'.length tc tc' w rfl rfl hl hl' h h')
  generalize cmpL ks ks' = R at *
  obtain ⟨n, hn⟩ : ∃ n, ks.length = n := ⟨_, rfl⟩
  obtain ⟨n', hn'⟩ : ∃ n, ks'.length = n := ⟨_, rfl⟩
  rw [hn, hn'] at C ⊢
  have HT1 := Lib.hid (((h.below ((Below.refl _ _).alloc (Nat.le_refl _) (.cells #[.slice tv n tc, .int .i64 many, .int .i64 cents] 44)))).below ((Below.refl _ _).alloc (Nat.le_refl _) (.cells #[.slice tv' n' tc', .int .i64 many', .int .i64 cents'] 44)))
  have HT2 := Lib.hid (((h'.below ((Below.refl _ _).alloc (Nat.le_refl _) (.cells #[.slice tv n tc, .int .i64 many, .int .i64 cents] 44)))).below ((Below.refl _ _).alloc (Nat.le_refl _) (.cells #[.slice tv' n' tc', .int .i64 many', .int .i64 cents'] 44)))
  clear h h' hl hl' hn hn'
  go_enter Tryd.func28, Tryd.ntmps28
  go_wp2_with fail
  with_reducible refine (C.out _ HT1.out HT2.out).mono ?_
  rintro e w1 ⟨rfl, rfl⟩
  go_wp2_with fail
  go_ret
  exact ⟨rfl, rfl⟩
/-- cells whose keys lie in this world -/
abbrev CeW (w : World) : Type := { x : Ce // KyF w x.tv x.keys ∧ x.keys.length ≤ 1000 }
instance (w : World) : Inhabited (CeW w) := ⟨⟨⟨none, 0, [], 0, 0⟩, KyF.nil _ _, by simp⟩⟩
def CeW.enc {w : World} (x : CeW w) : List Value := x.1.cells
def Srt (s l : List Ce) : Prop := s.Perm l ∧ s.Pairwise fun x y => cmpL x.keys y.keys ≤ 0
theorem insCe_some (w : World) (g n cap : Nat) (d : Array (CeW w)) (hH : HoldsK CeW.enc 3 w g 0 d) (hg : g < w.heap.size) (hgt : ∀ cur fr, w.heap[g]? ≠ some (.cells cur 9 fr)) (hn : d.size = n) (hn1 : n < 1000) :
    Calls Tryd.prog 56 #[.slice (some ⟨g, 0, none⟩) n cap, .int .i64 0, .int .i64 n, .func (.func 28) #[] #[]] w fun e w' =>
      e = .returned (.tuple #[]) ∧ ∃ m os, w' = sortWorldK CeW.enc 3 w g 0 m (Sort.insertionSort (ltOf (fun x y : CeW w => cmpL x.1.keys y.1.keys)) d 0 n) os := by
  subst hn
  have := AnyQ.insertionSortCmpFunc lays_ce 3 (fun w => by kernel_rfl) (fun w => by kernel_rfl) (CeW.enc (w := w)) (fun x => rfl) (fun x v hv => by
      simp only [CeW.enc, Ce.cells, List.mem_cons, List.mem_nil_iff, or_false] at hv
      rcases hv with rfl | rfl | rfl <;> rfl) (fun x y : CeW w => cmpL x.1.keys y.1.keys) 28 #[] g 0 cap 0 d.size d w (enters_of Tryd.func28 (by kernel_rfl) rfl) (by
      intro m os dk hdk x y
      have gr := sortK_grown CeW.enc 3 w g m dk os
      have hx := (x.2.1.kept gr (fun p cur fr e hc => by injection e with e; subst e; exact hgt _ _ hc)).strs
      have hy := (y.2.1.kept gr (fun p cur fr e hc => by injection e with e; subst e; exact hgt _ _ hc)).strs
      refine (foldCmp_any x.1 y.1 _ hx hy x.2.2 y.2.2).mono ?_
      rintro e w' ⟨rfl, rfl⟩
      exact ⟨rfl, 0, #[.cells x.1.cells.toArray 44, .cells y.1.cells.toArray 44], by
        rw [World.drewN_zero, alloc_eq_grow, alloc_eq_grow, grow_grow]
        rfl⟩) hH hg (Nat.zero_le _) (Nat.le_refl _) (by omega)
  exact this
theorem insCe_nil (w : World) : Calls Tryd.prog 56 #[.slice none 0 0, .int .i64 0, .int .i64 0, .func (.func 28) #[] #[]] w fun e w' => e = .returned (.tuple #[]) ∧ w = w' := by
  go_enter Tryd.func56, Tryd.ntmps56
  go_wp2_with fail
  refine wp_loop_rounds 1 ?_
  rw [rounds_succ]
  go_wp2
  go_end0
  exact ⟨rfl, rfl⟩
/-- what a sort of cells leaves -/
def SrtOut (b0 : Nat) (w : World) (v : Value) (l : List Ce) (e : Ending) (w' : World) : Prop := e = .returned (.tuple #[]) ∧ ∃ s, Srt s l ∧ LK b0 w' v s ∧ w.grownBy w' v.ownBlock
theorem map_cew {w : World} (l : List (CeW w)) : l.flatMap CeW.enc = (l.map (·.1)).flatMap Ce.cells := by
  induction l with
  | nil => rfl
  | cons x l ih => rw [List.flatMap_cons, ih, List.map_cons, List.flatMap_cons]; rfl
theorem cew_of {w : World} : ∀ (l : List Ce), (∀ x ∈ l, KyF w x.tv x.keys) → (∀ x ∈ l, x.keys.length ≤ 1000) → ∃ ls : List (CeW w), ls.map (·.1) = l
  | [], _, _ => ⟨[], rfl⟩
  | x :: l, h, hk => by
    obtain ⟨ls, e⟩ := cew_of l (fun y hy => h y (by simp [hy])) (fun y hy => hk y (by simp [hy]))
    exact ⟨⟨x, h x (by simp), hk x (by simp)⟩ :: ls, by rw [List.map_cons, e]⟩
theorem insCe_any (b0 : Nat) (w : World) (a : Option Addr) (n c : Nat) (l : List Ce) (h : LK b0 w (.slice a n c) l) (hn : l.length = n) (hn1 : n < 1000) (hk : ∀ x ∈ l, x.keys.length ≤ 1000) :
    Calls Tryd.prog 56 #[.slice a n c, .int .i64 0, .int .i64 n, .func (.func 28) #[] #[]] w (SrtOut b0 w (.slice a n c) l) := by
  subst hn
  rcases h.own.2 with ⟨e, h0⟩ | ⟨g, cap, cur, e, hb, hg, hnc, hcm, hs, ht⟩
  · injection e with e1 e2 e3
    subst e1 e3
    obtain rfl := List.eq_nil_of_length_eq_zero h0
    refine (insCe_nil w).mono ?_
    rintro e w' ⟨rfl, rfl⟩
    exact ⟨rfl, [], ⟨List.Perm.nil, List.Pairwise.nil⟩, h, ⟨rfl, rfl, rfl, Nat.le_refl _, fun _ _ _ => rfl⟩⟩
  · injection e with e1 e2 e3
    subst e1 e3
    obtain ⟨ls, hls⟩ : ∃ ls : List (CeW w), ls.map (·.1) = l := cew_of l h.ky hk
    have hlen : ls.length = l.length := by rw [← hls]; simp
    have own := h.own
    rw [← hls, ← map_cew] at own
    have hH := rowK_holds CeW.enc 3 w g ls.toArray (n := (ls.map (·.1)).length) (t := 44) (b0 := b0) (cap := c) (by simpa using own) (fun _ => rfl) (by omega) (by simp)
    have hlt := (Array.getElem?_eq_some_iff.1 hg).1
    have := insCe_some w g l.length c ls.toArray hH hlt (fun cur' fr hc => by
      rw [hg] at hc
      injection hc with hc
      injection hc with _ hc _
      exact ce_ty hc) (by simpa using hlen) hn1
    refine this.mono ?_
    rintro e w' ⟨rfl, m, os, rfl⟩
    obtain ⟨p1, p2⟩ := isort_law cmpL_tot (fun x : CeW w => x.1.keys) ls
    have hi : (Sort.insertionSort (ltOf (fun x y : CeW w => cmpL x.1.keys y.1.keys)) ls.toArray 0 l.length).toList = isort cmpL (fun x : CeW w => x.1.keys) ls := by
      unfold isort
      rw [hlen]
      rfl
    have hrow := sortK_row CeW.enc 3 w g m (Sort.insertionSort (ltOf (fun x y : CeW w => cmpL x.1.keys y.1.keys)) ls.toArray 0 l.length) os own (fun _ => rfl) (by omega) (by
      rw [← Array.length_toList, hi, p1.length_eq]
      simp)
    rw [hi, map_cew] at hrow
    have gr := sortK_grown CeW.enc 3 w g m (Sort.insertionSort (ltOf (fun x y : CeW w => cmpL x.1.keys y.1.keys)) ls.toArray 0 l.length) os
    have hperm : ((isort cmpL (fun x : CeW w => x.1.keys) ls).map (·.1)).Perm l := by
      have := p1.map (·.1)
      rw [hls] at this
      exact this
    refine ⟨rfl, (isort cmpL (fun x : CeW w => x.1.keys) ls).map (·.1), ⟨hperm, by rw [List.pairwise_map]; exact p2⟩, ⟨?_, fun x hx => ?_, Nat.le_trans h.sz gr.size⟩, gr⟩
    · rw [hls] at hrow
      rw [hperm.length_eq]
      exact hrow
    · exact (h.ky x (hperm.subset hx)).kept gr (fun p cur' fr e hc => by
        injection e with e
        subst e
        rw [hg] at hc
        injection hc with hc
        injection hc with _ hc _
        exact ce_ty hc)
theorem sortStable_ce (b0 : Nat) (w : World) (a : Option Addr) (n c : Nat) (l : List Ce) (h : LK b0 w (.slice a n c) l) (hn : l.length = n) (hn1 : n < 20) (hk : ∀ x ∈ l, x.keys.length ≤ 1000) :
    Calls Tryd.prog 27 #[.slice a n c, .func (.func 28) #[] #[]] w (SrtOut b0 w (.slice a n c) l) := by
  have C := Lib.hid (insCe_any b0 w a n c l h hn (by omega) hk)
  clear h hn hk
  have CS : Calls Tryd.prog 48 #[.slice a n c, .int .i64 n, .func (.func 28) #[] #[]] w (SrtOut b0 w (.slice a n c) l) := by
    go_enter Tryd.func48, Tryd.ntmps48
    go_wp2_with fail
    refine wp_loop_rounds 1 ?_
    rw [rounds_succ]
    go_wp2_with fail
    with_reducible refine C.out.mono ?_
    rintro e w' hS
    have HS := Lib.hid hS
    obtain ⟨rfl, -⟩ := hS
    go_wp2_with fail
    refine wp_loop_rounds 1 ?_
    rw [rounds_succ]
    go_wp2
    go_end0
    exact HS.out
  have CS' := Lib.hid CS
  clear CS C
  go_enter Tryd.func27, Tryd.ntmps27
  go_wp2_with fail
  with_reducible refine CS'.out.mono ?_
  rintro e w' hS
  have HS := Lib.hid hS
  obtain ⟨rfl, -⟩ := hS
  go_wp2
  go_end0
  exact HS.out
end Go.Proofs.YtmhnnbffhciinaaDoor
