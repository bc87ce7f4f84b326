/- A map of one's own whose keys are ints, read as the list of its keys and what stands at each; ranging over it. -/
import Derived.Test.YtgdagknjnidmiaaGreatDoorVMap
import Derived.Maps.OwnSet
import Derived.Maps.RangeWalk
set_option linter.unusedVariables false
namespace Go.Proofs.YtgdagknjnidmiaaGreatDoor
open Go.RowKit Go.Maps

theorem key_i : Keyed Tryz.prog 3 := int_keyed Tryz.underlying3
theorem wfi64 (n : Int) (h0 : -9223372036854775808 ≤ n) (h1 : n ≤ 9223372036854775807) : (Lit.int .i64 n).wf = true := by
  unfold Lit.wf
  rw [Bool.and_eq_true, decide_eq_true_eq, decide_eq_true_eq]
  exact ⟨h0, h1⟩
def addI (ks : List Int) (s : Int) : List Int := if s ∈ ks then ks else ks ++ [s]
def putI (g : Int → Value) (s : Int) (v : Value) : Int → Value := fun x => if s = x then v else g x
theorem addI_mem {ks : List Int} {s x : Int} : x ∈ addI ks s ↔ x ∈ ks ∨ x = s := by
  unfold addI
  split
  · rename_i h
    exact ⟨Or.inl, fun e => e.elim id (fun e => e ▸ h)⟩
  · simp
theorem addI_nodup {ks : List Int} (h : ks.Nodup) (s : Int) : (addI ks s).Nodup := by
  unfold addI
  split
  · exact h
  · rename_i hs
    rw [List.nodup_append]
    refine ⟨h, by simp, fun a ha b hb e => ?_⟩
    obtain rfl := List.mem_singleton.1 hb
    exact hs (e ▸ ha)
/-- block b is a map whose keys are the ints ks, with g at each; z: what a look-up of another key gives -/
def VI (w : World) (z : Value) (b n : Nat) (ks : List Int) (g : Int → Value) : Prop :=
  ∃ D : DataW Value, w.ownsMap Tryz.prog 3 heldElem b n D ∧ IsMap D ∧ ∀ s : Int, Maps.has D (.int .i64 s) = decide (s ∈ ks) ∧ D.atKey (.int .i64 s) (.held z) = .held (g s)
section
variable {w w' : World} {z : Value} {b n : Nat} {ks : List Int} {g : Int → Value}
theorem VI.made (w : World) (z : Value) : VI (w.alloc (.map #[] 0)) z w.heap.size 0 [] (fun _ => z) :=
  ⟨.map [], World.ownsMap_made _ _ _ _, isMap_empty, fun s => ⟨rfl, rfl⟩⟩
theorem VI.lt (h : VI w z b n ks g) : b < w.heap.size := by
  obtain ⟨D, hD, _⟩ := h
  exact hD.lt
theorem VI.kept {row : Option Nat} (h : VI w z b n ks g) (hg : w.grownBy w' row) (hne : some b ≠ row) : VI w' z b n ks g := by
  obtain ⟨D, hD, h2⟩ := h
  exact ⟨D, hD.kept hg hne, h2⟩
theorem VI.below (h : VI w z b n ks g) (hb : Below w.heap.size w w') : VI w' z b n ks g := h.kept (grown_of_below hb none) (by simp)
theorem VI.alloc (h : VI w z b n ks g) (o : Obj) : VI (w.alloc o) z b n ks g := h.kept (World.grownBy_alloc w o none) (by simp)
theorem VI.drewN (h : VI w z b n ks g) (m : Nat) : VI (w.drewN m) z b n ks g := h
/-- m[s] -/
theorem VI.look {mt et : TypeId} (h : VI w z b n ks g) (hu : (Tryz.prog).underlying mt = some (.map 3 et)) (hz : (zeroValue et).run Tryz.prog w = .ok z w) (s : Int) (h0 : -9223372036854775808 ≤ s) (h1 : s ≤ 9223372036854775807) :
    (Instr.lookup mt (.map (some b)) (.int .i64 s) false).run Tryz.prog w = .ok (g s) w := by
  obtain ⟨D, hown, hD, hat⟩ := h
  obtain ⟨v, ps, hrun, hv⟩ := hown.lookup key_i hu hz (zd := .held z) (zp := []) rfl (keyOf_int_mk Tryz.underlying3 (wfi64 s h0 h1))
  have h5 : DataW.held v = D.atKey (.int .i64 s) (.held z) := congrArg Prod.fst (Option.some.inj hv)
  have h6 : v = g s := DataW.held.inj (h5.trans (hat s).2)
  subst h6
  exact hrun
/-- m[s] = v -/
theorem wpList_update_vi {ops : Array Oper} {rest : List Oper} {o : Oper} {a : Act} {Q : Exit → Act → World → Prop} (w : World) (hg : o.guard = none) (m x v : Operand) (mt et : TypeId) (hop : o.op = Op.mapUpdate mt m x v) (hu : (Tryz.prog).underlying mt = some (.map 3 et))
    (z : Value) (b n : Nat) (ks : List Int) (g : Int → Value) (hm : a.eval m = .map (some b)) (hs : VI w z b n ks g) (hn : n < maxLen) (s : Int) (y : Value) (hx : a.eval x = .int .i64 s) (hv : a.eval v = y) (h0 : -9223372036854775808 ≤ s) (h1 : s ≤ 9223372036854775807)
    (hK : ∀ w', VI w' z b (n + 1) (addI ks s) (putI g s y) → w.grownBy w' (some b) → wpList Tryz.prog ops Q rest (a.put o.dst undef) w') : wpList Tryz.prog ops Q (o :: rest) a w := by
  obtain ⟨D, hown, hD, hat⟩ := hs
  refine wpList_mapUpdate_own w hg m x v _ hop 3 et key_i hu _ b n D hm hown hn _ _ _ hx hv (keyOf_int_mk Tryz.underlying3 (wfi64 s h0 h1)) (.held y) [] rfl ?_
  intro w' k1 k2
  refine hK w' ⟨_, k1, hD.put _ _, fun t => ?_⟩ k2
  by_cases he : s = t
  · subst he
    rw [has_put_same hD (by unfold WideAt.IsKeyLit; trivial), atKey_put_same hD (by unfold WideAt.IsKeyLit; trivial)]
    exact ⟨(decide_eq_true (addI_mem.2 (.inr rfl))).symm, by unfold putI; rw [if_pos rfl]⟩
  · have hne : (Lit.int .i64 t) ≠ Lit.int .i64 s := by intro e; injection e with e1 e2; exact he e2.symm
    rw [has_put_other hne, atKey_put_other hne, (hat t).1, (hat t).2]
    refine ⟨?_, by unfold putI; rw [if_neg he]⟩
    rw [decide_eq_decide, addI_mem]
    exact ⟨Or.inl, fun e => e.elim id (fun e => absurd e.symm he)⟩
/-- a loop over a map under way: the keys dn have come -/
def VIR (w : World) (z : Value) (b r n : Nat) (ks : List Int) (g : Int → Value) (dn : List Int) (cnt : Nat) : Prop :=
  ∃ (D : DataW Value) (lf : Lit → Bool), w.ranges Tryz.prog 3 heldElem b r n D lf cnt ∧ IsMap D ∧ (∀ s : Int, Maps.has D (.int .i64 s) = decide (s ∈ ks) ∧ D.atKey (.int .i64 s) (.held z) = .held (g s)) ∧
    (∀ s : Int, lf (.int .i64 s) = (decide (s ∈ ks) && !decide (s ∈ dn))) ∧ dn.Nodup ∧ ∀ s ∈ dn, s ∈ ks
variable {dn : List Int} {r cnt : Nat}
theorem VIR.vi (h : VIR w z b r n ks g dn cnt) : VI w z b n ks g := by
  obtain ⟨D, lf, h1, h2, h3, -⟩ := h
  exact ⟨D, h1.owns, h2, h3⟩
theorem VIR.left_eq (h : VIR w z b r n ks g dn cnt) : w.rangeLeft b r = cnt := by
  obtain ⟨D, lf, h1, -⟩ := h
  exact h1.left_eq
theorem VIR.lt (h : VIR w z b r n ks g dn cnt) : b < w.heap.size ∧ r < w.heap.size := by
  obtain ⟨D, lf, h1, -⟩ := h
  exact ⟨h1.owns.lt, h1.lt⟩
theorem VIR.kept {row : Option Nat} (h : VIR w z b r n ks g dn cnt) (hg : w.grownBy w' row) (hb : some b ≠ row) (hr : some r ≠ row) : VIR w' z b r n ks g dn cnt := by
  obtain ⟨D, lf, h1, h2⟩ := h
  exact ⟨D, lf, h1.kept hg hb hr, h2⟩
theorem VIR.sub (h : VIR w z b r n ks g dn cnt) : dn.Nodup ∧ ∀ s ∈ dn, s ∈ ks := by
  obtain ⟨D, lf, h1, h2, h3, h4, h5⟩ := h
  exact h5
variable {ops : Array Oper} {rest : List Oper} {o : Oper} {a : Act} {Q : Exit → Act → World → Prop}
/-- range m -/
theorem wpList_range_vi (w : World) (hg : o.guard = none) (m : Operand) (t et : TypeId) (hop : o.op = Op.range t m) (hu : (Tryz.prog).underlying t = some (.map 3 et)) (z : Value) (b n : Nat) (ks : List Int) (g : Int → Value) (hm : a.eval m = .map (some b)) (h : VI w z b n ks g)
    (hK : ∀ w' cnt, VIR w' z b w.heap.size n ks g [] cnt → w.grownBy w' none → w'.heap.size = w.heap.size + 1 → wpList Tryz.prog ops Q rest (a.put o.dst (.pointer (some ⟨w.heap.size, 0, none⟩))) w') : wpList Tryz.prog ops Q (o :: rest) a w := by
  obtain ⟨D, hown, hD, hat⟩ := h
  refine wpList_range_own w hg m t hop _ et key_i hu heldElem b n D hm hown ?_
  intro w' r1 r2 r3
  exact hK w' _ ⟨D, _, r1, hD, hat, fun s => by rw [(hat s).1]; simp, List.nodup_nil, by simp⟩ r2 r3
theorem key_shapeI {key : Value} {kl : Lit} (h : keyOf Tryz.prog 3 key = some kl) : ∃ s, key = .int .i64 s := by
  obtain ⟨x, e, -, -⟩ := Maps.keyOf_int_inv Tryz.underlying3 h
  exact ⟨x, e⟩
/-- the step -/
theorem wpList_next_vi (w : World) (hg : o.guard = none) (it : Operand) (hop : o.op = Op.next it false) (z : Value) (b r n cnt : Nat) (ks dn : List Int) (g : Int → Value) (hit : a.eval it = .pointer (some ⟨r, 0, none⟩)) (h : VIR w z b r n ks g dn cnt) (hnd : ks.Nodup)
    (hDone : dn.Perm ks → wpList Tryz.prog ops Q rest (a.put o.dst (.tuple #[.bool false])) w)
    (hMore : ∀ s w' cnt', s ∈ ks → s ∉ dn → VIR w' z b r n ks g (dn ++ [s]) cnt' → cnt' < cnt → w.grownBy w' (some r) → w'.heap.size = w.heap.size → (Instr.entry (.pointer (some ⟨r, 0, none⟩))).run Tryz.prog w' = .ok (.tuple #[.int .i64 s, g s]) w' →
      wpList Tryz.prog ops Q rest (a.put o.dst (.tuple #[.bool true, .int .i64 s, g s])) w') : wpList Tryz.prog ops Q (o :: rest) a w := by
  obtain ⟨D, lf, h1, hD, hat, hlf, hdn, hsub⟩ := h
  refine wpList_next_ranges w hg it hop 3 key_i heldElem (Value.int .i64) id (fun key kl h => key_shapeI h) (fun v y _ => ⟨v, rfl⟩) b r n D lf cnt hit h1 ?_ ?_
  · intro _ hl
    refine hDone ((List.perm_ext_iff_of_nodup hdn hnd).2 fun s => ⟨hsub s, fun hs => ?_⟩)
    have e := hlf s
    rw [hl, decide_eq_true hs] at e
    by_cases hd : s ∈ dn
    · exact hd
    · rw [decide_eq_false hd] at e; cases e
  · intro s c kl y w' cnt' hk hlk hR hatk hrg hlt hgr hsz hen
    obtain ⟨x', ex, rfl, -⟩ := Maps.keyOf_int_inv Tryz.underlying3 hk
    cases ex
    have e := hlf s
    rw [hlk] at e
    obtain ⟨ha, hb⟩ : s ∈ ks ∧ s ∉ dn := by simpa using e.symm
    clear e
    have hc : c = g s := by
      have h5 := hatk (.held z)
      rw [(hat s).2] at h5
      have h6 : (DataW.held c, ([] : List MemPlace)) = y := Option.some.inj hR
      rw [← h6] at h5
      exact (DataW.held.inj h5).symm
    subst hc
    refine hMore s w' cnt' ha hb ⟨D, _, hrg, hD, hat, fun t => ?_, ?_, ?_⟩ hlt hgr hsz hen
    · show (lf (.int .i64 t) && !(Lit.int .i64 t).sameKey (.int .i64 s)) = _
      rw [hlf t]
      have e3 : (Lit.int .i64 t).sameKey (.int .i64 s) = decide (t = s) := by
        show decide (IntKind.i64 = IntKind.i64 ∧ t = s) = _
        simp
      rw [e3]
      by_cases h1 : t ∈ ks <;> by_cases h2 : t ∈ dn <;> by_cases h3 : t = s <;> simp [h1, h2, h3]
    · rw [List.nodup_append]
      refine ⟨hdn, by simp, fun x hx y hy exy => ?_⟩
      obtain rfl := List.mem_singleton.1 hy
      subst exy
      exact hb hx
    · intro t ht
      rcases List.mem_append.1 ht with ht | ht
      · exact hsub t ht
      · obtain rfl := List.mem_singleton.1 ht
        exact ha
end
end Go.Proofs.YtgdagknjnidmiaaGreatDoor
