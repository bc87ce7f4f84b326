/- A map[int]int of one's own, read as a list of pairs: a literal that is looked up. -/
import Derived.Test.YtdnikegakcdcnaaDoorSeen
set_option linter.unusedVariables false
namespace Go.Proofs.YtdnikegakcdcnaaDoor
open Go.RowKit Go.Maps

theorem key_int : Keyed Tryd.prog 3 := int_keyed Tryd.underlying3
theorem zero_int (w : World) : (zeroValue 3).run Tryd.prog w = .ok (.int .i64 0) w := by kernel_rfl
theorem wf_i64 (n : Int) (h0 : -9223372036854775808 ≤ n) (h1 : n ≤ 9223372036854775807) : (Lit.int .i64 n).wf = true := by
  unfold Lit.wf
  rw [Bool.and_eq_true, decide_eq_true_eq, decide_eq_true_eq]
  exact ⟨h0, h1⟩
/-- what the map gives at k: the last pair's value -/
def imV (l : List (Int × Int)) (k : Int) : Int := l.foldl (fun c p => if p.1 = k then p.2 else c) 0
theorem imV_snoc (l : List (Int × Int)) (i v k : Int) : imV (l ++ [(i, v)]) k = if i = k then v else imV l k := by
  unfold imV
  rw [List.foldl_append]
  rfl
/-- block b is a map of the pairs l, at most n of them -/
def IMap (w : World) (b n : Nat) (l : List (Int × Int)) : Prop :=
  ∃ D : DataW Unit, w.ownsMap Tryd.prog 3 (plainElem Tryd.prog 3) b n D ∧ IsMap D ∧ ∀ k : Int, D.atKey (.int .i64 k) (.lit (.int .i64 0)) = .lit (.int .i64 (imV l k))
theorem IMap.made (w : World) : IMap (w.alloc (.map #[] 0)) w.heap.size 0 [] :=
  ⟨.map [], World.ownsMap_made _ _ _ _, isMap_empty, fun s => rfl⟩
theorem IMap.lt {w : World} {b n : Nat} {l : List (Int × Int)} (h : IMap w b n l) : b < w.heap.size := by
  obtain ⟨D, hD, _⟩ := h
  exact hD.lt
theorem IMap.kept {w w' : World} {b n : Nat} {l : List (Int × Int)} {row : Option Nat} (h : IMap w b n l) (hg : w.grownBy w' row) (hne : some b ≠ row) : IMap w' b n l := by
  obtain ⟨D, hD, h2⟩ := h
  exact ⟨D, hD.kept hg hne, h2⟩
theorem IMap.below {w w' : World} {b n : Nat} {l : List (Int × Int)} (h : IMap w b n l) (hb : Below w.heap.size w w') : IMap w' b n l := h.kept (grown_of_below hb none) (by simp)
theorem IMap.drewN {w : World} {b n : Nat} {l : List (Int × Int)} (h : IMap w b n l) (m : Nat) : IMap (w.drewN m) b n l := h
theorem lit_int_inj {q : IntKind} {a b : Int} (h : (DataW.lit (.int q a) : DataW Unit) = .lit (.int q b)) : a = b := by
  injection h with h
  injection h
/-- m[k] -/
theorem wpList_lookup_im {ops : Array Oper} {rest : List Oper} {o : Oper} {a : Act} {Q : Exit → Act → World → Prop} (w : World) (hg : o.guard = none) (m x : Operand) (hop : o.op = Op.lookup 180 m x false)
    (b n : Nat) (l : List (Int × Int)) (hm : a.eval m = .map (some b)) (hs : IMap w b n l) (k : Int) (hx : a.eval x = .int .i64 k) (h0 : -9223372036854775808 ≤ k) (h1 : k ≤ 9223372036854775807) (r : Int) (hr : imV l k = r)
    (hK : wpList Tryd.prog ops Q rest (a.put o.dst (.int .i64 r)) w) : wpList Tryd.prog ops Q (o :: rest) a w := by
  obtain ⟨D, hown, _, hat⟩ := hs
  refine wpList_lookup_own_int w hg m x _ hop 3 3 .i64 key_int Tryd.underlying180 Tryd.underlying3 (zero_int w) b n D hm hown _ _ hx (keyOf_int_mk Tryd.underlying3 (wf_i64 k h0 h1)) ?_
  intro c hc _
  rw [← lit_int_inj ((hat k).symm.trans hc), hr]
  exact hK
theorem IMap.put {w' : World} {b n : Nat} {l : List (Int × Int)} {D : DataW Unit} (hD : IsMap D) (hat : ∀ k : Int, D.atKey (.int .i64 k) (.lit (.int .i64 0)) = .lit (.int .i64 (imV l k))) (k z : Int) (h4 : w'.ownsMap Tryd.prog 3 (plainElem Tryd.prog 3) b (n + 1) (D.put (.int .i64 k) (.lit (.int .i64 z)))) : IMap w' b (n + 1) (l ++ [(k, z)]) := by
  refine ⟨_, h4, hD.put _ _, fun s => ?_⟩
  rw [imV_snoc]
  by_cases he : k = s
  · subst he
    rw [atKey_put_same hD (by unfold WideAt.IsKeyLit; trivial), if_pos rfl]
  · rw [atKey_put_other (by intro e; injection e with e1 e2; exact he e2.symm), hat s, if_neg he]
/-- m[k] = v in a literal -/
theorem wpList_insert_im {ops : Array Oper} {rest : List Oper} {o : Oper} {a : Act} {Q : Exit → Act → World → Prop} (w : World) (hg : o.guard = none) (m x v : Operand) (hop : o.op = Op.insert 180 m x v)
    (b n : Nat) (l : List (Int × Int)) (hm : a.eval m = .map (some b)) (hs : IMap w b n l) (hn : n < maxLen) (k z : Int) (hx : a.eval x = .int .i64 k) (hv : a.eval v = .int .i64 z) (h0 : -9223372036854775808 ≤ k) (h1 : k ≤ 9223372036854775807) (h2 : -9223372036854775808 ≤ z) (h3 : z ≤ 9223372036854775807)
    (hK : ∀ w', IMap w' b (n + 1) (l ++ [(k, z)]) → w.grownBy w' (some b) → wpList Tryd.prog ops Q rest (a.put o.dst undef) w') : wpList Tryd.prog ops Q (o :: rest) a w := by
  obtain ⟨D, hown, hD, hat⟩ := hs
  refine wpList_plain hg fun K' hK' => ?_
  obtain ⟨w', hrun, r1, r2⟩ := hown.update key_int Tryd.underlying180 hn (keyOf_int_mk Tryd.underlying3 (wf_i64 k h0 h1)) (plainElem_int Tryd.underlying3 (wf_i64 z h2 h3))
  unfold Oper.wp
  simp [execOp, hop, hm, hx, hv, hrun, Result.andThen]
  exact hK' _ _ (hK w' (IMap.put hD hat k z r1) r2)
end Go.Proofs.YtdnikegakcdcnaaDoor
