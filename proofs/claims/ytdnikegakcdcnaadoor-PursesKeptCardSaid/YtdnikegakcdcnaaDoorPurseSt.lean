/- Both purses side by side, beside the stream. -/
import Derived.Test.YtdnikegakcdcnaaDoorPurse2
set_option linter.unusedVariables false
namespace Go.Proofs.YtdnikegakcdcnaaDoor
open Go.RowKit

structure PS (w0 : World) (S : SC) (K b0 gx gy : Nat) (bl : List Bd) (hvx hvy : Value) (hx hy : List Hd) (nx ny : Int) (wr : World) : Prop where
  px : Pu b0 [gx, gy, S.g] 166 gx bl hvx hx nx wr
  py : Pu b0 [gx, gy, S.g] 168 gy bl hvy hy ny wr
  dis : ∀ k, hvx.ownBlock = some k → hvy.ownBlock ≠ some k
  st : Strm wr S K
  bel : Below w0.heap.size w0 wr
  h1 : w0.heap.size ≤ S.g
  h2 : S.g < gx
  h3 : gx < gy
section
variable {w0 : World} {S : SC} {K K' b0 gx gy : Nat} {bl : List Bd} {hvx hvy hvx' hvy' : Value} {hx hy hx' hy' : List Hd} {nx ny nx' ny' : Int} {wr wr' : World}
theorem PS.lt (h : PS w0 S K b0 gx gy bl hvx hvy hx hy nx ny wr) : gx < b0 ∧ gy < b0 ∧ S.g < b0 ∧ b0 ≤ wr.heap.size := ⟨h.px.glt gx (by simp), h.px.glt gy (by simp), h.px.glt S.g (by simp), h.px.le⟩
theorem PS.mono (h : PS w0 S K b0 gx gy bl hvx hvy hx hy nx ny wr) (hK : K ≤ K') : PS w0 S K' b0 gx gy bl hvx hvy hx hy nx ny wr := ⟨h.px, h.py, h.dis, strm_mono h.st hK, h.bel, h.h1, h.h2, h.h3⟩
theorem PS.draw (h : PS w0 S K b0 gx gy bl hvx hvy hx hy nx ny wr) (k : wr.grownBy wr' (some S.g)) (s : Strm wr' S K') : PS w0 S K' b0 gx gy bl hvx hvy hx hy nx ny wr' := by
  obtain ⟨l1, l2, l3, l4⟩ := h.lt
  have h1 := h.h1
  have h2 := h.h2
  have h3 := h.h3
  have c : Chg wr wr' (fun i => i = S.g) := Chg.of_grown k (fun q e => by injection e with e; exact e.symm)
  refine ⟨h.px.step c (fun i hi => ?_), h.py.step c (fun i hi => ?_), h.dis, s, h.bel.trans (c.below (by have := h.bel.size; omega) (fun i hi => by rw [hi]; exact h1)), h1, h2, h3⟩
  · refine ⟨by omega, fun e => ?_, fun _ => by rw [hi]; simp⟩
    have := (h.px.own.lt i e).1
    omega
  · refine ⟨by omega, fun e => ?_, fun _ => by rw [hi]; simp⟩
    have := (h.py.own.lt i e).1
    omega
theorem PS.below (h : PS w0 S K b0 gx gy bl hvx hvy hx hy nx ny wr) (b : Below wr.heap.size wr wr') : PS w0 S K b0 gx gy bl hvx hvy hx hy nx ny wr' := h.draw (grown_of_below b _) (strm_below h.st b)
theorem PS.opX (h : PS w0 S K b0 gx gy bl hvx hvy hx hy nx ny wr) (o : Pu b0 [gx, gy, S.g] 166 gx bl hvx' hx' nx' wr') (c : Chg wr wr' (PB gx hvx)) (w : ∀ k, hvx'.ownBlock = some k → hvx.ownBlock = some k ∨ wr.heap.size ≤ k) :
    PS w0 S K b0 gx gy bl hvx' hvy hx' hy nx' ny wr' := by
  obtain ⟨l1, l2, l3, l4⟩ := h.lt
  have h1 := h.h1
  have h2 := h.h2
  have h3 := h.h3
  have hb : ∀ i, PB gx hvx i → i = gx ∨ (hvx.ownBlock = some i ∧ b0 ≤ i) := fun i hi => by
    rcases hi with e | e
    · exact .inl e
    · exact .inr ⟨e, (h.px.own.lt i e).1⟩
  refine ⟨o, h.py.step c (fun i hi => ?_), fun k hk hy' => ?_, c.strm h.st (fun i hi => ?_), h.bel.trans (c.below (by have := h.bel.size; omega) (fun i hi => ?_)), h1, h2, h3⟩
  · rcases hb i hi with e | ⟨e, e2⟩
    · refine ⟨by omega, fun e' => ?_, fun _ => by rw [e]; simp⟩
      have := (h.py.own.lt i e').1
      omega
    · exact ⟨by omega, h.dis i e, fun hlt => by omega⟩
  · rcases w k hk with e | e
    · exact h.dis k e hy'
    · have := (h.py.own.lt k hy').2
      omega
  · rcases hb i hi with e | ⟨e, e2⟩ <;> omega
  · rcases hb i hi with e | ⟨e, e2⟩ <;> omega
theorem PS.opY (h : PS w0 S K b0 gx gy bl hvx hvy hx hy nx ny wr) (o : Pu b0 [gx, gy, S.g] 168 gy bl hvy' hy' ny' wr') (c : Chg wr wr' (PB gy hvy)) (w : ∀ k, hvy'.ownBlock = some k → hvy.ownBlock = some k ∨ wr.heap.size ≤ k) :
    PS w0 S K b0 gx gy bl hvx hvy' hx hy' nx ny' wr' := by
  obtain ⟨l1, l2, l3, l4⟩ := h.lt
  have h1 := h.h1
  have h2 := h.h2
  have h3 := h.h3
  have hb : ∀ i, PB gy hvy i → i = gy ∨ (hvy.ownBlock = some i ∧ b0 ≤ i) := fun i hi => by
    rcases hi with e | e
    · exact .inl e
    · exact .inr ⟨e, (h.py.own.lt i e).1⟩
  refine ⟨h.px.step c (fun i hi => ?_), o, fun k hk hy' => ?_, c.strm h.st (fun i hi => ?_), h.bel.trans (c.below (by have := h.bel.size; omega) (fun i hi => ?_)), h1, h2, h3⟩
  · rcases hb i hi with e | ⟨e, e2⟩
    · refine ⟨by omega, fun e' => ?_, fun _ => by rw [e]; simp⟩
      have := (h.px.own.lt i e').1
      omega
    · exact ⟨by omega, fun e' => h.dis i e' e, fun hlt => by omega⟩
  · rcases w k hy' with e | e
    · exact h.dis k hk e
    · have := (h.px.own.lt k hk).2
      omega
  · rcases hb i hi with e | ⟨e, e2⟩ <;> omega
  · rcases hb i hi with e | ⟨e, e2⟩ <;> omega
/-- two purses that were just made -/
theorem PS.start {wa wb wc : World} (sc : Strm wc S K) (hx : PuNew wa 166 bl gx wb) (hy : PuNew wb 168 bl gy wc) (bb : Below wb.heap.size wb wc) (hb : Below w0.heap.size w0 wc) (h1 : w0.heap.size ≤ S.g) (h2 : S.g < wa.heap.size) :
    PS w0 S K wc.heap.size gx gy bl (.slice none 0 0) (.slice none 0 0) [] [] 0 0 wc := by
  obtain ⟨ba, bc, x1, x2, x3, x4, x5, x6⟩ := hx
  obtain ⟨ca, cc, y1, y2, y3, y4, y5, y6⟩ := hy
  have lx : gx < wb.heap.size := by
    rcases Nat.lt_or_ge gx wb.heap.size with h | h
    · exact h
    · rw [Array.getElem?_eq_none h] at x1; cases x1
  have ly : gy < wc.heap.size := by
    rcases Nat.lt_or_ge gy wc.heap.size with h | h
    · exact h
    · rw [Array.getElem?_eq_none h] at y1; cases y1
  have hg := bb.size
  have hgl : ∀ x ∈ [gx, gy, S.g], x < wc.heap.size := fun x hx => by
    simp only [List.mem_cons, List.mem_nil_iff, or_false] at hx
    omega
  refine ⟨⟨⟨ba, bc, (bb.block gx lx).trans x1, x2.below bb, x3, x4, fun p off e => ?_⟩, World.ownsRow_nil _ _ _ _, by simp, hgl, Nat.le_refl _⟩, ⟨⟨ca, cc, y1, y2, y3, y4, fun p off e => ?_⟩, World.ownsRow_nil _ _ _ _, by simp, hgl, Nat.le_refl _⟩, fun k hk => by simp [Value.ownBlock] at hk, sc, hb, h1, by omega, by omega⟩
  · have := x5 p off e
    refine ⟨by omega, ?_⟩
    simp only [List.mem_cons, List.mem_nil_iff, or_false]
    omega
  · have := y5 p off e
    refine ⟨by omega, ?_⟩
    simp only [List.mem_cons, List.mem_nil_iff, or_false]
    omega
end
theorem resV_form (bl : List Bd) (hl : List Hd) (now : Int) (key : ByteArray) (cents t u : Int) : ∃ a e : Int, resV bl hl now key cents t u = .tuple #[.int .i64 a, .int .i64 e] := by
  unfold resV
  split
  · exact ⟨_, _, rfl⟩
  · exact ⟨_, _, rfl⟩
theorem resL_ok (bl : List Bd) (hl : List Hd) (now : Int) (key : ByteArray) (cents t u : Int) (h : ∀ x ∈ hl, x.ok) (hk : key.size ≤ 100) (hc0 : 0 ≤ cents) (hc1 : cents ≤ 2000000000000) (hu0 : -100000000 ≤ u) (hu1 : u ≤ 100000000) :
    (resL bl hl now key cents t u).length ≤ hl.length + 1 ∧ ∀ x ∈ resL bl hl now key cents t u, x.ok := by
  unfold resL
  split
  · refine ⟨by simp, fun x hx => ?_⟩
    rcases List.mem_append.1 hx with hx | hx
    · exact h x hx
    · obtain rfl := List.mem_singleton.1 hx
      exact ⟨hk, hc0, hc1, hu0, hu1, by simp only; omega, by simp only; omega⟩
  · exact ⟨by omega, h⟩
theorem turnL_ok (hl : List Hd) (now no t : Int) (ok : Int → Bool) (u : Int) (h : ∀ x ∈ hl, x.ok) (hu : u = 2 ∨ u = 3) : (turnL hl now no t ok u).length ≤ hl.length ∧ ∀ x ∈ turnL hl now no t ok u, x.ok := by
  unfold turnL
  split
  · rename_i h0
    refine ⟨by simp, fun x hx => ?_⟩
    rcases List.mem_or_eq_of_mem_set hx with hx | rfl
    · exact h x hx
    · have hj : (no - 1).toNat < hl.length := by
        unfold turnE at h0
        split at h0
        · omega
        · omega
      rw [List.getD_eq_getElem?_getD, List.getElem?_eq_getElem hj]
      obtain ⟨o1, o2, o3, o4, o5, o6, o7⟩ := h hl[(no - 1).toNat] (List.getElem_mem hj)
      refine ⟨o1, o2, o3, o4, o5, ?_, ?_⟩
      · show 0 ≤ u
        omega
      · show u ≤ 10
        omega
  · exact ⟨by omega, h⟩
end Go.Proofs.YtdnikegakcdcnaaDoor
