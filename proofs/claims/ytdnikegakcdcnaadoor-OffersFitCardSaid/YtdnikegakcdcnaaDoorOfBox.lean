/- An offer that is being made (printed by gen_ofmake.py). -/
import Derived.Test.YtdnikegakcdcnaaDoorTgF
import Derived.Test.YtdnikegakcdcnaaDoorKey
import Derived.Test.YtdnikegakcdcnaaDoorPickAt
import Derived.Test.YtdnikegakcdcnaaDoorRange
import Derived.Test.YtdnikegakcdcnaaDoorGrow
import Derived.Deep.DeepCutAuto
import Derived.Deep.CutBlock
set_option linter.unusedVariables false
namespace Go.Proofs.YtdnikegakcdcnaaDoor
open Go.RowKit

/-- three lists of tags, and the list of them -/
theorem tags3 {w : World} {S : SC} (hS : S.g < w.heap.size) (a b c : List ByteArray) (cs : List Value) (t : TypeId) :
    let W := (((w.alloc (.cells (a.map Value.string).toArray 9)).alloc (.cells (b.map Value.string).toArray 9)).alloc (.cells (c.map Value.string).toArray 9)).alloc (.cells cs.toArray t)
    TgF W S (some ⟨w.heap.size, 0, none⟩) a ∧ TgF W S (some ⟨w.heap.size + 1, 0, none⟩) b ∧ TgF W S (some ⟨w.heap.size + 2, 0, none⟩) c ∧ OB W (w.heap.size + 3) cs t := by
  intro W
  have z1 : (w.alloc (.cells (a.map Value.string).toArray 9)).heap.size = w.heap.size + 1 := by simp
  have z2 : ((w.alloc (.cells (a.map Value.string).toArray 9)).alloc (.cells (b.map Value.string).toArray 9)).heap.size = w.heap.size + 2 := by simp
  have z3 : (((w.alloc (.cells (a.map Value.string).toArray 9)).alloc (.cells (b.map Value.string).toArray 9)).alloc (.cells (c.map Value.string).toArray 9)).heap.size = w.heap.size + 3 := by simp
  refine ⟨(((TgF.new w S a hS).alloc _).alloc _).alloc _, ?_, ?_, ?_⟩
  · have h := ((TgF.new (w.alloc (.cells (a.map Value.string).toArray 9)) S b (by rw [z1]; omega)).alloc (.cells (c.map Value.string).toArray 9)).alloc (.cells cs.toArray t)
    rw [z1] at h
    exact h
  · have h := (TgF.new ((w.alloc (.cells (a.map Value.string).toArray 9)).alloc (.cells (b.map Value.string).toArray 9)) S c (by rw [z2]; omega)).alloc (.cells cs.toArray t)
    rw [z2] at h
    exact h
  · have h := OB.new (((w.alloc (.cells (a.map Value.string).toArray 9)).alloc (.cells (b.map Value.string).toArray 9)).alloc (.cells (c.map Value.string).toArray 9)) cs t
    rw [z3] at h
    exact h

theorem Of.ok.ok_kind {x : Of} (h : x.ok) (v : Int) (h0 : -10 ≤ v) (h1 : v ≤ 10) : ({ x with kind := v } : Of).ok := by
  obtain ⟨o1, o2, o3, o4, o5, o6, o7, o8, o9, o10, o11, o12, o13, o14, o15, o16, o17, o18, o19, o20⟩ := h
  exact ⟨o1, h0, h1, o4, o5, o6, o7, o8, o9, o10, o11, o12, o13, o14, o15, o16, o17, o18, o19, o20⟩
theorem Of.ok.ok_a {x : Of} (h : x.ok) (v : Int) (h0 : -2000000000000 ≤ v) (h1 : v ≤ 2000000000000) : ({ x with a := v } : Of).ok := by
  obtain ⟨o1, o2, o3, o4, o5, o6, o7, o8, o9, o10, o11, o12, o13, o14, o15, o16, o17, o18, o19, o20⟩ := h
  exact ⟨o1, o2, o3, h0, h1, o6, o7, o8, o9, o10, o11, o12, o13, o14, o15, o16, o17, o18, o19, o20⟩
theorem Of.ok.ok_b {x : Of} (h : x.ok) (v : Int) (h0 : -100 ≤ v) (h1 : v ≤ 100) : ({ x with b := v } : Of).ok := by
  obtain ⟨o1, o2, o3, o4, o5, o6, o7, o8, o9, o10, o11, o12, o13, o14, o15, o16, o17, o18, o19, o20⟩ := h
  exact ⟨o1, o2, o3, o4, o5, h0, h1, o8, o9, o10, o11, o12, o13, o14, o15, o16, o17, o18, o19, o20⟩
theorem Of.ok.ok_least {x : Of} (h : x.ok) (v : Int) (h0 : -2000000000000 ≤ v) (h1 : v ≤ 2000000000000) : ({ x with least := v } : Of).ok := by
  obtain ⟨o1, o2, o3, o4, o5, o6, o7, o8, o9, o10, o11, o12, o13, o14, o15, o16, o17, o18, o19, o20⟩ := h
  exact ⟨o1, o2, o3, o4, o5, o6, o7, o8, o9, h0, h1, o12, o13, o14, o15, o16, o17, o18, o19, o20⟩
theorem Of.ok.ok_most {x : Of} (h : x.ok) (v : Int) (h0 : -2000000000000 ≤ v) (h1 : v ≤ 2000000000000) : ({ x with most := v } : Of).ok := by
  obtain ⟨o1, o2, o3, o4, o5, o6, o7, o8, o9, o10, o11, o12, o13, o14, o15, o16, o17, o18, o19, o20⟩ := h
  exact ⟨o1, o2, o3, o4, o5, o6, o7, o8, o9, o10, o11, h0, h1, o14, o15, o16, o17, o18, o19, o20⟩
theorem Of.ok.ok_order {x : Of} (h : x.ok) (v : Int) (h0 : -10000 ≤ v) (h1 : v ≤ 10000) : ({ x with order := v } : Of).ok := by
  obtain ⟨o1, o2, o3, o4, o5, o6, o7, o8, o9, o10, o11, o12, o13, o14, o15, o16, o17, o18, o19, o20⟩ := h
  exact ⟨o1, o2, o3, o4, o5, o6, o7, o8, o9, o10, o11, o12, o13, o14, h0, h1, o17, o18, o19, o20⟩
theorem Of.ok.ok_from_ {x : Of} (h : x.ok) (v : Int) (h0 : -100000000 ≤ v) (h1 : v ≤ 100000000) : ({ x with from_ := v } : Of).ok := by
  obtain ⟨o1, o2, o3, o4, o5, o6, o7, o8, o9, o10, o11, o12, o13, o14, o15, o16, o17, o18, o19, o20⟩ := h
  exact ⟨o1, o2, o3, o4, o5, o6, o7, o8, o9, o10, o11, o12, o13, o14, o15, o16, h0, h1, o19, o20⟩
theorem Of.ok.ok_to_ {x : Of} (h : x.ok) (v : Int) (h0 : -100000000 ≤ v) (h1 : v ≤ 100000000) : ({ x with to_ := v } : Of).ok := by
  obtain ⟨o1, o2, o3, o4, o5, o6, o7, o8, o9, o10, o11, o12, o13, o14, o15, o16, o17, o18, o19, o20⟩ := h
  exact ⟨o1, o2, o3, o4, o5, o6, o7, o8, o9, o10, o11, o12, o13, o14, o15, o16, o17, o18, h0, h1⟩
theorem Of.ok.ok_key {x : Of} (h : x.ok) (v : ByteArray) (h0 : v.size ≤ 100) : ({ x with key := v } : Of).ok := by
  obtain ⟨o1, o2, o3, o4, o5, o6, o7, o8, o9, o10, o11, o12, o13, o14, o15, o16, o17, o18, o19, o20⟩ := h
  exact ⟨h0, o2, o3, o4, o5, o6, o7, o8, o9, o10, o11, o12, o13, o14, o15, o16, o17, o18, o19, o20⟩
theorem Of.ok.ok_group {x : Of} (h : x.ok) (v : ByteArray) (h0 : v.size ≤ 100) : ({ x with group := v } : Of).ok := by
  obtain ⟨o1, o2, o3, o4, o5, o6, o7, o8, o9, o10, o11, o12, o13, o14, o15, o16, o17, o18, o19, o20⟩ := h
  exact ⟨o1, o2, o3, o4, o5, o6, o7, o8, o9, o10, o11, o12, o13, h0, o15, o16, o17, o18, o19, o20⟩
theorem Of.ok.ok_alone {x : Of} (h : x.ok) (v : Bool) : ({ x with alone := v } : Of).ok := by
  obtain ⟨o1, o2, o3, o4, o5, o6, o7, o8, o9, o10, o11, o12, o13, o14, o15, o16, o17, o18, o19, o20⟩ := h
  exact ⟨o1, o2, o3, o4, o5, o6, o7, o8, o9, o10, o11, o12, o13, o14, o15, o16, o17, o18, o19, o20⟩
theorem Of.ok.ok_tags {x : Of} (h : x.ok) (tv : Option Addr) (tc : Nat) (tags : List ByteArray) (h0 : tags.length ≤ 20) (h1 : ∀ s ∈ tags, s.size ≤ 100) : ({ x with tv := tv, tc := tc, tags := tags } : Of).ok := by
  obtain ⟨o1, o2, o3, o4, o5, o6, o7, o8, o9, o10, o11, o12, o13, o14, o15, o16, o17, o18, o19, o20⟩ := h
  exact ⟨o1, o2, o3, o4, o5, o6, o7, h0, h1, o10, o11, o12, o13, o14, o15, o16, o17, o18, o19, o20⟩
/-- an offer with nothing in it -/
def ofZ : Of := ⟨⟨#[]⟩, 0, 0, 0, none, 0, [], 0, 0, ⟨#[]⟩, false, 0, 0, 0⟩
/-- an offer that is being made: block q0 is the result's, block q the offer's own -/
structure OfW (w : World) (S : SC) (q0 q : Nat) (x : Of) (K : Nat) (wr : World) : Prop where
  strm : Strm wr S K
  grown : w.grownBy wr (some S.g)
  box : OB wr q x.cells 109
  res : OB wr q0 ofZ.cells 109
  tg : TgF wr S x.tv x.tags
  lt : q0 < q
  hw : w.heap.size ≤ q0
  hS : S.g < q0
section
variable {w wr wr' : World} {S : SC} {q0 q : Nat} {x x' : Of} {K K' : Nat}
theorem of_ty : 109 ≠ 9 := by decide
theorem OfW.mono (h : OfW w S q0 q x K wr) (hK : K ≤ K') : OfW w S q0 q x K' wr := ⟨strm_mono h.strm hK, h.grown, h.box, h.res, h.tg, h.lt, h.hw, h.hS⟩
theorem OfW.draw (h : OfW w S q0 q x K wr) (k : wr.grownBy wr' (some S.g)) (s : Strm wr' S K') : OfW w S q0 q x K' wr' := by
  have h2 := h.hS
  have h3 := h.lt
  exact ⟨s, grown_trans h.grown k, h.box.grown k (by simp; omega), h.res.grown k (by simp; omega), h.tg.draw k, h.lt, h.hw, h.hS⟩
theorem OfW.alloc (h : OfW w S q0 q x K wr) (o : Obj) : OfW w S q0 q x K (wr.alloc o) := ⟨strm_alloc h.strm o, grown_alloc h.grown o, h.box.alloc o, h.res.alloc o, h.tg.alloc o, h.lt, h.hw, h.hS⟩
theorem OB.other {q p : Nat} {cs : List Value} {t : TypeId} {w : World} (h : OB w q cs t) (hp : p ≠ q) (i : Nat) (v : Value) : OB (w.setCell ⟨p, i, none⟩ v) q cs t :=
  h.grown (grown_set (grown_same w (some p)) (p := ⟨p, i, none⟩) (.inl rfl) v) (by simpa using hp)
theorem OfW.put (h : OfW w S q0 q x K wr) (i : Nat) (v : Value) (hc : x'.cells = x.cells.set i v) (ht : TgF wr S x'.tv x'.tags) : OfW w S q0 q x' K (wr.setCell ⟨q, i, none⟩ v) := by
  have h1 := h.hw
  have h2 := h.hS
  have h3 := h.lt
  exact ⟨strm_set h.strm (by show S.g < q; omega) v, grown_set h.grown (.inr (by show w.heap.size ≤ q; omega)) v, h.box.put i v hc, h.res.other (by omega) i v, ht.set h.box of_ty, h.lt, h.hw, h.hS⟩
/-- what the maker of an offer leaves -/
def GenOf (S : SC) (K : Nat) (key : ByteArray) (w : World) (e : Ending) (w' : World) : Prop :=
  ∃ x : Of, x.key = key ∧ x.ok ∧ e = .returned (.agg x.cells.toArray) ∧ TgF w' S x.tv x.tags ∧ w.grownBy w' (some S.g) ∧ Strm w' S K
/-- cells of one block, one after the other -/
def sets (w : World) (q : Nat) : Nat → List Value → World
  | _, [] => w
  | i, v :: r => sets (w.setCell ⟨q, i, none⟩ v) q (i + 1) r
theorem sets_kept {b0 : World} {S : SC} {K q : Nat} {t : TypeId} (ht : t ≠ 9) (hq : b0.heap.size ≤ q) (hS : S.g < q) {tv : Option Addr} {tags : List ByteArray} : ∀ (vs cs : List Value) (i : Nat) (w : World), OB w q cs t → Strm w S K → b0.grownBy w (some S.g) → TgF w S tv tags →
    Strm (sets w q i vs) S K ∧ b0.grownBy (sets w q i vs) (some S.g) ∧ TgF (sets w q i vs) S tv tags
  | [], _, _, _, _, s, g, h => ⟨s, g, h⟩
  | v :: vs, cs, i, w, hb, s, g, h => sets_kept ht hq hS vs (cs.set i v) (i + 1) _ (hb.set i v) (strm_set s (by show S.g < q; omega) v) (grown_set g (.inr (by show b0.heap.size ≤ q; omega)) v) (h.set hb ht)
theorem OfW.done (h : OfW w S q0 q x K wr) (hK : K ≤ K') (hx : x.ok) : GenOf S K' x.key w (.returned (.agg x.cells.toArray)) (sets wr q0 0 x.cells) := by
  obtain ⟨s, g, t⟩ := sets_kept of_ty h.hw h.hS x.cells _ 0 wr h.res h.strm h.grown h.tg
  exact ⟨x, rfl, hx, rfl, t, g, strm_mono s hK⟩
end
end Go.Proofs.YtdnikegakcdcnaaDoor
