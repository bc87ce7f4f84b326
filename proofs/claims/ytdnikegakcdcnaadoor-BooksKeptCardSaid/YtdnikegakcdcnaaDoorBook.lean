/- A book in memory; clones of coupons and of redemptions (printed by gen_book.py). -/
import Derived.Test.YtdnikegakcdcnaaDoorCpNew
import Derived.Test.YtdnikegakcdcnaaDoorPurse2
set_option linter.unusedVariables false
namespace Go.Proofs.YtdnikegakcdcnaaDoor
open Go.RowKit

theorem infoCp : (Tryd.prog.info? 144).map (fun i => (i.zero, i.size, i.bytes)) = some (some (.agg #[.string ⟨#[]⟩, .string ⟨#[]⟩, .int .i64 0, .int .i64 0, .int .i64 0, .int .i64 0]), 6, 64) := by kernel_rfl
theorem infoRd : (Tryd.prog.info? 74).map (fun i => (i.zero, i.size, i.bytes)) = some (some (.agg #[.int .i64 0, .string ⟨#[]⟩, .string ⟨#[]⟩, .int .i64 0, .int .i64 0]), 5, 56) := by kernel_rfl

set_option maxHeartbeats 2000000 in
theorem cloneCp_any (a : Option Addr) (l : List Cp) (n c : Nat) (w : World) (hn : l.length = n) (hn1 : n ≤ 1000) (hI : RAt w a 6 Cp.cells l) :
    Calls Tryd.prog 120 #[.slice a n c] w fun e w' => ∃ v', e = .returned v' ∧ w'.ownsRow w.heap.size 144 6 v' n (l.flatMap Cp.cells) ∧ Below w.heap.size w w' := by
  obtain ⟨i0, hi, hz0, hz1, hz2⟩ := info_parts infoCp
  have heq := fun w a n c => Lib.run_eql_slice_nil (P := Tryd.prog) w 59 144 a n c 0 0 Tryd.underlying59
  cases a with
  | none =>
    have hl : l = [] := by
      cases l with
      | nil => rfl
      | cons x l =>
        obtain ⟨p, off, h, -⟩ := hI 0 (by simp)
        cases h
    subst hl
    obtain rfl : n = 0 := hn.symm
    go_enter Tryd.func120, Tryd.ntmps120
    go_wp2
    go_ret
    exact ⟨_, rfl, World.ownsRow_nil _ _ _ _, Below.refl _ _⟩
  | some ad =>
    have hfl := Lib.hid (RAt.flat (hI.alloc (.cells #[] 144)) (fun x _ => x.len) (by omega))
    have hlen := Lib.hid (fm_length 6 Cp.cells l (fun x _ => x.len))
    rw [hn] at hlen
    have hone : Hid (∀ u ∈ l.flatMap Cp.cells, u.oneCell' = true) := Lib.hid (by
      intro u hu
      obtain ⟨x, -, hx⟩ := List.mem_flatMap.1 hu
      simp only [Cp.cells, List.mem_cons, List.mem_nil_iff, or_false] at hx
      rcases hx with rfl | rfl | rfl | rfl | rfl | rfl <;> rfl)
    have hown := World.ownsRow_made (base := w.heap.size) (e := 144) (size := 6) w #[] 0 (Nat.le_refl _) (by unfold maxLen; omega) rfl
    have HB := Lib.hid ((Below.refl w.heap.size w).alloc (Nat.le_refl _) (.cells #[] 144))
    clear hn hI
    go_enter Tryd.func120, Tryd.ntmps120
    go_wp2_with (at_builtin; refine wpList_append_own _ rfl _ _ 59 rfl w.heap.size 144 i0 _ 6 64 Tryd.underlying59 hi hz0 hz1 hz2 rfl (by decide) _ _ _ rfl hown ad n c (l.flatMap Cp.cells) rfl hlen.out hfl.out hone.out ?c3 ?c4 ?c5 ?_)
    case c3 => unfold maxLen; omega
    case c4 => omega
    case c5 => simp
    intro v2 w6 own6 hgrow6 hne6
    have HOW : Hid (w6.ownsRow w.heap.size 144 6 v2 n (l.flatMap Cp.cells)) := Lib.hid own6
    have HB6 := Lib.hid (HB.out.grown hgrow6 (by simp) (fun k hk => (hown.lt k hk).1))
    clear own6 hgrow6 hne6 hown
    go_wp2_with fail
    go_ret
    exact ⟨v2, rfl, HOW.out, HB6.out⟩

set_option maxHeartbeats 2000000 in
theorem cloneRd_any (a : Option Addr) (l : List Rd) (n c : Nat) (w : World) (hn : l.length = n) (hn1 : n ≤ 1000) (hI : RAt w a 5 Rd.cells l) :
    Calls Tryd.prog 125 #[.slice a n c] w fun e w' => ∃ v', e = .returned v' ∧ w'.ownsRow w.heap.size 74 5 v' n (l.flatMap Rd.cells) ∧ Below w.heap.size w w' := by
  obtain ⟨i0, hi, hz0, hz1, hz2⟩ := info_parts infoRd
  have heq := fun w a n c => Lib.run_eql_slice_nil (P := Tryd.prog) w 72 74 a n c 0 0 Tryd.underlying72
  cases a with
  | none =>
    have hl : l = [] := by
      cases l with
      | nil => rfl
      | cons x l =>
        obtain ⟨p, off, h, -⟩ := hI 0 (by simp)
        cases h
    subst hl
    obtain rfl : n = 0 := hn.symm
    go_enter Tryd.func125, Tryd.ntmps125
    go_wp2
    go_ret
    exact ⟨_, rfl, World.ownsRow_nil _ _ _ _, Below.refl _ _⟩
  | some ad =>
    have hfl := Lib.hid (RAt.flat (hI.alloc (.cells #[] 74)) (fun x _ => x.len) (by omega))
    have hlen := Lib.hid (fm_length 5 Rd.cells l (fun x _ => x.len))
    rw [hn] at hlen
    have hone : Hid (∀ u ∈ l.flatMap Rd.cells, u.oneCell' = true) := Lib.hid (by
      intro u hu
      obtain ⟨x, -, hx⟩ := List.mem_flatMap.1 hu
      simp only [Rd.cells, List.mem_cons, List.mem_nil_iff, or_false] at hx
      rcases hx with rfl | rfl | rfl | rfl | rfl <;> rfl)
    have hown := World.ownsRow_made (base := w.heap.size) (e := 74) (size := 5) w #[] 0 (Nat.le_refl _) (by unfold maxLen; omega) rfl
    have HB := Lib.hid ((Below.refl w.heap.size w).alloc (Nat.le_refl _) (.cells #[] 74))
    clear hn hI
    go_enter Tryd.func125, Tryd.ntmps125
    go_wp2_with (at_builtin; refine wpList_append_own _ rfl _ _ 72 rfl w.heap.size 74 i0 _ 5 56 Tryd.underlying72 hi hz0 hz1 hz2 rfl (by decide) _ _ _ rfl hown ad n c (l.flatMap Rd.cells) rfl hlen.out hfl.out hone.out ?c3 ?c4 ?c5 ?_)
    case c3 => unfold maxLen; omega
    case c4 => omega
    case c5 => simp
    intro v2 w6 own6 hgrow6 hne6
    have HOW : Hid (w6.ownsRow w.heap.size 74 5 v2 n (l.flatMap Rd.cells)) := Lib.hid own6
    have HB6 := Lib.hid (HB.out.grown hgrow6 (by simp) (fun k hk => (hown.lt k hk).1))
    clear own6 hgrow6 hne6 hown
    go_wp2_with fail
    go_ret
    exact ⟨v2, rfl, HOW.out, HB6.out⟩

/-- a book: block g is its header: what tells its coupons (h0; F), and its redemptions, a row of its own from block b0 on; gs are the headers of all books -/
structure Bk (b0 : Nat) (gs : List Nat) (t : TypeId) (g : Nat) (h0 : Value) (F : World → Prop) (hv : Value) (hl : List Rd) (w : World) : Prop where
  hdr : w.heap[g]? = some (.cells #[h0, hv] t (0, 0))
  fact : F w
  stay : ∀ (w' w'' : World) (B : Nat → Prop), b0 ≤ w'.heap.size → Chg w' w'' B → (∀ i, B i → i < b0 → i ∈ gs) → F w' → F w''
  own : w.ownsRow b0 74 5 hv hl.length (hl.flatMap Rd.cells)
  mem : g ∈ gs
  glt : ∀ x ∈ gs, x < b0
  le : b0 ≤ w.heap.size
/-- the coupons of the reference's book -/
def FR (ba : Option Addr) (l : List Cp) (w : World) : Prop := RAt w ba 6 Cp.cells l
theorem FR.stay {b0 : Nat} {gs : List Nat} {ba : Option Addr} {l : List Cp} (h : ∀ p off, ba = some ⟨p, off, none⟩ → p < b0 ∧ p ∉ gs) (w' w'' : World) (B : Nat → Prop) (hb : b0 ≤ w'.heap.size) (k : Chg w' w'' B) (hB : ∀ i, B i → i < b0 → i ∈ gs) (hF : FR ba l w') : FR ba l w'' :=
  k.recs hF (fun p off e hb => (h p off e).2 (hB p hb (h p off e).1))
/-- the coupons of the program's book -/
def FX (m n : Nat) (l : List Cp) (w : World) : Prop := CpMap w m n l
theorem FX.stay {b0 : Nat} {gs : List Nat} {m n : Nat} {l : List Cp} (h : m < b0 ∧ m ∉ gs) (w' w'' : World) (B : Nat → Prop) (hb : b0 ≤ w'.heap.size) (k : Chg w' w'' B) (hB : ∀ i, B i → i < b0 → i ∈ gs) (hF : FX m n l w') : FX m n l w'' :=
  CpMap.blk hF (k.block m (by have := h.1; omega) (fun hb => h.2 (hB m hb h.1)))
section
variable {b0 : Nat} {gs : List Nat} {t : TypeId} {g : Nat} {h0 : Value} {F : World → Prop} {hv : Value} {hl : List Rd} {w w' w1 wb : World} {B : Nat → Prop}
theorem Bk.step (h : Bk b0 gs t g h0 F hv hl w) (k : Chg w w' B) (hB : ∀ i, B i → i ≠ g ∧ hv.ownBlock ≠ some i ∧ (i < b0 → i ∈ gs)) : Bk b0 gs t g h0 F hv hl w' :=
  ⟨k.blk h.hdr (fun hb => (hB g hb).1 rfl), h.stay _ _ B h.le k (fun i hi => (hB i hi).2.2) h.fact, h.stay, k.own h.own (fun i hi hb => (hB i hb).2.1 hi), h.mem, h.glt, Nat.le_trans h.le k.size⟩
theorem Bk.below (h : Bk b0 gs t g h0 F hv hl w) (k : Below w.heap.size w w') : Bk b0 gs t g h0 F hv hl w' := h.step (B := fun _ => False) (Chg.of_below k _) (fun i hi => hi.elim)
theorem Bk.cells (h : Bk b0 gs t g h0 F hv hl w) : w.cell? ⟨g, 0, none⟩ = some h0 ∧ w.cell? ⟨g, 1, none⟩ = some hv ∧ g < w.heap.size ∧ w.frozen? ⟨g, 1, none⟩ = false :=
  ⟨by simp [World.cell?, h.hdr], by simp [World.cell?, h.hdr], Nat.lt_of_lt_of_le (h.glt g h.mem) h.le, by simp [World.frozen?, h.hdr]⟩
theorem Bk.uses (h : Bk b0 gs t g h0 F hv hl w) : ∃ a c, hv = .slice a hl.length c ∧ RAt w a 5 Rd.cells hl ∧ hl.length ≤ c ∧ c ≤ maxLen := RAt.of_own h.own (fun x _ => x.len)
theorem Bk.setUn {k n cap : Nat} {j : Nat} (h : Bk b0 gs t g h0 F (.slice (some ⟨k, 0, none⟩) n cap) hl w) (hn : hl.length = n) (hj : j < hl.length) (u : Int) :
    Bk b0 gs t g h0 F (.slice (some ⟨k, 0, none⟩) n cap) (hl.set j (unSet hl[j] u)) (w.setCell ⟨k, j * 5 + 4, none⟩ (.int .i64 u)) ∧
    Chg w (w.setCell ⟨k, j * 5 + 4, none⟩ (.int .i64 u)) (PB g (.slice (some ⟨k, 0, none⟩) n cap)) ∧ w.cell? ⟨k, j * 5 + 4, none⟩ = some (.int .i64 hl[j].undone) ∧ w.frozen? ⟨k, j * 5 + 4, none⟩ = false := by
  subst hn
  have hgl := h.glt g h.mem
  have hk := (h.own.lt k (by simp [Value.ownBlock])).1
  have kc : Chg w (w.setCell ⟨k, j * 5 + 4, none⟩ (.int .i64 u)) (fun i => i = k) := Chg.one w ⟨k, j * 5 + 4, none⟩ _
  obtain ⟨o1, o2⟩ := h.own.stored (j * 5 + 4) (.int .i64 u)
  rw [fm_set 5 Rd.cells hl (fun x _ => x.len) j 4 hj (by omega) (unSet hl[j] u) (.int .i64 u) rfl] at o1
  refine ⟨⟨kc.blk h.hdr (fun e => by omega), h.stay _ _ _ h.le kc (fun i hi hlt => by omega) h.fact, h.stay, by simpa using o1, h.mem, h.glt, Nat.le_trans h.le kc.size⟩, kc.mono fun i hi => .inl (.inr (by rw [hi]; rfl)), ?_, h.own.frozenAt _⟩
  rw [h.own.cellAt _ (by omega), fm_get 5 Rd.cells hl (fun x _ => x.len) j 4 hj (by omega)]
  rfl
/-- a redemption more -/
theorem Bk.app {k n cap : Nat} {x : Rd} (h : Bk b0 gs t g h0 F hv hl w) (hn : hl.length = n) (hR : w.grownBy wb none)
    (own : w1.ownsRow b0 74 5 (.slice (some ⟨k, 0, none⟩) (n + 1) cap) (n + 1) (hl.flatMap Rd.cells ++ x.cells)) (hg : wb.grownBy w1 hv.ownBlock) (hat : hv.ownBlock = some k ∨ k = wb.heap.size) :
    w1.cell? ⟨g, 1, none⟩ = some hv ∧ w1.frozen? ⟨g, 1, none⟩ = false ∧
    Bk b0 gs t g h0 F (.slice (some ⟨k, 0, none⟩) (n + 1) cap) (hl ++ [x]) (w1.setCell ⟨g, 1, none⟩ (.slice (some ⟨k, 0, none⟩) (n + 1) cap)) ∧
    Chg w (w1.setCell ⟨g, 1, none⟩ (.slice (some ⟨k, 0, none⟩) (n + 1) cap)) (PB g hv) ∧
    (hv.ownBlock = some k ∨ w.heap.size ≤ k) := by
  subst hn
  have h1 := h.hdr
  have hgl := h.glt g h.mem
  have hrow : ∀ q, hv.ownBlock = some q → b0 ≤ q := fun q hq => (h.own.lt q hq).1
  have c1 : Chg w w1 (fun i => hv.ownBlock = some i) := (Chg.of_grown (B := fun i => hv.ownBlock = some i) hR (fun q e => by cases e)).trans (Chg.of_grown (B := fun i => hv.ownBlock = some i) hg (fun q e => e)) (fun i hi => .inl hi)
  have hng : ¬ hv.ownBlock = some g := fun e => by have := hrow g e; omega
  have hb1 := c1.blk h1 hng
  have c2 : Chg w1 (w1.setCell ⟨g, 1, none⟩ (.slice (some ⟨k, 0, none⟩) (hl.length + 1) cap)) (fun i => i = g) := Chg.one w1 ⟨g, 1, none⟩ _
  have hkb := (own.lt k (by simp [Value.ownBlock])).1
  have c3 : Chg w (w1.setCell ⟨g, 1, none⟩ (.slice (some ⟨k, 0, none⟩) (hl.length + 1) cap)) (PB g hv) := (c1.mono (B' := PB g hv) fun i hi => .inl (.inr hi)).trans c2 (fun i hi => .inl (.inl hi))
  refine ⟨by simp [World.cell?, hb1], by simp [World.frozen?, hb1], ⟨?_, h.stay _ _ _ h.le c3 (fun i hi hlt => ?_) h.fact, h.stay, ?_, h.mem, h.glt, ?_⟩, c3, ?_⟩
  · simp [World.setCell, Array.getElem?_modify, hb1]
  · rcases hi with e | e
    · rw [e]; exact h.mem
    · have := hrow i e; omega
  · have := c2.own own (fun i hi hb => by
      have : k = i := by simpa [Value.ownBlock] using hi
      omega)
    simpa using this
  · exact Nat.le_trans h.le (Nat.le_trans c1.size c2.size)
  · rcases hat with e | e
    · exact .inl e
    · right
      have := hR.size
      omega
end
/-- what a call that may write a book leaves -/
def BOut (b0 : Nat) (gs : List Nat) (t : TypeId) (g : Nat) (h0 : Value) (F : World → Prop) (hv : Value) (w : World) (r : Value) (hl' : List Rd) (e : Ending) (w' : World) : Prop :=
  ∃ hv', e = .returned r ∧ Bk b0 gs t g h0 F hv' hl' w' ∧ Chg w w' (PB g hv) ∧ (∀ k, hv'.ownBlock = some k → hv.ownBlock = some k ∨ w.heap.size ≤ k)
theorem BOut.same {b0 : Nat} {gs : List Nat} {t : TypeId} {g : Nat} {h0 : Value} {F : World → Prop} {hv : Value} {hl : List Rd} {w w' : World} {r : Value} (h : Bk b0 gs t g h0 F hv hl w) (hb : Below w.heap.size w w') : BOut b0 gs t g h0 F hv w r hl (.returned r) w' :=
  ⟨hv, rfl, h.below hb, Chg.of_below hb _, fun k hk => .inl hk⟩
end Go.Proofs.YtdnikegakcdcnaaDoor
