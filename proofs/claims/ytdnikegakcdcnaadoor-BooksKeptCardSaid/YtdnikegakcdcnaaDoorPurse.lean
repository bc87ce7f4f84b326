/- A purse in memory; clones of budgets and of holds. -/
import Derived.Test.YtdnikegakcdcnaaDoorPaced
import Derived.Test.YtdnikegakcdcnaaDoorBudMake
import Derived.WalkSpells
set_option linter.unusedVariables false
namespace Go.Proofs.YtdnikegakcdcnaaDoor
open Go.RowKit

theorem infoHold : (Tryd.prog.info? 94).map (fun i => (i.zero, i.size, i.bytes)) = some (some (.agg #[.int .i64 0, .string ⟨#[]⟩, .int .i64 0, .int .i64 0, .int .i64 0, .int .i64 0]), 6, 56) := by kernel_rfl

theorem RAt.flat {α : Type} {w : World} {ad : Addr} {C : Nat} {f : α → List Value} {l : List α} (h : RAt w (some ad) C f l) (hf : ∀ x ∈ l, (f x).length = C) (hC : 0 < C) :
    ∀ j u, (l.flatMap f)[j]? = some u → w.cell? (ad.add j) = some u := by
  intro j u hu
  have hlen := fm_length C f l hf
  have hj : j < l.length * C := by
    have := (List.getElem?_eq_some_iff.1 hu).1
    omega
  have hjC : j / C < l.length := Nat.div_lt_of_lt_mul (by rw [Nat.mul_comm]; exact hj)
  have hm := Nat.mod_lt j hC
  have he : j / C * C + j % C = j := by rw [Nat.mul_comm]; exact Nat.div_add_mod j C
  have hg := fm_get C f l hf (j / C) (j % C) hjC hm
  rw [he, hu] at hg
  obtain ⟨p, off, ha, -, hc⟩ := h (j / C) hjC
  injection ha with ha
  subst ha
  have := hc (j % C) u hg.symm
  rw [Nat.add_assoc, he] at this
  unfold Addr.add
  split
  · rename_i h0
    subst h0
    exact this
  · exact this

set_option maxHeartbeats 2000000 in
theorem cloneBud_any (a : Option Addr) (l : List Bd) (n c : Nat) (w : World) (hn : l.length = n) (hn1 : n ≤ 1000) (hI : RAt w a 5 Bd.cells l) :
    Calls Tryd.prog 130 #[.slice a n c] w fun e w' => ∃ v', e = .returned v' ∧ w'.ownsRow w.heap.size 81 5 v' n (l.flatMap Bd.cells) ∧ Below w.heap.size w w' := by
  obtain ⟨i0, hi, hz0, hz1, hz2⟩ := info_parts infoBud
  have heq := fun w a n c => Lib.run_eql_slice_nil (P := Tryd.prog) w 76 81 a n c 0 0 Tryd.underlying76
  cases a with
  | none =>
    have hl : l = [] := by
      cases l with
      | nil => rfl
      | cons x l =>
        obtain ⟨p, off, h, -⟩ := hI 0 (by simp)
        cases h
    subst hl
    obtain rfl : n = 0 := hn.symm
    go_enter Tryd.func130, Tryd.ntmps130
    go_wp2
    go_ret
    exact ⟨_, rfl, World.ownsRow_nil _ _ _ _, Below.refl _ _⟩
  | some ad =>
    have hfl := Lib.hid (RAt.flat (hI.alloc (.cells #[] 81)) (fun x _ => x.len) (by omega))
    have hlen := Lib.hid (fm_length 5 Bd.cells l (fun x _ => x.len))
    rw [hn] at hlen
    have hone : Hid (∀ u ∈ l.flatMap Bd.cells, u.oneCell' = true) := Lib.hid (by
      intro u hu
      obtain ⟨x, -, hx⟩ := List.mem_flatMap.1 hu
      simp only [Bd.cells, List.mem_cons, List.mem_nil_iff, or_false] at hx
      rcases hx with rfl | rfl | rfl | rfl | rfl <;> rfl)
    have hown := World.ownsRow_made (base := w.heap.size) (e := 81) (size := 5) w #[] 0 (Nat.le_refl _) (by unfold maxLen; omega) rfl
    have HB := Lib.hid ((Below.refl w.heap.size w).alloc (Nat.le_refl _) (.cells #[] 81))
    clear hn hI
    go_enter Tryd.func130, Tryd.ntmps130
    go_wp2_with (at_builtin; refine wpList_append_own _ rfl _ _ 76 rfl w.heap.size 81 i0 _ 5 48 Tryd.underlying76 hi hz0 hz1 hz2 rfl (by decide) _ _ _ rfl hown ad n c (l.flatMap Bd.cells) rfl hlen.out hfl.out hone.out ?c3 ?c4 ?c5 ?_)
    case c3 => unfold maxLen; omega
    case c4 => omega
    case c5 => simp
    intro v2 w6 own6 hgrow6 hne6
    have HOW : Hid (w6.ownsRow w.heap.size 81 5 v2 n (l.flatMap Bd.cells)) := Lib.hid own6
    have HB6 := Lib.hid (HB.out.grown hgrow6 (by simp) (fun k hk => (hown.lt k hk).1))
    clear own6 hgrow6 hne6 hown
    go_wp2_with fail
    go_ret
    exact ⟨v2, rfl, HOW.out, HB6.out⟩

set_option maxHeartbeats 2000000 in
theorem cloneHold_any (a : Option Addr) (l : List Hd) (n c : Nat) (w : World) (hn : l.length = n) (hn1 : n ≤ 1000) (hI : RAt w a 6 Hd.cells l) :
    Calls Tryd.prog 139 #[.slice a n c] w fun e w' => ∃ v', e = .returned v' ∧ w'.ownsRow w.heap.size 94 6 v' n (l.flatMap Hd.cells) ∧ Below w.heap.size w w' := by
  obtain ⟨i0, hi, hz0, hz1, hz2⟩ := info_parts infoHold
  have heq := fun w a n c => Lib.run_eql_slice_nil (P := Tryd.prog) w 92 94 a n c 0 0 Tryd.underlying92
  cases a with
  | none =>
    have hl : l = [] := by
      cases l with
      | nil => rfl
      | cons x l =>
        obtain ⟨p, off, h, -⟩ := hI 0 (by simp)
        cases h
    subst hl
    obtain rfl : n = 0 := hn.symm
    go_enter Tryd.func139, Tryd.ntmps139
    go_wp2
    go_ret
    exact ⟨_, rfl, World.ownsRow_nil _ _ _ _, Below.refl _ _⟩
  | some ad =>
    have hfl := Lib.hid (RAt.flat (hI.alloc (.cells #[] 94)) (fun x _ => x.len) (by omega))
    have hlen := Lib.hid (fm_length 6 Hd.cells l (fun x _ => x.len))
    rw [hn] at hlen
    have hone : Hid (∀ u ∈ l.flatMap Hd.cells, u.oneCell' = true) := Lib.hid (by
      intro u hu
      obtain ⟨x, -, hx⟩ := List.mem_flatMap.1 hu
      simp only [Hd.cells, List.mem_cons, List.mem_nil_iff, or_false] at hx
      rcases hx with rfl | rfl | rfl | rfl | rfl | rfl <;> rfl)
    have hown := World.ownsRow_made (base := w.heap.size) (e := 94) (size := 6) w #[] 0 (Nat.le_refl _) (by unfold maxLen; omega) rfl
    have HB := Lib.hid ((Below.refl w.heap.size w).alloc (Nat.le_refl _) (.cells #[] 94))
    clear hn hI
    go_enter Tryd.func139, Tryd.ntmps139
    go_wp2_with (at_builtin; refine wpList_append_own _ rfl _ _ 92 rfl w.heap.size 94 i0 _ 6 56 Tryd.underlying92 hi hz0 hz1 hz2 rfl (by decide) _ _ _ rfl hown ad n c (l.flatMap Hd.cells) rfl hlen.out hfl.out hone.out ?c3 ?c4 ?c5 ?_)
    case c3 => unfold maxLen; omega
    case c4 => omega
    case c5 => simp
    intro v2 w6 own6 hgrow6 hne6
    have HOW : Hid (w6.ownsRow w.heap.size 94 6 v2 n (l.flatMap Hd.cells)) := Lib.hid own6
    have HB6 := Lib.hid (HB.out.grown hgrow6 (by simp) (fun k hk => (hown.lt k hk).1))
    clear own6 hgrow6 hne6 hown
    go_wp2_with fail
    go_ret
    exact ⟨v2, rfl, HOW.out, HB6.out⟩

/-- a purse: block g is its header; its budgets are read alone, its holds are a row of its own from block b0 on; gs are the headers of all purses -/
structure Pu (b0 : Nat) (gs : List Nat) (t : TypeId) (g : Nat) (bl : List Bd) (hv : Value) (hl : List Hd) (now : Int) (w : World) : Prop where
  hdr : ∃ ba bc, w.heap[g]? = some (.cells #[.slice ba bl.length bc, hv, .int .i64 now] t (0, 0)) ∧ RAt w ba 5 Bd.cells bl ∧ bl.length ≤ bc ∧ bc ≤ maxLen ∧ ∀ p off, ba = some ⟨p, off, none⟩ → p < b0 ∧ p ∉ gs
  own : w.ownsRow b0 94 6 hv hl.length (hl.flatMap Hd.cells)
  mem : g ∈ gs
  glt : ∀ x ∈ gs, x < b0
  le : b0 ≤ w.heap.size
section
variable {b0 : Nat} {gs : List Nat} {t : TypeId} {g : Nat} {bl : List Bd} {hv : Value} {hl : List Hd} {now : Int} {w w' : World} {B : Nat → Prop}
theorem Pu.step (h : Pu b0 gs t g bl hv hl now w) (k : Chg w w' B) (hB : ∀ i, B i → i ≠ g ∧ hv.ownBlock ≠ some i ∧ (i < b0 → i ∈ gs)) : Pu b0 gs t g bl hv hl now w' := by
  obtain ⟨ba, bc, h1, h2, h3, h4, h5⟩ := h.hdr
  refine ⟨⟨ba, bc, k.blk h1 (fun hb => (hB g hb).1 rfl), k.recs h2 (fun p off e hb => ?_), h3, h4, h5⟩, k.own h.own (fun i hi hb => (hB i hb).2.1 hi), h.mem, h.glt, Nat.le_trans h.le k.size⟩
  exact (h5 p off e).2 ((hB p hb).2.2 (h5 p off e).1)
theorem Pu.below (h : Pu b0 gs t g bl hv hl now w) (k : Below w.heap.size w w') : Pu b0 gs t g bl hv hl now w' := h.step (B := fun _ => False) (Chg.of_below k _) (fun i hi => hi.elim)
theorem Pu.cells (h : Pu b0 gs t g bl hv hl now w) : ∃ ba bc, w.cell? ⟨g, 0, none⟩ = some (.slice ba bl.length bc) ∧ w.cell? ⟨g, 1, none⟩ = some hv ∧ w.cell? ⟨g, 2, none⟩ = some (.int .i64 now) ∧ g < w.heap.size ∧ RAt w ba 5 Bd.cells bl ∧ w.frozen? ⟨g, 1, none⟩ = false ∧ w.frozen? ⟨g, 2, none⟩ = false := by
  obtain ⟨ba, bc, h1, h2, -⟩ := h.hdr
  have hlt := Nat.lt_of_lt_of_le (h.glt g h.mem) h.le
  exact ⟨ba, bc, by simp [World.cell?, h1], by simp [World.cell?, h1], by simp [World.cell?, h1], hlt, h2, by simp [World.frozen?, h1], by simp [World.frozen?, h1]⟩
theorem Pu.holds (h : Pu b0 gs t g bl hv hl now w) : ∃ a c, hv = .slice a hl.length c ∧ RAt w a 6 Hd.cells hl ∧ hl.length ≤ c ∧ c ≤ maxLen := RAt.of_own h.own (fun x _ => x.len)
end
def zeroBd : Bd := ⟨⟨#[]⟩, 0, 0, 0, false⟩
def bdGet (l : List Bd) (key : ByteArray) : Bd := if bdAt l key < 0 then zeroBd else l.getD (bdAt l key).toNat zeroBd
theorem bdGet_mem {l : List Bd} {key : ByteArray} (h : 0 ≤ bdAt l key) : bdGet l key ∈ l := by
  have hb := bdAt_bd l key
  unfold bdGet
  rw [if_neg (by omega), List.getD_eq_getElem?_getD, List.getElem?_eq_getElem (by omega)]
  exact List.getElem_mem _
end Go.Proofs.YtdnikegakcdcnaaDoor
