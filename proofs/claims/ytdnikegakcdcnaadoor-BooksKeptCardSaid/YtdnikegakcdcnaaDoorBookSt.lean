/- Both books side by side, beside the stream (printed by gen_bookst.py). -/
import Derived.Test.YtdnikegakcdcnaaDoorBook
import Derived.Laws.StructEq
import Derived.Deep.QuietTactic
import Derived.BigQuiet
set_option linter.unusedVariables false
namespace Go.Proofs.YtdnikegakcdcnaaDoor
open Go.RowKit

/-- a book of the reference that was just made -/
def RbNew (w : World) (l : List Cp) (g : Nat) (ba : Option Addr) (bc : Nat) (w' : World) : Prop :=
  w'.heap[g]? = some (.cells #[.slice ba l.length bc, .slice none 0 0] 155 (0, 0)) ∧ RAt w' ba 6 Cp.cells l ∧ (∀ p off, ba = some ⟨p, off, none⟩ → w.heap.size ≤ p ∧ p < g) ∧ w.heap.size ≤ g
set_option maxHeartbeats 2000000 in
theorem NewBookRef_any (a : Option Addr) (l : List Cp) (n c : Nat) (w : World) (hn : l.length = n) (hn1 : n ≤ 50) (hI : RAt w a 6 Cp.cells l) :
    Calls Tryd.prog 38 #[.slice a n c] w fun e w' => ∃ g ba bc, e = .returned (.pointer (some ⟨g, 0, none⟩)) ∧ RbNew w l g ba bc w' ∧ Below w.heap.size w w' := by
  have CC := Lib.hid (cloneCp_any a l n c w hn (by omega) hI)
  have HN := Lib.hid hn
  clear hn hI
  go_enter Tryd.func38, Tryd.ntmps38
  go_wp2_with fail
  with_reducible refine CC.out.mono ?_
  rintro e w1 ⟨v, rfl, hown, b1⟩
  have hown2 : w1.ownsRow w.heap.size 144 6 v l.length (l.flatMap Cp.cells) := by rw [HN.out]; exact hown
  obtain ⟨a2, c2, hv2, hI2, -, -⟩ := RAt.of_own hown2 (fun x _ => x.len)
  subst hv2
  have HR := Lib.hid (show RbNew w l w1.heap.size a2 c2 (w1.alloc (.cells #[.slice a2 l.length c2, .slice none 0 0] 155)) from
    ⟨heap_alloc_new _ _, hI2.alloc _, fun p off e => by subst e; exact hown2.lt p (by simp [Value.ownBlock]), b1.size⟩)
  have HB := Lib.hid (b1.alloc b1.size (.cells #[.slice a2 l.length c2, .slice none 0 0] 155))
  clear hown hown2 b1 hI2
  go_wp2_with fail
  go_ret
  exact ⟨_, a2, c2, rfl, HR.out, HB.out⟩
structure BS (w0 : World) (S : SC) (K b0 gx gy m nn bc : Nat) (ba : Option Addr) (l : List Cp) (hvx hvy : Value) (hx hy : List Rd) (wr : World) : Prop where
  px : Bk b0 [gx, gy, S.g] 148 gx (.map (some m)) (FX m nn l) hvx hx wr
  py : Bk b0 [gx, gy, S.g] 155 gy (.slice ba l.length bc) (FR ba l) hvy hy wr
  dis : ∀ k, hvx.ownBlock = some k → hvy.ownBlock ≠ some k
  st : Strm wr S K
  bel : Below w0.heap.size w0 wr
  h1 : w0.heap.size ≤ S.g
  h2 : S.g < gx
  h3 : gx < gy
section
variable {w0 : World} {S : SC} {K K' b0 gx gy m nn bc : Nat} {ba : Option Addr} {l : List Cp} {hvx hvy hvx' hvy' : Value} {hx hy hx' hy' : List Rd} {wr wr' : World}
theorem BS.lt (h : BS w0 S K b0 gx gy m nn bc ba l hvx hvy hx hy wr) : gx < b0 ∧ gy < b0 ∧ S.g < b0 ∧ b0 ≤ wr.heap.size := ⟨h.px.glt gx (by simp), h.px.glt gy (by simp), h.px.glt S.g (by simp), h.px.le⟩
theorem BS.mono (h : BS w0 S K b0 gx gy m nn bc ba l hvx hvy hx hy wr) (hK : K ≤ K') : BS w0 S K' b0 gx gy m nn bc ba l hvx hvy hx hy wr := ⟨h.px, h.py, h.dis, strm_mono h.st hK, h.bel, h.h1, h.h2, h.h3⟩
theorem BS.draw (h : BS w0 S K b0 gx gy m nn bc ba l hvx hvy hx hy wr) (k : wr.grownBy wr' (some S.g)) (s : Strm wr' S K') : BS w0 S K' b0 gx gy m nn bc ba l hvx hvy hx hy wr' := by
  obtain ⟨l1, l2, l3, l4⟩ := h.lt
  have h1 := h.h1
  have h2 := h.h2
  have h3 := h.h3
  have c : Chg wr wr' (fun i => i = S.g) := Chg.of_grown k (fun q e => by injection e with e; exact e.symm)
  refine ⟨h.px.step c (fun i hi => ?_), h.py.step c (fun i hi => ?_), h.dis, s, h.bel.trans (c.below (by have := h.bel.size; omega) (fun i hi => by rw [hi]; exact h1)), h1, h2, h3⟩
  · refine ⟨by omega, fun e => ?_, fun _ => by rw [hi]; simp⟩
    have := (h.px.own.lt i e).1
    omega
  · refine ⟨by omega, fun e => ?_, fun _ => by rw [hi]; simp⟩
    have := (h.py.own.lt i e).1
    omega
theorem BS.below (h : BS w0 S K b0 gx gy m nn bc ba l hvx hvy hx hy wr) (b : Below wr.heap.size wr wr') : BS w0 S K b0 gx gy m nn bc ba l hvx hvy hx hy wr' := h.draw (grown_of_below b _) (strm_below h.st b)
theorem BS.opX (h : BS w0 S K b0 gx gy m nn bc ba l hvx hvy hx hy wr) (o : Bk b0 [gx, gy, S.g] 148 gx (.map (some m)) (FX m nn l) hvx' hx' wr') (c : Chg wr wr' (PB gx hvx)) (w : ∀ k, hvx'.ownBlock = some k → hvx.ownBlock = some k ∨ wr.heap.size ≤ k) :
    BS w0 S K b0 gx gy m nn bc ba l hvx' hvy hx' hy wr' := by
  obtain ⟨l1, l2, l3, l4⟩ := h.lt
  have h1 := h.h1
  have h2 := h.h2
  have h3 := h.h3
  have hb : ∀ i, PB gx hvx i → i = gx ∨ (hvx.ownBlock = some i ∧ b0 ≤ i) := fun i hi => by
    rcases hi with e | e
    · exact .inl e
    · exact .inr ⟨e, (h.px.own.lt i e).1⟩
  refine ⟨o, h.py.step c (fun i hi => ?_), fun k hk hy' => ?_, c.strm h.st (fun i hi => ?_), h.bel.trans (c.below (by have := h.bel.size; omega) (fun i hi => ?_)), h1, h2, h3⟩
  · rcases hb i hi with e | ⟨e, e2⟩
    · refine ⟨by omega, fun e' => ?_, fun _ => by rw [e]; simp⟩
      have := (h.py.own.lt i e').1
      omega
    · exact ⟨by omega, h.dis i e, fun hlt => by omega⟩
  · rcases w k hk with e | e
    · exact h.dis k e hy'
    · have := (h.py.own.lt k hy').2
      omega
  · rcases hb i hi with e | ⟨e, e2⟩ <;> omega
  · rcases hb i hi with e | ⟨e, e2⟩ <;> omega
theorem BS.opY (h : BS w0 S K b0 gx gy m nn bc ba l hvx hvy hx hy wr) (o : Bk b0 [gx, gy, S.g] 155 gy (.slice ba l.length bc) (FR ba l) hvy' hy' wr') (c : Chg wr wr' (PB gy hvy)) (w : ∀ k, hvy'.ownBlock = some k → hvy.ownBlock = some k ∨ wr.heap.size ≤ k) :
    BS w0 S K b0 gx gy m nn bc ba l hvx hvy' hx hy' wr' := by
  obtain ⟨l1, l2, l3, l4⟩ := h.lt
  have h1 := h.h1
  have h2 := h.h2
  have h3 := h.h3
  have hb : ∀ i, PB gy hvy i → i = gy ∨ (hvy.ownBlock = some i ∧ b0 ≤ i) := fun i hi => by
    rcases hi with e | e
    · exact .inl e
    · exact .inr ⟨e, (h.py.own.lt i e).1⟩
  refine ⟨h.px.step c (fun i hi => ?_), o, fun k hk hy' => ?_, c.strm h.st (fun i hi => ?_), h.bel.trans (c.below (by have := h.bel.size; omega) (fun i hi => ?_)), h1, h2, h3⟩
  · rcases hb i hi with e | ⟨e, e2⟩
    · refine ⟨by omega, fun e' => ?_, fun _ => by rw [e]; simp⟩
      have := (h.px.own.lt i e').1
      omega
    · exact ⟨by omega, fun e' => h.dis i e' e, fun hlt => by omega⟩
  · rcases w k hy' with e | e
    · exact h.dis k hk e
    · have := (h.px.own.lt k hk).2
      omega
  · rcases hb i hi with e | ⟨e, e2⟩ <;> omega
  · rcases hb i hi with e | ⟨e, e2⟩ <;> omega
/-- two books that were just made -/
theorem BS.start {wa wb wc : World} (sc : Strm wc S K) (hx : NbNew wa l m wb) (hy : RbNew wb l gy ba bc wc) (bb : Below wb.heap.size wb wc) (hb : Below w0.heap.size w0 wc) (h1 : w0.heap.size ≤ S.g) (h2 : S.g < wa.heap.size) :
    ∃ nn, BS w0 S K wc.heap.size (m + 1) gy m nn bc ba l (.slice none 0 0) (.slice none 0 0) [] [] wc := by
  obtain ⟨x1, x2, nn, x3⟩ := hx
  obtain ⟨y1, y2, y3, y4⟩ := hy
  have lm : m < wb.heap.size := x3.lt
  have lx : m + 1 < wb.heap.size := by
    rcases Nat.lt_or_ge (m + 1) wb.heap.size with h | h
    · exact h
    · rw [Array.getElem?_eq_none h] at x2; cases x2
  have ly : gy < wc.heap.size := by
    rcases Nat.lt_or_ge gy wc.heap.size with h | h
    · exact h
    · rw [Array.getElem?_eq_none h] at y1; cases y1
  have hg := bb.size
  have hgl : ∀ x ∈ [m + 1, gy, S.g], x < wc.heap.size := fun x hx => by
    simp only [List.mem_cons, List.mem_nil_iff, or_false] at hx
    omega
  have hm : m < wc.heap.size ∧ m ∉ [m + 1, gy, S.g] := by
    refine ⟨by omega, ?_⟩
    simp only [List.mem_cons, List.mem_nil_iff, or_false]
    omega
  have hr : ∀ p off, ba = some ⟨p, off, none⟩ → p < wc.heap.size ∧ p ∉ [m + 1, gy, S.g] := fun p off e => by
    have := y3 p off e
    refine ⟨by omega, ?_⟩
    simp only [List.mem_cons, List.mem_nil_iff, or_false]
    omega
  exact ⟨nn, ⟨(bb.block (m + 1) lx).trans x2, x3.below bb, FX.stay hm, World.ownsRow_nil _ _ _ _, by simp, hgl, Nat.le_refl _⟩, ⟨y1, y2, FR.stay hr, World.ownsRow_nil _ _ _ _, by simp, hgl, Nat.le_refl _⟩, fun k hk => by simp [Value.ownBlock] at hk, sc, hb, h1, by omega, by omega⟩
end
theorem rdV_form (l : List Cp) (hl : List Rd) (code who : ByteArray) (t : Int) : ∃ a e : Int, rdV l hl code who t = .tuple #[.int .i64 a, .int .i64 e] := by
  unfold rdV
  split
  · exact ⟨_, _, rfl⟩
  · exact ⟨_, _, rfl⟩
theorem frV_form (l : List Cp) (hl : List Rd) (code who : ByteArray) (t : Int) : ∃ a e : Int, frV l hl code who t = .tuple #[.int .i64 a, .int .i64 e] := by
  unfold frV
  split
  · exact ⟨_, _, rfl⟩
  · split
    · exact ⟨_, _, rfl⟩
    · exact ⟨_, _, rfl⟩
theorem rdL_len (l : List Cp) (hl : List Rd) (code who : ByteArray) (t : Int) : (rdL l hl code who t).length ≤ hl.length + 1 := by
  unfold rdL
  split
  · simp
  · omega
theorem unL_len (hl : List Rd) (no t : Int) : (unL hl no t).length = hl.length := by
  unfold unL
  split
  · simp
  · rfl
end Go.Proofs.YtdnikegakcdcnaaDoor
/- slices.Equal over redemptions (printed by gen_bookskept.py). -/
set_option linter.unusedVariables false
namespace Go.Proofs.YtdnikegakcdcnaaDoor
open Go.RowKit

theorem rd_same (n : Int) (s p : ByteArray) (a b : Int) (w : World) : (Op.equalIn 10000 74 (.agg #[.int .i64 n, .string s, .string p, .int .i64 a, .int .i64 b]) (.agg #[.int .i64 n, .string s, .string p, .int .i64 a, .int .i64 b])).run Tryd.prog w = .ok true w := by
  have u3 := Tryd.underlying3
  have a3 := Tryd.isAgg3
  have z3 := Tryd.sizeOf3
  have us := Tryd.underlying9
  have as_ := Tryd.isAgg9
  have zs := Tryd.sizeOf9
  have hS : Tryd.prog.underlying 74 = some (.struct (Tryd.prog.fieldsOf 74)) := by kernel_rfl
  have hp : Tryd.prog.stoodInHeld 74 = false := by kernel_rfl
  rw [show (10000 : Nat) = 9999 + 1 from rfl, run_equalIn_agg w 9999 74 _ _ hS hp]
  simp only [Program.fieldsOf, Tryd.underlying74]
  go_simp
theorem rd_neq (n : Int) (s p : ByteArray) (a b : Int) (w : World) : (binOp .neq 74 (.agg #[.int .i64 n, .string s, .string p, .int .i64 a, .int .i64 b]) (.agg #[.int .i64 n, .string s, .string p, .int .i64 a, .int .i64 b])).run Tryd.prog w = .ok (.bool false) w := by
  rw [run_neq_struct, rd_same]; rfl
theorem rd_guard (op : BinOp) (x y : Operand) (xs ys : Array Value) (w : World) : (eqGuard op 74 x y (.agg xs) (.agg ys)).run Tryd.prog w = .ok () w :=
  run_eqGuard_agg w op _ x y xs ys (by kernel_rfl)

set_option maxRecDepth 100000 in
set_option maxHeartbeats 4000000 in
theorem equal_rds (a a' : Option Addr) (l : List Rd) (n c c' : Nat) (w : World) (hn : l.length = n) (hn1 : n ≤ 1000) (h : RAt w a 5 Rd.cells l) (h' : RAt w a' 5 Rd.cells l) :
    Calls Tryd.prog 47 #[.slice a n c, .slice a' n c'] w fun e w' => e = .returned (.bool true) ∧ ∃ q, w' = w.drewN q := by
  have HI := Lib.hid h
  have HJ := Lib.hid h'
  have HN := Lib.hid hn
  clear h h' hn
  go_enter Tryd.func47, Tryd.ntmps47
  go_wp2_with fail
  go_loopw [13] (fun i wr => ∃ k q : Nat, k ≤ n ∧ i = .int .i64 k ∧ wr = w.drewN q) (fun i _ => n - (intOf i).toNat)
  case atStart => exact ⟨0, 0, Nat.zero_le _, rfl, rfl⟩
  case round =>
    obtain ⟨k, q, hk, rfl, rfl⟩ := hrel
    by_cases hlt : k < n
    · have hkl : k < l.length := by have := HN.out; omega
      have HI' : RAt (w.drewN q) a 5 Rd.cells l := HI.out
      have HJ' : RAt (w.drewN q) a' 5 Rd.cells l := HJ.out
      obtain ⟨p, off, rfl, -, c0, c1, c2, c3, c4⟩ := HI'.at5 hkl (v0 := .int .i64 l[k].no) (v1 := .string l[k].code) (v2 := .string l[k].person) (v3 := .int .i64 l[k].at_) (v4 := .int .i64 l[k].undone) rfl
      obtain ⟨p2, off2, rfl, -, e0, e1, e2, e3, e4⟩ := HJ'.at5 hkl (v0 := .int .i64 l[k].no) (v1 := .string l[k].code) (v2 := .string l[k].person) (v3 := .int .i64 l[k].at_) (v4 := .int .i64 l[k].undone) rfl
      have hk0 : (0 : Int) ≤ k := by omega
      have hk1 : (k : Int) < n := by omega
      generalize l[k] = x at *
      obtain ⟨xno, xc, xw, xt, un⟩ := x
      simp only at c0 c1 c2 c3 c4 e0 e1 e2 e3 e4
      have hE := fun (w : World) => rd_neq xno xc xw xt un w
      have hG := fun x y xs ys (w : World) => rd_guard .neq x y xs ys w
      clear HI' HJ'
      generalize hwq : w.drewN q = wq at *
      have HWQ := Lib.hid hwq
      clear hwq
      go_wp2_with fail
      go_quiet (fail)
      go_wp2
      go_roundw
      case rel => exact ⟨k + 1, _, by omega, by go_num, by rw [← HWQ.out, World.drewN_drewN]⟩
      case measure => simp [intOf]; omega
    · go_wp2
      go_ret
      exact ⟨rfl, q, rfl⟩
end Go.Proofs.YtdnikegakcdcnaaDoor
