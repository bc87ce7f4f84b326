/- Purse.Holds, of the program and of the reference; slices.Equal over holds (printed by gen_holds.py). -/
import Derived.Test.YtdnikegakcdcnaaDoorPurse2
import Derived.Laws.StructEq
import Derived.Deep.RegionHeld3
import Derived.Deep.DeepCutAuto
set_option linter.unusedVariables false
namespace Go.Proofs.YtdnikegakcdcnaaDoor
open Go.RowKit

theorem hd_same (n : Int) (s : ByteArray) (a b c d : Int) (w : World) : (Op.equalIn 10000 94 (.agg #[.int .i64 n, .string s, .int .i64 a, .int .i64 b, .int .i64 c, .int .i64 d]) (.agg #[.int .i64 n, .string s, .int .i64 a, .int .i64 b, .int .i64 c, .int .i64 d])).run Tryd.prog w = .ok true w := by
  have u3 := Tryd.underlying3
  have a3 := Tryd.isAgg3
  have z3 := Tryd.sizeOf3
  have us := Tryd.underlying9
  have as_ := Tryd.isAgg9
  have zs := Tryd.sizeOf9
  have hS : Tryd.prog.underlying 94 = some (.struct (Tryd.prog.fieldsOf 94)) := by kernel_rfl
  have hp : Tryd.prog.stoodInHeld 94 = false := by kernel_rfl
  rw [show (10000 : Nat) = 9999 + 1 from rfl, run_equalIn_agg w 9999 94 _ _ hS hp]
  simp only [Program.fieldsOf, Tryd.underlying94]
  go_simp
theorem hd_neq (n : Int) (s : ByteArray) (a b c d : Int) (w : World) : (binOp .neq 94 (.agg #[.int .i64 n, .string s, .int .i64 a, .int .i64 b, .int .i64 c, .int .i64 d]) (.agg #[.int .i64 n, .string s, .int .i64 a, .int .i64 b, .int .i64 c, .int .i64 d])).run Tryd.prog w = .ok (.bool false) w := by
  rw [run_neq_struct, hd_same]; rfl
theorem hd_guard (op : BinOp) (x y : Operand) (xs ys : Array Value) (w : World) : (eqGuard op 94 x y (.agg xs) (.agg ys)).run Tryd.prog w = .ok () w :=
  run_eqGuard_agg w op _ x y xs ys (by kernel_rfl)

set_option maxRecDepth 100000 in
set_option maxHeartbeats 4000000 in
theorem equal_holds (a a' : Option Addr) (l : List Hd) (n c c' : Nat) (w : World) (hn : l.length = n) (hn1 : n ≤ 1000) (h : RAt w a 6 Hd.cells l) (h' : RAt w a' 6 Hd.cells l) :
    Calls Tryd.prog 67 #[.slice a n c, .slice a' n c'] w fun e w' => e = .returned (.bool true) ∧ ∃ q, w' = w.drewN q := by
  have HI := Lib.hid h
  have HJ := Lib.hid h'
  have HN := Lib.hid hn
  clear h h' hn
  go_enter Tryd.func67, Tryd.ntmps67
  go_wp2_with fail
  go_loopw [13] (fun i wr => ∃ k q : Nat, k ≤ n ∧ i = .int .i64 k ∧ wr = w.drewN q) (fun i _ => n - (intOf i).toNat)
  case atStart => exact ⟨0, 0, Nat.zero_le _, rfl, rfl⟩
  case round =>
    obtain ⟨k, q, hk, rfl, rfl⟩ := hrel
    by_cases hlt : k < n
    · have hkl : k < l.length := by have := HN.out; omega
      have HI' : RAt (w.drewN q) a 6 Hd.cells l := HI.out
      have HJ' : RAt (w.drewN q) a' 6 Hd.cells l := HJ.out
      obtain ⟨p, off, rfl, -, c0, c1, c2, c3, c4, c5⟩ := HI'.at6 hkl (v0 := .int .i64 l[k].no) (v1 := .string l[k].key) (v2 := .int .i64 l[k].cents) (v3 := .int .i64 l[k].at_) (v4 := .int .i64 l[k].until_) (v5 := .int .i64 l[k].state) rfl
      obtain ⟨p2, off2, rfl, -, e0, e1, e2, e3, e4, e5⟩ := HJ'.at6 hkl (v0 := .int .i64 l[k].no) (v1 := .string l[k].key) (v2 := .int .i64 l[k].cents) (v3 := .int .i64 l[k].at_) (v4 := .int .i64 l[k].until_) (v5 := .int .i64 l[k].state) rfl
      have hk0 : (0 : Int) ≤ k := by omega
      have hk1 : (k : Int) < n := by omega
      generalize l[k] = x at *
      obtain ⟨xno, xkey, xcents, xat, xuntil, xst⟩ := x
      simp only at c0 c1 c2 c3 c4 c5 e0 e1 e2 e3 e4 e5
      have hE := fun (w : World) => hd_neq xno xkey xcents xat xuntil xst w
      have hG := fun x y xs ys (w : World) => hd_guard .neq x y xs ys w
      clear HI' HJ'
      generalize hwq : w.drewN q = wq at *
      have HWQ := Lib.hid hwq
      clear hwq
      go_wp2_with fail
      go_quiet (fail)
      go_wp2
      go_roundw
      case rel => exact ⟨k + 1, _, by omega, by go_num, by rw [← HWQ.out, World.drewN_drewN]⟩
      case measure => simp [intOf]; omega
    · go_wp2
      go_ret
      exact ⟨rfl, q, rfl⟩

/-- the holds as they are told at a moment -/
def holdsV (l : List Hd) (now : Int) : List Hd := l.map fun x => stSet x (stV x now)
def holdsK (l : List Hd) (now : Int) (k : Nat) : List Hd := holdsV (l.take k) now ++ l.drop k
theorem holdsK_len (l : List Hd) (now : Int) (k : Nat) (h : k ≤ l.length) : (holdsK l now k).length = l.length := by
  unfold holdsK holdsV
  simp
  omega
theorem holdsV_len (l : List Hd) (now : Int) : (holdsV l now).length = l.length := by simp [holdsV]
theorem holdsK_at (l : List Hd) (now : Int) (k : Nat) (h : k < l.length) (h' : k < (holdsK l now k).length) : (holdsK l now k)[k] = l[k] := by
  have e : holdsK l now k = holdsV (l.take k) now ++ l.drop k := rfl
  have hl : (holdsV (l.take k) now).length = k := by rw [holdsV_len, List.length_take]; omega
  rw [List.getElem_of_eq e h', List.getElem_append_right (by omega)]
  simp only [hl, Nat.sub_self]
  simp
theorem holdsK_set (l : List Hd) (now : Int) (k : Nat) (h : k < l.length) : (holdsK l now k).set k (stSet l[k] (stV l[k] now)) = holdsK l now (k + 1) := by
  have hl : (holdsV (l.take k) now).length = k := by rw [holdsV_len, List.length_take]; omega
  show (holdsV (l.take k) now ++ l.drop k).set k _ = holdsV (l.take (k + 1)) now ++ l.drop (k + 1)
  rw [List.set_append_right _ _ (by omega), hl, Nat.sub_self, List.drop_eq_getElem_cons h, List.set_cons_zero, List.take_succ_eq_append_getElem h]
  unfold holdsV
  rw [List.map_append, List.append_assoc]
  rfl
theorem s7_below {w w' : World} (b : Below w.heap.size w w') {q g : Nat} (hq : q < w.heap.size) (hg : g < w.heap.size) {v0 v1 v2 v3 v4 v5 v6 : Value}
    (h : w.cell? ⟨q, 0, none⟩ = some v0 ∧ w.cell? ⟨q, 1, none⟩ = some v1 ∧ w.cell? ⟨q, 2, none⟩ = some v2 ∧ w.cell? ⟨q, 3, none⟩ = some v3 ∧ w.cell? ⟨q, 4, none⟩ = some v4 ∧ w.cell? ⟨q, 5, none⟩ = some v5 ∧ w.cell? ⟨g, 2, none⟩ = some v6) :
    w'.cell? ⟨q, 0, none⟩ = some v0 ∧ w'.cell? ⟨q, 1, none⟩ = some v1 ∧ w'.cell? ⟨q, 2, none⟩ = some v2 ∧ w'.cell? ⟨q, 3, none⟩ = some v3 ∧ w'.cell? ⟨q, 4, none⟩ = some v4 ∧ w'.cell? ⟨q, 5, none⟩ = some v5 ∧ w'.cell? ⟨g, 2, none⟩ = some v6 := by
  obtain ⟨h0, h1, h2, h3, h4, h5, h6⟩ := h
  exact ⟨(b.cell (p := ⟨q, 0, none⟩) hq).trans h0, (b.cell (p := ⟨q, 1, none⟩) hq).trans h1, (b.cell (p := ⟨q, 2, none⟩) hq).trans h2, (b.cell (p := ⟨q, 3, none⟩) hq).trans h3, (b.cell (p := ⟨q, 4, none⟩) hq).trans h4, (b.cell (p := ⟨q, 5, none⟩) hq).trans h5, (b.cell (p := ⟨g, 2, none⟩) hg).trans h6⟩
/-- what Holds leaves -/
def HdOut (w : World) (l : List Hd) (e : Ending) (w' : World) : Prop := ∃ a c, e = .returned (.slice a l.length c) ∧ RAt w' a 6 Hd.cells l ∧ Below w.heap.size w w'

set_option maxRecDepth 100000 in
set_option maxHeartbeats 8000000 in
theorem holdsOff_any {b0 : Nat} {gs : List Nat} {g : Nat} {bl : List Bd} {hv : Value} {hl : List Hd} {now : Int} (w : World) (hP : Pu b0 gs 166 g bl hv hl now w) (hn : hl.length ≤ 1000) :
    Calls Tryd.prog 68 #[.pointer (some ⟨g, 0, none⟩)] w (HdOut w (holdsV hl now)) := by
  have HP := Lib.hid hP
  obtain ⟨ba, bc, -, c1, c2, hgl, -, -, -⟩ := hP.cells
  obtain ⟨ha, hc, hvf, hIh, hlc, hcm⟩ := hP.holds
  obtain ⟨n, hnn⟩ : ∃ n, hl.length = n := ⟨_, rfl⟩
  rw [hnn] at hn hvf
  have HN := Lib.hid hnn
  subst hvf
  have CC := Lib.hid (cloneHold_any ha hl n hc w hnn (by omega) hIh)
  clear hP hnn hIh hlc hcm
  go_enter Tryd.func68, Tryd.ntmps68
  go_wp2_with fail
  with_reducible refine CC.out.mono ?_
  rintro e w1 ⟨v, rfl, hown, b1⟩
  have HB1 := Lib.hid b1
  have HP1 := Lib.hid (HP.out.below b1)
  have hb1 := b1.size
  have hK0 : holdsK hl now 0 = hl := by simp [holdsK, holdsV]
  have HOW : Hid (w1.ownsRow w.heap.size 94 6 v n ((holdsK hl now 0).flatMap Hd.cells)) := Lib.hid (by rw [hK0]; exact hown)
  obtain ⟨a2, c3, hvv, -, -, -⟩ := RAt.of_own (w := w1) (b0 := w.heap.size) (t := 94) (v := v) (C := 6) (f := Hd.cells) (l := hl) (by rw [HN.out]; exact hown) (fun x _ => x.len)
  rw [HN.out] at hvv
  subst hvv
  clear b1 hown hK0 CC c1 c2
  go_wp2_with fail
  go_loopw [4, 5, 13] (fun _ _ i wr => ∃ k : Nat, k ≤ n ∧ i = .int .i64 k ∧ wr.ownsRow w.heap.size 94 6 (.slice a2 n c3) n ((holdsK hl now k).flatMap Hd.cells) ∧ Below w.heap.size w wr) (fun _ _ i _ => n - (intOf i).toNat)
  case atStart => exact ⟨0, Nat.zero_le _, rfl, HOW.out, HB1.out⟩
  case round =>
    obtain ⟨k, hk, rfl, hown, hB⟩ := hrel
    by_cases hlt : k < n
    · have hkl : k < hl.length := by have := HN.out; omega
      have hKl := holdsK_len hl now k (by omega)
      rw [HN.out] at hKl
      have hkK : k < (holdsK hl now k).length := by omega
      have hat := holdsK_at hl now k hkl hkK
      have HST := Lib.hid (holdsK_set hl now k hkl)
      have hax : ∃ q : Nat, a2 = some ⟨q, 0, none⟩ := by
        obtain ⟨q, cap', hf, -⟩ := hown.form (by omega)
        injection hf with hf
        exact ⟨q, hf⟩
      obtain ⟨q, rfl⟩ := hax
      have HF := Lib.hid (fun i (hi : i < 6) => fm_get 6 Hd.cells (holdsK hl now k) (fun x _ => x.len) k i hkK hi)
      have hcl := fun i (hi : i < 6) => (hown.cellAt (k * 6 + i) (by omega)).trans (HF.out i hi)
      rw [hat] at hcl
      have s0 := hcl 0 (by omega)
      have s1 := hcl 1 (by omega)
      have s2 := hcl 2 (by omega)
      have s3 := hcl 3 (by omega)
      have s4 := hcl 4 (by omega)
      have s5 := hcl 5 (by omega)
      have sf := hown.frozenAt (k * 6 + 5)
      have hqb := hown.lt q (by simp [Value.ownBlock])
      have HOWN := Lib.hid hown
      have HKL := Lib.hid hKl
      have HB := Lib.hid hB
      have hbz := hB.size
      have HX := Lib.hid (fun (w' : World) (h : w'.ownsRow w.heap.size 94 6 (.slice (some ⟨q, 0, none⟩) n c3) n ((holdsK hl now k).flatMap Hd.cells)) (st : Int) (hst : st = stV hl[k] now) => show (w'.setCell ⟨q, k * 6 + 5, none⟩ (.int .i64 st)).ownsRow w.heap.size 94 6 (.slice (some ⟨q, 0, none⟩) n c3) n ((holdsK hl now (k + 1)).flatMap Hd.cells) by
        subst hst
        have h2 := (h.stored (k * 6 + 5) (.int .i64 (stV hl[k] now))).1
        rw [fm_set 6 Hd.cells (holdsK hl now k) (fun x _ => x.len) k 5 hkK (by omega) (stSet hl[k] (stV hl[k] now)) _ (by rw [hat]; rfl), HST.out] at h2
        exact h2)
      have C := Lib.hid (fun w => stateAt_any hl[k] now w)
      have HKS := Lib.hid (holdsK_len hl now (k + 1) (by omega))
      rw [HN.out] at HKS
      clear hat hkK hKl hcl HF HST hown hB
      obtain ⟨st, hst⟩ : ∃ st, stV hl[k] now = st := ⟨_, rfl⟩
      rw [hst] at C
      have HSTE := Lib.hid hst.symm
      clear hst
      obtain ⟨x, hx⟩ : ∃ x, hl[k] = x := ⟨_, rfl⟩
      rw [hx] at s0 s1 s2 s3 s4 s5 C
      clear hx
      obtain ⟨xno, xkey, xcents, xat, xuntil, xst⟩ := x
      simp only [Hd.cells, List.getElem?_cons_zero, List.getElem?_cons_succ, Nat.add_zero] at s0 s1 s2 s3 s4 s5 C
      obtain ⟨_, _, -, -, d2, hgl4, -, -, -⟩ := (HP.out.step (B := fun i => w.heap.size ≤ i) ⟨HB.out.os, HB.out.tape, HB.out.output, HB.out.size, fun i hi _ => HB.out.block i hi⟩ (fun i hi => ⟨fun e => by omega, fun e => by have := (HP.out.own.lt i e).2; omega, fun h => by have := HP.out.le; omega⟩)).cells
      obtain ⟨hq0, hq1⟩ := hqb
      have hgq : ¬ g = q := by omega
      have hgq2 : ¬ q = g := by omega
      have XH := Lib.hid (XB.new wr [.int .i64 xno, .string xkey, .int .i64 xcents, .int .i64 xat, .int .i64 xuntil, .int .i64 xst] 94)
      simp only [List.toArray] at XH
      have HB3 := Lib.hid (HB.out.alloc hbz (.cells #[.int .i64 xno, .string xkey, .int .i64 xcents, .int .i64 xat, .int .i64 xuntil, .int .i64 xst] 94))
      have HO3 := Lib.hid (HOWN.out.alloc (.cells #[.int .i64 xno, .string xkey, .int .i64 xcents, .int .i64 xat, .int .i64 xuntil, .int .i64 xst] 94))
      go_upto_region 5 with (fail)
      obtain ⟨x0, x1, x2, x3, x4, x5⟩ := XH.out.at6
      have hq3 := XH.out.1
      generalize hw3 : wr.alloc (.cells #[.int .i64 xno, .string xkey, .int .i64 xcents, .int .i64 xat, .int .i64 xuntil, .int .i64 xst] 94) = w3 at *
      have e2 : w3.cell? ⟨g, 2, none⟩ = some (.int .i64 now) := by rw [← hw3]; exact (World.cell?_alloc_lt wr _ _ hgl4).trans d2
      clear hw3
      generalize hqq : wr.heap.size = h at *
      have hgh : g < w3.heap.size := by omega
      have hqh : q < w3.heap.size := by omega
      have hgne : ¬ h = q := by omega
      have hgne2 : ¬ q = h := by omega
      have hq3d : h < w3.drew.heap.size := hq3
      have hghd : g < w3.drew.heap.size := hgh
      have hqhd : q < w3.drew.heap.size := hqh
      have HOC := Lib.hid (show ∃ v, w3.drew.cell? ⟨q, k * 6 + 5, none⟩ = some v from by
        have ho := HO3.out
        exact ⟨_, ho.cellAt (k * 6 + 5) (by omega) |>.trans (List.getElem?_eq_getElem (by rw [ho.1]; omega))⟩)
      have HOF := Lib.hid (show w3.drew.frozen? ⟨q, k * 6 + 5, none⟩ = false from HO3.out.frozenAt _)
      obtain ⟨ov, hov⟩ := HOC.out
      have HOV := Lib.hid hov
      clear hov HOC s0 s1 s2 s3 s4 s5 sf d2 hqq hgl4 XH
      go_region_held3 (fun w' => w'.cell? ⟨h, 0, none⟩ = some (.int .i64 xno) ∧ w'.cell? ⟨h, 1, none⟩ = some (.string xkey) ∧ w'.cell? ⟨h, 2, none⟩ = some (.int .i64 xcents) ∧ w'.cell? ⟨h, 3, none⟩ = some (.int .i64 xat) ∧ w'.cell? ⟨h, 4, none⟩ = some (.int .i64 xuntil) ∧ w'.cell? ⟨h, 5, none⟩ = some (.int .i64 xst) ∧ w'.cell? ⟨g, 2, none⟩ = some (.int .i64 now))
        (first | go_keep | (refine s7_below b5 ?_ ?_ ⟨?_, ?_, ?_, ?_, ?_, ?_, ?_⟩ <;> first | assumption | (go_simp; done)))
        (first | (go_at_call 140; with_reducible refine (C.out _).mono ?_; rintro e w5 ⟨rfl, b5⟩; have o5 := (b5.cell (p := ⟨q, k * 6 + 5, none⟩) hqhd).trans HOV.out; have f5 := (b5.frozen (p := ⟨q, k * 6 + 5, none⟩) hqhd).trans HOF.out))
      have hO5 : w5.ownsRow w.heap.size 94 6 (.slice (some ⟨q, 0, none⟩) n c3) n ((holdsK hl now k).flatMap Hd.cells) := HO3.out.drew.kept (grown_of_below b5 none) (Classical.em _)
      have HO6 := Lib.hid (HX.out w5 hO5 st HSTE.out)
      have HB6 := Lib.hid ((HB3.out.drew.trans (b5.mono (show w.heap.size ≤ w3.drew.heap.size by have := HB3.out.size; exact this))).setCell (p := ⟨q, k * 6 + 5, none⟩) (by show w.heap.size ≤ q; omega) (.int .i64 st))
      clear hO5 b5 o5 f5
      go_wp2_with fail
      go_roundw
      case rel => exact ⟨k + 1, by omega, by go_num, HO6.out, HB6.out⟩
      case measure => simp [intOf]; omega
    · obtain rfl : k = n := by omega
      have HB := Lib.hid hB
      have hkl := holdsK_len hl now k (by have := HN.out; omega)
      have hKe : holdsK hl now k = holdsV hl now := by
        unfold holdsK
        rw [← HN.out, List.take_length, List.drop_length, List.append_nil]
      rw [hKe] at hown hkl
      rw [HN.out] at hkl
      have hown' : wr.ownsRow w.heap.size 94 6 (.slice a2 k c3) (holdsV hl now).length ((holdsV hl now).flatMap Hd.cells) := by rw [hkl]; exact hown
      obtain ⟨a3, c4, hv3, hI3, -, -⟩ := RAt.of_own hown' (fun x _ => x.len)
      have HL := Lib.hid hkl
      have hvl : a2 = a3 := by injection hv3
      subst hvl
      have HI3 := Lib.hid hI3
      clear hown hown' hB hv3 hKe hkl hI3
      go_wp2_with fail
      go_ret
      exact ⟨a2, c3, by rw [HL.out]; rfl, HI3.out, HB.out⟩

set_option maxRecDepth 100000 in
set_option maxHeartbeats 8000000 in
theorem holdsRef_any {b0 : Nat} {gs : List Nat} {g : Nat} {bl : List Bd} {hv : Value} {hl : List Hd} {now : Int} (w : World) (hP : Pu b0 gs 168 g bl hv hl now w) (hn : hl.length ≤ 1000) :
    Calls Tryd.prog 69 #[.pointer (some ⟨g, 0, none⟩)] w (HdOut w (holdsV hl now)) := by
  have HP := Lib.hid hP
  obtain ⟨ba, bc, -, c1, c2, hgl, -, -, -⟩ := hP.cells
  obtain ⟨ha, hc, hvf, hIh, hlc, hcm⟩ := hP.holds
  obtain ⟨n, hnn⟩ : ∃ n, hl.length = n := ⟨_, rfl⟩
  rw [hnn] at hn hvf
  have HN := Lib.hid hnn
  subst hvf
  have CC := Lib.hid (cloneHold_any ha hl n hc w hnn (by omega) hIh)
  clear hP hnn hIh hlc hcm
  go_enter Tryd.func69, Tryd.ntmps69
  go_wp2_with fail
  with_reducible refine CC.out.mono ?_
  rintro e w1 ⟨v, rfl, hown, b1⟩
  have HB1 := Lib.hid b1
  have HP1 := Lib.hid (HP.out.below b1)
  have hb1 := b1.size
  have hK0 : holdsK hl now 0 = hl := by simp [holdsK, holdsV]
  have HOW : Hid (w1.ownsRow w.heap.size 94 6 v n ((holdsK hl now 0).flatMap Hd.cells)) := Lib.hid (by rw [hK0]; exact hown)
  obtain ⟨a2, c3, hvv, -, -, -⟩ := RAt.of_own (w := w1) (b0 := w.heap.size) (t := 94) (v := v) (C := 6) (f := Hd.cells) (l := hl) (by rw [HN.out]; exact hown) (fun x _ => x.len)
  rw [HN.out] at hvv
  subst hvv
  clear b1 hown hK0 CC c1 c2
  go_wp2_with fail
  go_loopw [4, 5, 13] (fun _ _ i wr => ∃ k : Nat, k ≤ n ∧ i = .int .i64 k ∧ wr.ownsRow w.heap.size 94 6 (.slice a2 n c3) n ((holdsK hl now k).flatMap Hd.cells) ∧ Below w.heap.size w wr) (fun _ _ i _ => n - (intOf i).toNat)
  case atStart => exact ⟨0, Nat.zero_le _, rfl, HOW.out, HB1.out⟩
  case round =>
    obtain ⟨k, hk, rfl, hown, hB⟩ := hrel
    by_cases hlt : k < n
    · have hkl : k < hl.length := by have := HN.out; omega
      have hKl := holdsK_len hl now k (by omega)
      rw [HN.out] at hKl
      have hkK : k < (holdsK hl now k).length := by omega
      have hat := holdsK_at hl now k hkl hkK
      have HST := Lib.hid (holdsK_set hl now k hkl)
      have hax : ∃ q : Nat, a2 = some ⟨q, 0, none⟩ := by
        obtain ⟨q, cap', hf, -⟩ := hown.form (by omega)
        injection hf with hf
        exact ⟨q, hf⟩
      obtain ⟨q, rfl⟩ := hax
      have HF := Lib.hid (fun i (hi : i < 6) => fm_get 6 Hd.cells (holdsK hl now k) (fun x _ => x.len) k i hkK hi)
      have hcl := fun i (hi : i < 6) => (hown.cellAt (k * 6 + i) (by omega)).trans (HF.out i hi)
      rw [hat] at hcl
      have s0 := hcl 0 (by omega)
      have s1 := hcl 1 (by omega)
      have s2 := hcl 2 (by omega)
      have s3 := hcl 3 (by omega)
      have s4 := hcl 4 (by omega)
      have s5 := hcl 5 (by omega)
      have sf := hown.frozenAt (k * 6 + 5)
      have hqb := hown.lt q (by simp [Value.ownBlock])
      have HOWN := Lib.hid hown
      have HKL := Lib.hid hKl
      have HB := Lib.hid hB
      have hbz := hB.size
      have HX := Lib.hid (fun (w' : World) (h : w'.ownsRow w.heap.size 94 6 (.slice (some ⟨q, 0, none⟩) n c3) n ((holdsK hl now k).flatMap Hd.cells)) (st : Int) (hst : st = stV hl[k] now) => show (w'.setCell ⟨q, k * 6 + 5, none⟩ (.int .i64 st)).ownsRow w.heap.size 94 6 (.slice (some ⟨q, 0, none⟩) n c3) n ((holdsK hl now (k + 1)).flatMap Hd.cells) by
        subst hst
        have h2 := (h.stored (k * 6 + 5) (.int .i64 (stV hl[k] now))).1
        rw [fm_set 6 Hd.cells (holdsK hl now k) (fun x _ => x.len) k 5 hkK (by omega) (stSet hl[k] (stV hl[k] now)) _ (by rw [hat]; rfl), HST.out] at h2
        exact h2)
      have C := Lib.hid (fun w => stateAtRef_any hl[k] now w)
      have HKS := Lib.hid (holdsK_len hl now (k + 1) (by omega))
      rw [HN.out] at HKS
      clear hat hkK hKl hcl HF HST hown hB
      obtain ⟨st, hst⟩ : ∃ st, stV hl[k] now = st := ⟨_, rfl⟩
      rw [hst] at C
      have HSTE := Lib.hid hst.symm
      clear hst
      obtain ⟨x, hx⟩ : ∃ x, hl[k] = x := ⟨_, rfl⟩
      rw [hx] at s0 s1 s2 s3 s4 s5 C
      clear hx
      obtain ⟨xno, xkey, xcents, xat, xuntil, xst⟩ := x
      simp only [Hd.cells, List.getElem?_cons_zero, List.getElem?_cons_succ, Nat.add_zero] at s0 s1 s2 s3 s4 s5 C
      obtain ⟨_, _, -, -, d2, hgl4, -, -, -⟩ := (HP.out.step (B := fun i => w.heap.size ≤ i) ⟨HB.out.os, HB.out.tape, HB.out.output, HB.out.size, fun i hi _ => HB.out.block i hi⟩ (fun i hi => ⟨fun e => by omega, fun e => by have := (HP.out.own.lt i e).2; omega, fun h => by have := HP.out.le; omega⟩)).cells
      obtain ⟨hq0, hq1⟩ := hqb
      have hgq : ¬ g = q := by omega
      have hgq2 : ¬ q = g := by omega
      have XH := Lib.hid (XB.new wr [.int .i64 xno, .string xkey, .int .i64 xcents, .int .i64 xat, .int .i64 xuntil, .int .i64 xst] 94)
      simp only [List.toArray] at XH
      have HB3 := Lib.hid (HB.out.alloc hbz (.cells #[.int .i64 xno, .string xkey, .int .i64 xcents, .int .i64 xat, .int .i64 xuntil, .int .i64 xst] 94))
      have HO3 := Lib.hid (HOWN.out.alloc (.cells #[.int .i64 xno, .string xkey, .int .i64 xcents, .int .i64 xat, .int .i64 xuntil, .int .i64 xst] 94))
      go_upto_region 5 with (fail)
      obtain ⟨x0, x1, x2, x3, x4, x5⟩ := XH.out.at6
      have hq3 := XH.out.1
      generalize hw3 : wr.alloc (.cells #[.int .i64 xno, .string xkey, .int .i64 xcents, .int .i64 xat, .int .i64 xuntil, .int .i64 xst] 94) = w3 at *
      have e2 : w3.cell? ⟨g, 2, none⟩ = some (.int .i64 now) := by rw [← hw3]; exact (World.cell?_alloc_lt wr _ _ hgl4).trans d2
      clear hw3
      generalize hqq : wr.heap.size = h at *
      have hgh : g < w3.heap.size := by omega
      have hqh : q < w3.heap.size := by omega
      have hgne : ¬ h = q := by omega
      have hgne2 : ¬ q = h := by omega
      have hq3d : h < w3.drew.heap.size := hq3
      have hghd : g < w3.drew.heap.size := hgh
      have hqhd : q < w3.drew.heap.size := hqh
      have HOC := Lib.hid (show ∃ v, w3.drew.cell? ⟨q, k * 6 + 5, none⟩ = some v from by
        have ho := HO3.out
        exact ⟨_, ho.cellAt (k * 6 + 5) (by omega) |>.trans (List.getElem?_eq_getElem (by rw [ho.1]; omega))⟩)
      have HOF := Lib.hid (show w3.drew.frozen? ⟨q, k * 6 + 5, none⟩ = false from HO3.out.frozenAt _)
      obtain ⟨ov, hov⟩ := HOC.out
      have HOV := Lib.hid hov
      clear hov HOC s0 s1 s2 s3 s4 s5 sf d2 hqq hgl4 XH
      go_region_held3 (fun w' => w'.cell? ⟨h, 0, none⟩ = some (.int .i64 xno) ∧ w'.cell? ⟨h, 1, none⟩ = some (.string xkey) ∧ w'.cell? ⟨h, 2, none⟩ = some (.int .i64 xcents) ∧ w'.cell? ⟨h, 3, none⟩ = some (.int .i64 xat) ∧ w'.cell? ⟨h, 4, none⟩ = some (.int .i64 xuntil) ∧ w'.cell? ⟨h, 5, none⟩ = some (.int .i64 xst) ∧ w'.cell? ⟨g, 2, none⟩ = some (.int .i64 now))
        (first | go_keep | (refine s7_below b5 ?_ ?_ ⟨?_, ?_, ?_, ?_, ?_, ?_, ?_⟩ <;> first | assumption | (go_simp; done)))
        (first | (go_at_call 141; with_reducible refine (C.out _).mono ?_; rintro e w5 ⟨rfl, b5⟩; have o5 := (b5.cell (p := ⟨q, k * 6 + 5, none⟩) hqhd).trans HOV.out; have f5 := (b5.frozen (p := ⟨q, k * 6 + 5, none⟩) hqhd).trans HOF.out))
      have hO5 : w5.ownsRow w.heap.size 94 6 (.slice (some ⟨q, 0, none⟩) n c3) n ((holdsK hl now k).flatMap Hd.cells) := HO3.out.drew.kept (grown_of_below b5 none) (Classical.em _)
      have HO6 := Lib.hid (HX.out w5 hO5 st HSTE.out)
      have HB6 := Lib.hid ((HB3.out.drew.trans (b5.mono (show w.heap.size ≤ w3.drew.heap.size by have := HB3.out.size; exact this))).setCell (p := ⟨q, k * 6 + 5, none⟩) (by show w.heap.size ≤ q; omega) (.int .i64 st))
      clear hO5 b5 o5 f5
      go_wp2_with fail
      go_roundw
      case rel => exact ⟨k + 1, by omega, by go_num, HO6.out, HB6.out⟩
      case measure => simp [intOf]; omega
    · obtain rfl : k = n := by omega
      have HB := Lib.hid hB
      have hkl := holdsK_len hl now k (by have := HN.out; omega)
      have hKe : holdsK hl now k = holdsV hl now := by
        unfold holdsK
        rw [← HN.out, List.take_length, List.drop_length, List.append_nil]
      rw [hKe] at hown hkl
      rw [HN.out] at hkl
      have hown' : wr.ownsRow w.heap.size 94 6 (.slice a2 k c3) (holdsV hl now).length ((holdsV hl now).flatMap Hd.cells) := by rw [hkl]; exact hown
      obtain ⟨a3, c4, hv3, hI3, -, -⟩ := RAt.of_own hown' (fun x _ => x.len)
      have HL := Lib.hid hkl
      have hvl : a2 = a3 := by injection hv3
      subst hvl
      have HI3 := Lib.hid hI3
      clear hown hown' hB hv3 hKe hkl hI3
      go_wp2_with fail
      go_ret
      exact ⟨a2, c3, by rw [HL.out]; rfl, HI3.out, HB.out⟩
end Go.Proofs.YtdnikegakcdcnaaDoor
