/- segment.large and segment.CheckCond (printed by gen_large.py). -/
import Derived.Test.YtfdpfkdfglombaaGreatDoorSgL
import Derived.Laws.EntriesVeiled
set_option linter.unusedVariables false
namespace Go.Proofs.YtfdpfkdfglombaaGreatDoor
open Go.RowKit

/-- what the count leaves: the count lies in block q -/
def LgO (w : World) (q : Nat) (r : Bool × Nat) (e : Ending) (w' : World) : Prop := e = .returned (.bool r.1) ∧ OB w' q [.int .i64 (r.2 : Int)] 3 ∧ w.grownBy w' (some q)
def dpV (q3 q4 : Nat) : Value := .func (.func 134) #[] #[.pointer (some ⟨q3, 0, none⟩), .pointer (some ⟨q4, 0, none⟩)]
/-- the count at conditions that are at most d deep -/
def LgC (d : Nat) : Prop := ∀ (c : Cn) (lv k q3 q4 : Nat) (w : World), k ≤ 300 → lv ≤ 21 → TAt d w c → FarT d c q3 → OB w q3 [.int .i64 (k : Int)] 3 → XB w q4 [dpV q3 q4] → q3 ≠ q4 →
  Calls Tryz.prog 134 #[c.agg, .int .i64 (lv : Int), .pointer (some ⟨q3, 0, none⟩), .pointer (some ⟨q4, 0, none⟩)] w (LgO w q3 (lgF d lv c k))
theorem grownL_same (w : World) (row : Option Nat) : w.grownBy w row := ⟨rfl, rfl, rfl, Nat.le_refl _, fun _ _ _ => rfl⟩
theorem grownT {w w1 w2 : World} {row : Option Nat} (a : w.grownBy w1 row) (b : w1.grownBy w2 row) : w.grownBy w2 row := grown_trans a b
set_option maxRecDepth 100000 in
set_option maxHeartbeats 1000000 in
/-- the closure that calls the count -/
theorem lg41 (d : Nat) (ih : LgC d) (c : Cn) (lv k q3 q4 q5 : Nat) (w : World) (hk : k ≤ 300) (hlv : lv ≤ 20) (hT : TAt d w c) (hF : FarT d c q3) (h3 : OB w q3 [.int .i64 (k : Int)] 3) (h4 : XB w q4 [dpV q3 q4]) (h34 : q3 ≠ q4) (h5 : XB w q5 [.int .i64 (lv : Int)]) :
    Calls Tryz.prog 136 #[c.agg, .pointer (some ⟨q4, 0, none⟩), .pointer (some ⟨q5, 0, none⟩)] w (LgO w q3 (lgF d (lv + 1) c k)) := by
  have C := Lib.hid (fun w h1 h2 h3 => ih c (lv + 1) k q3 q4 w hk (by omega) h1 hF h2 h3 h34)
  clear ih
  unfold Cn.agg at *
  obtain ⟨r, hr⟩ : ∃ z, lgF d (lv + 1) c k = z := ⟨_, rfl⟩
  rw [hr] at C ⊢
  clear hr hF
  have HT := Lib.hid hT
  have H3 := Lib.hid h3
  have H4 := Lib.hid h4
  have H5 := Lib.hid h5
  clear hT h3 h4 h5
  obtain ⟨n, args⟩ := c
  obtain ⟨kind, name, field, sign, va, vc, vals, wa, wc, whs, within, number, aa, ac⟩ := n
  simp only [Cn.nd, Cn.args] at *
  obtain ⟨nv, hnv⟩ : ∃ z, vals.length = z := ⟨_, rfl⟩
  obtain ⟨nw, hnw⟩ : ∃ z, whs.length = z := ⟨_, rfl⟩
  obtain ⟨na, hna⟩ : ∃ z, args.length = z := ⟨_, rfl⟩
  rw [hnv, hnw, hna] at C ⊢
  clear hnv hnw hna
  have HTa := Lib.hid (HT.out.alloc (.cells #[.int .i64 kind, .string name, .string field, .string sign, .slice va nv vc, .slice wa nw wc, .int .i64 within, .int .i64 number, .slice aa na ac] 30))
  have H3a := Lib.hid (H3.out.alloc (.cells #[.int .i64 kind, .string name, .string field, .string sign, .slice va nv vc, .slice wa nw wc, .int .i64 within, .int .i64 number, .slice aa na ac] 30))
  have H4a := Lib.hid (H4.out.alloc (.cells #[.int .i64 kind, .string name, .string field, .string sign, .slice va nv vc, .slice wa nw wc, .int .i64 within, .int .i64 number, .slice aa na ac] 30))
  have c4 := H4.out.2 0 _ rfl
  have c5 := H5.out.2 0 _ rfl
  have l4 := H4.out.1
  have l5 := H5.out.1
  have HG := Lib.hid (World.grownBy_alloc w (.cells #[.int .i64 kind, .string name, .string field, .string sign, .slice va nv vc, .slice wa nw wc, .int .i64 within, .int .i64 number, .slice aa na ac] 30) (some q3))
  have e1 : IntKind.i64.wrap ((lv : Int) + 1) = (lv : Int) + 1 := IntWalk.i64_in _ (by omega)
  unfold dpV at c4
  clear HT H3 H4 H5 e1
  have hlc : ((lv + 1 : Nat) : Int) = (lv : Int) + 1 := by omega
  rw [hlc] at C
  clear hlc
  go_enter Tryz.func136, Tryz.ntmps136
  go_wp2_with fail
  ((with_reducible refine (C.out _ HTa.out H3a.out H4a.out).mono ?_); rintro e w1 ⟨rfl, o1, g1⟩)
  go_wp2_with fail
  go_ret
  exact ⟨rfl, o1, grownT HG.out g1⟩
/-- what the search leaves -/
def LxO (w : World) (q : Nat) (r : Bool × Nat) (e : Ending) (w' : World) : Prop := ∃ z : Int, e = .returned (.int .i64 z) ∧ decide (0 ≤ z) = r.1 ∧ OB w' q [.int .i64 (r.2 : Int)] 3 ∧ w.grownBy w' (some q)
theorem lgL_drop (f : Cn → Nat → Bool × Nat) (l : List Cn) (j k : Nat) (h : j < l.length) : lgL f (l.drop j) k = if (f l[j] k).1 = true then (true, (f l[j] k).2) else lgL f (l.drop (j + 1)) (f l[j] k).2 := by
  rw [List.drop_eq_getElem_cons h]; rfl
theorem lgF_le (d lv : Nat) (c : Cn) (k : Nat) (h1 : k ≤ 300) (h2 : lv ≤ 21) (h : (lgF d lv c k).1 = false) : (lgF d lv c k).2 ≤ 300 := by
  have := lgF_law d lv c k h1 h2
  split at this
  · rw [this.1] at h; cases h
  · rw [this]; simp only; omega
set_option maxRecDepth 100000 in
set_option maxHeartbeats 1000000 in
theorem lgIdx (d : Nat) (ih : LgC d) (aa : Option Addr) (args : List Cn) (na ac lv k q3 q4 q5 : Nat) (w : World) (hna : args.length = na) (hn1 : na ≤ 1000) (hk : k ≤ 300) (hlv : lv ≤ 20) (hA : RAt w aa 9 Cn.cells args) (hAF : Far aa args.length q3) (hT : ∀ x ∈ args, TAt d w x) (hF : ∀ x ∈ args, FarT d x q3)
    (h3 : OB w q3 [.int .i64 (k : Int)] 3) (h4 : XB w q4 [dpV q3 q4]) (h34 : q3 ≠ q4) (h5 : XB w q5 [.int .i64 (lv : Int)]) (h35 : q3 ≠ q5) :
    Calls Tryz.prog 193 #[.slice aa na ac, .func (.func 136) #[] #[.pointer (some ⟨q4, 0, none⟩), .pointer (some ⟨q5, 0, none⟩)]] w (LxO w q3 (lgL (lgF d (lv + 1)) args k)) := by
  have HN := Lib.hid hna
  have HA := Lib.hid hA
  have HAF := Lib.hid hAF
  have HT := Lib.hid hT
  have HF := Lib.hid hF
  have H4 := Lib.hid h4
  have H5 := Lib.hid h5
  have IH := Lib.hid ih
  obtain ⟨R, hR⟩ : ∃ z, lgL (lgF d (lv + 1)) args k = z := ⟨_, rfl⟩
  have HR := Lib.hid hR
  rw [hR]
  have H3 := Lib.hid h3
  clear hna hA hAF hT hF h4 h5 ih hR h3
  go_enter Tryz.func193, Tryz.ntmps193
  go_wp2_with fail
  go_loopw [5, 8] (fun _ i wr => ∃ j kk : Nat, j ≤ na ∧ i = .int .i64 j ∧ kk ≤ 300 ∧ Hid (OB wr q3 [.int .i64 (kk : Int)] 3) ∧ w.grownBy wr (some q3) ∧ Hid (lgL (lgF d (lv + 1)) args k = lgL (lgF d (lv + 1)) (args.drop j) kk)) (fun _ i _ => na - (intOf i).toNat)
  case atStart => exact ⟨0, k, Nat.zero_le _, rfl, hk, H3, grownL_same _ _, Lib.hid rfl⟩
  case round =>
    obtain ⟨j, kk, hj, rfl, hkk, H3r, hG, HL⟩ := hrel
    have HG := Lib.hid hG
    by_cases hlt : j < na
    · have hjl : j < args.length := by have := HN.out; omega
      obtain ⟨p, off, rfl, hp, c0, c1, c2, c3, c4, c5, c6, c7, c8⟩ := (HA.out.kept hG (fun g e => by obtain rfl := Option.some.inj e; exact HAF.out)).at9c hjl
      have HD := Lib.hid (lgL_drop (lgF d (lv + 1)) args j kk hjl)
      have hm : args[j] ∈ args := List.getElem_mem hjl
      have HTx := Lib.hid ((HT.out _ hm).kept hG (fun g e => by obtain rfl := Option.some.inj e; exact HF.out _ hm))
      have H4r := Lib.hid (H4.out.grown hG (fun e => h34 (Option.some.inj e)))
      have H5r := Lib.hid (H5.out.grown hG (fun e => h35 (Option.some.inj e)))
      have C := Lib.hid (lg41 d IH.out args[j] lv kk q3 q4 q5 wr hkk hlv HTx.out (HF.out _ hm) H3r.out H4r.out h34 H5r.out)
      have HLE := Lib.hid (lgF_le d (lv + 1) args[j] kk hkk (by omega))
      clear hG HTx H4r H5r H3r hm
      obtain ⟨r, hr⟩ : ∃ z, lgF d (lv + 1) args[j] kk = z := ⟨_, rfl⟩
      rw [hr] at C HLE HD
      clear hr
      unfold Cn.agg at C
      generalize args[j] = x at *
      obtain ⟨xn, xargs⟩ := x
      obtain ⟨xkind, xname, xfield, xsign, xva, xvc, xvals, xwa, xwc, xwhs, xwithin, xnumber, xaa, xac⟩ := xn
      simp only [Cn.nd, Cn.args] at *
      obtain ⟨xnv, hxnv⟩ : ∃ z, xvals.length = z := ⟨_, rfl⟩
      obtain ⟨xnw, hxnw⟩ : ∃ z, xwhs.length = z := ⟨_, rfl⟩
      obtain ⟨xna, hxna⟩ : ∃ z, xargs.length = z := ⟨_, rfl⟩
      rw [hxnv] at c4 C
      rw [hxnw] at c5 C
      rw [hxna] at c8 C
      clear hxnv hxnw hxna
      obtain ⟨b, k2⟩ := r
      go_wp2_with fail
      ((with_reducible refine (C.out).mono ?_); rintro e w1 ⟨rfl, o1, g1⟩)
      have HG1 := Lib.hid (grownT HG.out g1)
      have HO1 := Lib.hid o1
      clear g1 o1 c0 c1 c2 c3 c4 c5 c6 c7 c8 hp
      cases b with
      | true =>
        go_wp2_with fail
        go_ret
        exact ⟨(j : Int), rfl, by rw [← HR.out, HL.out, HD.out]; simp, by rw [← HR.out, HL.out, HD.out]; exact HO1.out, HG1.out⟩
      | false =>
        go_wp2_with fail
        go_roundw
        case rel => exact ⟨j + 1, k2, by omega, by go_num, HLE.out (by trivial), HO1, HG1.out, Lib.hid (by rw [HL.out, HD.out]; rfl)⟩
        case measure => simp [intOf]; omega
    · have HZ : Hid (R = (false, kk)) := Lib.hid (by rw [← HR.out, HL.out, List.drop_eq_nil_of_le (by have := HN.out; omega)]; rfl)
      clear hG
      go_wp2_with fail
      go_ret
      exact ⟨-1, rfl, by rw [HZ.out]; rfl, by rw [HZ.out]; exact H3r.out, HG.out⟩
set_option maxRecDepth 100000 in
set_option maxHeartbeats 1000000 in
theorem lgCon (d : Nat) (ih : LgC d) (aa : Option Addr) (args : List Cn) (na ac lv k q3 q4 q5 : Nat) (w : World) (hna : args.length = na) (hn1 : na ≤ 1000) (hk : k ≤ 300) (hlv : lv ≤ 20) (hA : RAt w aa 9 Cn.cells args) (hAF : Far aa args.length q3) (hT : ∀ x ∈ args, TAt d w x) (hF : ∀ x ∈ args, FarT d x q3)
    (h3 : OB w q3 [.int .i64 (k : Int)] 3) (h4 : XB w q4 [dpV q3 q4]) (h34 : q3 ≠ q4) (h5 : XB w q5 [.int .i64 (lv : Int)]) (h35 : q3 ≠ q5) :
    Calls Tryz.prog 135 #[.slice aa na ac, .func (.func 136) #[] #[.pointer (some ⟨q4, 0, none⟩), .pointer (some ⟨q5, 0, none⟩)]] w (LgO w q3 (lgL (lgF d (lv + 1)) args k)) := by
  have C := Lib.hid (lgIdx d ih aa args na ac lv k q3 q4 q5 w hna hn1 hk hlv hA hAF hT hF h3 h4 h34 h5 h35)
  clear hna hA hAF hT hF h3 h4 h5 ih
  generalize lgL _ args k = R at *
  obtain ⟨b, k2⟩ := R
  go_enter Tryz.func135, Tryz.ntmps135
  go_wp2_with fail
  ((with_reducible refine (C.out).mono ?_); rintro e w1 ⟨z, rfl, hz, o1, g1⟩)
  have HO := Lib.hid o1
  have HG := Lib.hid g1
  have HZ := Lib.hid hz
  clear o1 g1 hz
  go_wp2_with fail
  go_ret
  exact ⟨ret_bool HZ.out, HO.out, HG.out⟩
theorem lg_zero : LgC 0 := fun _ _ _ _ _ _ _ _ h => h.elim
set_option maxRecDepth 100000 in
set_option maxHeartbeats 1000000 in
theorem lg_succ (d : Nat) (ih : LgC d) : LgC (d + 1) := by
  rintro c lv k q3 q4 w hk hlv ⟨hok, ⟨ha1, ha2, ha3'⟩, hV, hW, hA, hC⟩ ⟨f1, f2, f3, f4⟩ h3 h4 h34
  have ha3 := wdM_le ha3'
  clear ha3'
  obtain ⟨R, hR⟩ : ∃ z, lgF (d + 1) lv c k = z := ⟨_, rfl⟩
  have HR := Lib.hid (hR.symm.trans (show lgF (d + 1) lv c k = if 300 < k + 1 ∨ 20 < lv then (true, k + 1) else lgL (lgF d (lv + 1)) c.args (k + 1) from rfl))
  rw [hR]
  have IH := Lib.hid ih
  have HA := Lib.hid hA
  have HC := Lib.hid hC
  have HF3 := Lib.hid f3
  have HF4 := Lib.hid f4
  have H3 := Lib.hid h3
  have H4 := Lib.hid h4
  unfold Cn.agg
  clear hR hok hV hW hA hC f1 f2 f3 f4 ih ha1 ha2 h3 h4
  obtain ⟨n, args⟩ := c
  obtain ⟨kind, name, field, sign, va, vc, vals, wa, wc, whs, within, number, aa, ac⟩ := n
  simp only [Cn.nd, Cn.args] at *
  obtain ⟨nv, hnv⟩ : ∃ z, vals.length = z := ⟨_, rfl⟩
  obtain ⟨nw, hnw⟩ : ∃ z, whs.length = z := ⟨_, rfl⟩
  obtain ⟨na, hna⟩ : ∃ z, args.length = z := ⟨_, rfl⟩
  rw [hnv, hnw, hna]
  rw [hna] at ha3
  have HNA := Lib.hid hna
  clear hnv hnw hna
  have hl3 := H3.out.lt
  have hl4 := H4.out.1
  obtain ⟨w1, hw1⟩ : ∃ z, w.alloc (.cells #[.int .i64 kind, .string name, .string field, .string sign, .slice va nv vc, .slice wa nw wc, .int .i64 within, .int .i64 number, .slice aa na ac] 30) = z := ⟨_, rfl⟩
  obtain ⟨w2, hw2⟩ : ∃ z, w1.alloc (.cells #[.int .i64 (lv : Int)] 3) = z := ⟨_, rfl⟩
  have hz1 : w1.heap.size = w.heap.size + 1 := by rw [← hw1]; exact World.size_alloc _ _
  have HB2 := Lib.hid (show Below w.heap.size w w2 by rw [← hw2, ← hw1]; exact ((Below.refl _ _).alloc (Nat.le_refl _) _).alloc (by simp) _)
  have HX := Lib.hid (show XB w2 w.heap.size [.int .i64 kind, .string name, .string field, .string sign, .slice va nv vc, .slice wa nw wc, .int .i64 within, .int .i64 number, .slice aa na ac] by rw [← hw2, ← hw1]; exact (XB.new w [.int .i64 kind, .string name, .string field, .string sign, .slice va nv vc, .slice wa nw wc, .int .i64 within, .int .i64 number, .slice aa na ac] 30).alloc _)
  have HL5 := Lib.hid (show XB w2 (w.heap.size + 1) [.int .i64 (lv : Int)] by rw [← hw2, ← hz1]; exact XB.new w1 [.int .i64 (lv : Int)] 3)
  have HW2 := Lib.hid hw2
  have HW1 := Lib.hid hw1
  have H32 := Lib.hid (H3.out.below HB2.out)
  have H42 := Lib.hid (H4.out.below HB2.out)
  have HA2 := Lib.hid (HA.out.below HB2.out)
  have HC2 := Lib.hid (fun x hx => (HC.out x hx).below HB2.out)
  clear hw1 hw2 hz1 H3 H4 HA HC
  have c3 := H32.out.cell 0 _ rfl
  have f3 := H32.out.free 0
  have x8 := HX.out.2 8 _ rfl
  have xl := HX.out.1
  have y0 := HL5.out.2 0 _ rfl
  have yl := HL5.out.1
  have l3 := H32.out.lt
  have hmf : ∀ (fn : Fn) (first cap : Array Value) (w : World), (Instr.makeFunc fn first cap).run Tryz.prog w = .ok (.func fn first cap) w := fun _ _ _ _ => rfl
  go_enter Tryz.func134, Tryz.ntmps134
  go_upto_region 1 with (fail)
  rw [HW1.out, HW2.out]
  clear HW1 HW2 w1
  have HG2 := Lib.hid (grown_of_below HB2.out (some q3))
  generalize hq0 : w.heap.size = q0 at *
  have n1 : ¬ q0 = q3 := by omega
  have n2 : ¬ q3 = q0 := by omega
  have n3 : ¬ q0 + 1 = q3 := by omega
  have n4 : ¬ q3 = q0 + 1 := by omega
  clear hq0 hl3 hl4
  have H33 := Lib.hid (H32.out.put 0 (.int .i64 ((k : Int) + 1)) (cs' := [.int .i64 ((k : Int) + 1)]) rfl)
  have HG3 := Lib.hid (show w2.grownBy (w2.setCell ⟨q3, 0, none⟩ (.int .i64 ((k : Int) + 1))) (some q3) from grown_set (grownL_same w2 (some q3)) (p := ⟨q3, 0, none⟩) (.inl rfl) _)
  by_cases h3 : 300 < k + 1
  · have HR1 : Hid (R = (true, k + 1)) := Lib.hid (by rw [HR.out, if_pos (.inl h3)])
    have h3' : 300 < (k : Int) + 1 := by omega
    clear h3 HR
    go_wp2_with fail
    go_ret
    exact ⟨ret_bool (by rw [HR1.out]), by rw [HR1.out]; exact H33.out, grownT HG2.out HG3.out⟩
  · have h3' : ¬ 300 < (k : Int) + 1 := by omega
    by_cases h5 : 20 < lv
    · have HR1 : Hid (R = (true, k + 1)) := Lib.hid (by rw [HR.out, if_pos (.inr h5)])
      have h5' : 20 < (lv : Int) := by omega
      clear h3 HR h5
      go_wp2_with fail
      go_ret
      exact ⟨ret_bool (by rw [HR1.out]), by rw [HR1.out]; exact H33.out, grownT HG2.out HG3.out⟩
    · have HR1 : Hid (R = lgL (lgF d (lv + 1)) args (k + 1)) := Lib.hid (by rw [HR.out, if_neg (by omega)])
      have h5' : ¬ 20 < (lv : Int) := by omega
      have hk1 : k + 1 ≤ 300 := by omega
      have C := Lib.hid (lgCon d IH.out aa args na ac lv (k + 1) q3 q4 (q0 + 1) _ HNA.out ha3 hk1 (by omega) (HA2.out.kept HG3.out (fun g e => by obtain rfl := Option.some.inj e; exact HF3.out)) HF3.out (fun x hx => (HC2.out x hx).kept HG3.out (fun g e => by obtain rfl := Option.some.inj e; exact HF4.out x hx)) HF4.out H33.out (H42.out.grown HG3.out (fun e => h34 (Option.some.inj e))) h34 (HL5.out.grown HG3.out (fun e => n4 (Option.some.inj e))) n4)
      rw [← HR1.out] at C
      clear h3 HR h5 hk1 IH HA2 HC2 HF3 HF4 H32 HX HL5 H42 HB2
      go_wp2_with fail
      ((with_reducible refine (C.out).mono ?_); rintro e w4 ⟨rfl, o1, g1⟩)
      have HO := Lib.hid o1
      have HG := Lib.hid g1
      clear o1 g1
      go_wp2_with fail
      go_ret
      exact ⟨rfl, HO.out, grownT HG2.out (grownT HG3.out HG.out)⟩
theorem lg_any : ∀ d, LgC d
  | 0 => lg_zero
  | d + 1 => lg_succ d (lg_any d)
/-- a call that gives a bool, and leaves what was there alone -/
theorem large_any (d : Nat) (c : Cn) (w : World) (hT : TAt d w c) :
    Calls Tryz.prog 76 #[c.agg] w (BoolO w (decide (300 < szN d c ∨ 20 < dpN d c))) := by
  rw [← lg_large]
  obtain ⟨R, hR⟩ : ∃ z, lgF d 1 c 0 = z := ⟨_, rfl⟩
  have HR := Lib.hid hR
  rw [hR]
  have HT := Lib.hid hT
  clear hR hT
  have CL := Lib.hid (fun q3 q4 w => lg_any d c 1 0 q3 q4 w (by omega) (by omega))
  rw [HR.out] at CL
  clear HR
  unfold Cn.agg at *
  obtain ⟨n, args⟩ := c
  obtain ⟨kind, name, field, sign, va, vc, vals, wa, wc, whs, within, number, aa, ac⟩ := n
  simp only [Cn.nd, Cn.args] at *
  obtain ⟨nv, hnv⟩ : ∃ z, vals.length = z := ⟨_, rfl⟩
  obtain ⟨nw, hnw⟩ : ∃ z, whs.length = z := ⟨_, rfl⟩
  obtain ⟨na, hna⟩ : ∃ z, args.length = z := ⟨_, rfl⟩
  rw [hnv, hnw, hna] at CL ⊢
  clear hnv hnw hna
  obtain ⟨w1, hw1⟩ : ∃ z, w.alloc (.cells #[.int .i64 kind, .string name, .string field, .string sign, .slice va nv vc, .slice wa nw wc, .int .i64 within, .int .i64 number, .slice aa na ac] 30) = z := ⟨_, rfl⟩
  obtain ⟨w2, hw2⟩ : ∃ z, w1.alloc (.cells #[.int .i64 0] 3) = z := ⟨_, rfl⟩
  obtain ⟨w3, hw3⟩ : ∃ z, w2.alloc (.cells #[.nilFunc] 154) = z := ⟨_, rfl⟩
  have hz1 : w1.heap.size = w.heap.size + 1 := by rw [← hw1]; exact World.size_alloc _ _
  have hz2 : w2.heap.size = w.heap.size + 1 + 1 := by rw [← hw2, World.size_alloc, hz1]
  have HB3 := Lib.hid (show Below w.heap.size w w3 by rw [← hw3, ← hw2, ← hw1]; exact (((Below.refl _ _).alloc (Nat.le_refl _) _).alloc (by simp) _).alloc (by simp; omega) _)
  have HX := Lib.hid (show XB w3 w.heap.size [.int .i64 kind, .string name, .string field, .string sign, .slice va nv vc, .slice wa nw wc, .int .i64 within, .int .i64 number, .slice aa na ac] by rw [← hw3, ← hw2, ← hw1]; exact ((XB.new w [.int .i64 kind, .string name, .string field, .string sign, .slice va nv vc, .slice wa nw wc, .int .i64 within, .int .i64 number, .slice aa na ac] 30).alloc _).alloc _)
  have H3 := Lib.hid (show OB w3 (w.heap.size + 1) [.int .i64 0] 3 by rw [← hw3, ← hw2, ← hz1]; exact (OB.new w1 [.int .i64 0] 3).alloc _)
  have H4 := Lib.hid (show OB w3 (w.heap.size + 1 + 1) [.nilFunc] 154 by rw [← hw3, ← hz2]; exact OB.new w2 [.nilFunc] 154)
  have HW1 := Lib.hid hw1
  have HW2 := Lib.hid hw2
  have HW3 := Lib.hid hw3
  have HT3 := Lib.hid (HT.out.below HB3.out)
  have HF3 := Lib.hid (HT.out.newFar (g := w.heap.size + 1) (Nat.le_succ _))
  have HF4 := Lib.hid (HT.out.newFar (g := w.heap.size + 1 + 1) (by omega))
  clear hw1 hw2 hw3 hz1 hz2
  have hmf : ∀ (fn : Fn) (first cap : Array Value) (w : World), (Instr.makeFunc fn first cap).run Tryz.prog w = .ok (.func fn first cap) w := fun _ _ _ _ => rfl
  go_enter Tryz.func76, Tryz.ntmps76
  go_upto_region 3 with (fail)
  rw [HW1.out, HW2.out, HW3.out]
  clear HW1 HW2 HW3 w1 w2
  have HB0 := Lib.hid HB3.out
  obtain ⟨q3, hq3⟩ : ∃ z, w.heap.size + 1 = z := ⟨_, rfl⟩
  obtain ⟨q4, hq4⟩ : ∃ z, q3 + 1 = z := ⟨_, rfl⟩
  rw [hq3] at H3 H4 HF3 HF4
  rw [hq4] at H4 HF4
  rw [hq3, hq4]
  have h34 : q3 ≠ q4 := by omega
  have h04 : ¬ w.heap.size = q4 := by omega
  have h40 : ¬ q4 = w.heap.size := by omega
  have hb3 : w.heap.size ≤ q3 := by omega
  have hb4 : w.heap.size ≤ q4 := by omega
  clear hq3 hq4
  have H44 := Lib.hid (H4.out.put 0 (dpV q3 q4) (cs' := [dpV q3 q4]) rfl)
  have HG4 := Lib.hid (show w3.grownBy (w3.setCell ⟨q4, 0, none⟩ (dpV q3 q4)) (some q4) from grown_set (grownL_same w3 (some q4)) (p := ⟨q4, 0, none⟩) (.inl rfl) _)
  have HB4 := Lib.hid (show Below w.heap.size w (w3.setCell ⟨q4, 0, none⟩ (dpV q3 q4)) from HB0.out.setCell hb4 _)
  have C := Lib.hid (CL.out q3 q4 _ (HT3.out.kept HG4.out (fun g e => by obtain rfl := Option.some.inj e; exact HF4.out)) HF3.out (H3.out.grown HG4.out (fun e => h34 (Option.some.inj e).symm)) H44.out.xb h34)
  rw [show ((1 : Nat) : Int) = 1 from rfl] at C
  clear CL HT3 HF3 HF4 HT
  have c4 := H4.out.cell 0 _ rfl
  have f4 := H4.out.free 0
  have l4 := H4.out.lt
  have x0 := HX.out.2 0 _ rfl
  have x1 := HX.out.2 1 _ rfl
  have x2 := HX.out.2 2 _ rfl
  have x3 := HX.out.2 3 _ rfl
  have x4 := HX.out.2 4 _ rfl
  have x5 := HX.out.2 5 _ rfl
  have x6 := HX.out.2 6 _ rfl
  have x7 := HX.out.2 7 _ rfl
  have x8 := HX.out.2 8 _ rfl
  have xl := HX.out.1
  unfold dpV at *
  go_wp2_with fail
  ((with_reducible refine (C.out).mono ?_); rintro e w4 ⟨rfl, o1, g1⟩)
  have HB5 := Lib.hid (HB4.out.grown g1 HB4.out.size (fun q hq => by injection hq with hq; omega))
  clear o1 g1
  go_wp2_with fail
  go_ret
  exact ⟨rfl, HB5.out⟩
theorem checkCond_any (d : Nat) (c : Cn) (w : World) (hT : TAt d w c) (hB : Tbs w) :
    Calls Tryz.prog 35 #[c.agg] w (IntO w (cnE d c)) := by
  have HE := Lib.hid (show cnE d c = if 300 < szN d c ∨ 20 < dpN d c then 2 else trE d c from rfl)
  have CL := Lib.hid (fun w h => large_any d c w h)
  have CW := Lib.hid (fun w h1 h2 => walk_any d c w h1 h2)
  obtain ⟨b, hb⟩ : ∃ z, decide (300 < szN d c ∨ 20 < dpN d c) = z := ⟨_, rfl⟩
  have HE2 := Lib.hid (HE.out.trans (show _ = if b = true then 2 else trE d c by rw [← hb]; simp only [decide_eq_true_eq]))
  rw [hb] at CL
  clear hb HE
  obtain ⟨t, ht⟩ : ∃ z, trE d c = z := ⟨_, rfl⟩
  obtain ⟨R, hR⟩ : ∃ z, cnE d c = z := ⟨_, rfl⟩
  rw [ht] at CW HE2
  rw [hR] at HE2 ⊢
  clear ht hR
  have HT := Lib.hid hT
  have HB := Lib.hid hB
  clear hT hB
  unfold Cn.agg at *
  obtain ⟨n, args⟩ := c
  obtain ⟨kind, name, field, sign, va, vc, vals, wa, wc, whs, within, number, aa, ac⟩ := n
  simp only [Cn.nd, Cn.args] at *
  obtain ⟨nv, hnv⟩ : ∃ z, vals.length = z := ⟨_, rfl⟩
  obtain ⟨nw, hnw⟩ : ∃ z, whs.length = z := ⟨_, rfl⟩
  obtain ⟨na, hna⟩ : ∃ z, args.length = z := ⟨_, rfl⟩
  rw [hnv, hnw, hna] at CL CW ⊢
  clear hnv hnw hna
  have HX := Lib.hid (XB.new w [.int .i64 kind, .string name, .string field, .string sign, .slice va nv vc, .slice wa nw wc, .int .i64 within, .int .i64 number, .slice aa na ac] 30)
  have HTa := Lib.hid (HT.out.alloc (.cells #[.int .i64 kind, .string name, .string field, .string sign, .slice va nv vc, .slice wa nw wc, .int .i64 within, .int .i64 number, .slice aa na ac] 30))
  have HBa := Lib.hid (HB.out.alloc (.cells #[.int .i64 kind, .string name, .string field, .string sign, .slice va nv vc, .slice wa nw wc, .int .i64 within, .int .i64 number, .slice aa na ac] 30))
  have HL := Lib.hid ((Below.refl w.heap.size w).alloc (Nat.le_refl _) (.cells #[.int .i64 kind, .string name, .string field, .string sign, .slice va nv vc, .slice wa nw wc, .int .i64 within, .int .i64 number, .slice aa na ac] 30))
  clear HT HB
  go_enter Tryz.func35, Tryz.ntmps35
  go_wp2_with fail
  ((with_reducible refine (CL.out _ HTa.out).mono ?_); rintro e w1 ⟨rfl, hb1⟩)
  have HX1 := Lib.hid (HX.out.below hb1)
  have HT1 := Lib.hid (HTa.out.below hb1)
  have HB1 := Lib.hid (HBa.out.below hb1)
  have HL1 := Lib.hid (HL.out.trans (hb1.mono HL.out.size))
  clear hb1 HX HTa HBa HL
  cases b with
  | true =>
    go_wp2_with fail
    go_ret
    exact ⟨ret_int (by rw [HE2.out]; rfl), HL1.out⟩
  | false =>
    have x0 := HX1.out.2 0 _ rfl
    have x1 := HX1.out.2 1 _ rfl
    have x2 := HX1.out.2 2 _ rfl
    have x3 := HX1.out.2 3 _ rfl
    have x4 := HX1.out.2 4 _ rfl
    have x5 := HX1.out.2 5 _ rfl
    have x6 := HX1.out.2 6 _ rfl
    have x7 := HX1.out.2 7 _ rfl
    have x8 := HX1.out.2 8 _ rfl
    have xl := HX1.out.1
    go_wp2_with fail
    ((with_reducible refine (CW.out _ HT1.out HB1.out).mono ?_); rintro e w2 ⟨rfl, hb2⟩)
    have HL2 := Lib.hid (HL1.out.trans (hb2.mono HL1.out.size))
    clear hb2
    go_wp2_with fail
    go_ret
    exact ⟨ret_int (by rw [HE2.out]; rfl), HL2.out⟩
end Go.Proofs.YtfdpfkdfglombaaGreatDoor
