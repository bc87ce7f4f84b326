/- The coupon that is asked for: offer.Book.check, handref1.Book.asked (printed by gen_bookask.py). -/
import Derived.Test.YtdnikegakcdcnaaDoorBook
import Derived.Test.YtdnikegakcdcnaaDoorPaced
import Derived.Deep.DeepCutAuto
import Derived.Test.YtdnikegakcdcnaaDoorPurseOps
set_option linter.unusedVariables false
namespace Go.Proofs.YtdnikegakcdcnaaDoor
open Go.RowKit

def AskOut (w : World) (l : List Cp) (code who : ByteArray) (t : Int) (e : Ending) (w' : World) : Prop := e = .returned (.tuple #[(askC l code who t).agg, .int .i64 (askE l code who t)]) ∧ Below w.heap.size w w'
theorem AskOut.no {w w' : World} {l : List Cp} {code who : ByteArray} {t E : Int} (h : askE l code who t = E) (h0 : E ≠ 0) (hb : Below w.heap.size w w') : AskOut w l code who t (.returned (.tuple #[.agg #[.string ⟨#[]⟩, .string ⟨#[]⟩, .int .i64 0, .int .i64 0, .int .i64 0, .int .i64 0], .int .i64 E])) w' := by
  subst h
  refine ⟨?_, hb⟩
  unfold askC
  rw [if_neg h0]
  rfl
theorem AskOut.yes {w w' : World} {l : List Cp} {code who : ByteArray} {t : Int} {c o : ByteArray} {m e f u : Int} (h : askE l code who t = 0) (hG : cpGet l code = ⟨c, o, m, e, f, u⟩) (hb : Below w.heap.size w w') : AskOut w l code who t (.returned (.tuple #[.agg #[.string c, .string o, .int .i64 m, .int .i64 e, .int .i64 f, .int .i64 u], .int .i64 0])) w' := by
  refine ⟨?_, hb⟩
  unfold askC
  rw [h, if_pos rfl, hG]
  rfl
theorem cells6 {w : World} {r : Nat} {v0 v1 v2 v3 v4 v5 : Value} {T : TypeId} (h : w.heap[r]? = some (.cells #[v0, v1, v2, v3, v4, v5] T (0, 0))) :
    w.cell? ⟨r, 0, none⟩ = some v0 ∧ w.cell? ⟨r, 1, none⟩ = some v1 ∧ w.cell? ⟨r, 2, none⟩ = some v2 ∧ w.cell? ⟨r, 3, none⟩ = some v3 ∧ w.cell? ⟨r, 4, none⟩ = some v4 ∧ w.cell? ⟨r, 5, none⟩ = some v5 :=
  ⟨by simp [World.cell?, h], by simp [World.cell?, h], by simp [World.cell?, h], by simp [World.cell?, h], by simp [World.cell?, h], by simp [World.cell?, h]⟩
theorem frozen6 {w : World} {r : Nat} {v0 v1 v2 v3 v4 v5 : Value} {T : TypeId} (h : w.heap[r]? = some (.cells #[v0, v1, v2, v3, v4, v5] T (0, 0))) :
    w.frozen? ⟨r, 0, none⟩ = false ∧ w.frozen? ⟨r, 1, none⟩ = false ∧ w.frozen? ⟨r, 2, none⟩ = false ∧ w.frozen? ⟨r, 3, none⟩ = false ∧ w.frozen? ⟨r, 4, none⟩ = false ∧ w.frozen? ⟨r, 5, none⟩ = false :=
  ⟨by simp [World.frozen?, h], by simp [World.frozen?, h], by simp [World.frozen?, h], by simp [World.frozen?, h], by simp [World.frozen?, h], by simp [World.frozen?, h]⟩
theorem below_set6 {b r : Nat} {w w' : World} (h : Below b w w') (hr : b ≤ r) (v0 v1 v2 v3 v4 v5 : Value) :
    Below b w ((((((w'.setCell ⟨r, 0, none⟩ v0).setCell ⟨r, 1, none⟩ v1).setCell ⟨r, 2, none⟩ v2).setCell ⟨r, 3, none⟩ v3).setCell ⟨r, 4, none⟩ v4).setCell ⟨r, 5, none⟩ v5) :=
  (((((h.setCell (p := ⟨r, 0, none⟩) hr _).setCell (p := ⟨r, 1, none⟩) hr _).setCell (p := ⟨r, 2, none⟩) hr _).setCell (p := ⟨r, 3, none⟩) hr _).setCell (p := ⟨r, 4, none⟩) hr _).setCell (p := ⟨r, 5, none⟩) hr _
theorem XB.at1 {w : World} {q : Nat} {v : Value} (h : XB w q [v]) : w.cell? ⟨q, 0, none⟩ = some v := h.2 0 _ rfl
theorem getCp (l : List Cp) (i : Nat) (h : i < l.length) : l.getD i zeroCp = l[i] := by
  rw [List.getD_eq_getElem?_getD, List.getElem?_eq_getElem h]; rfl

set_option maxRecDepth 100000 in
set_option maxHeartbeats 8000000 in
theorem checkX_any {b0 : Nat} {gs : List Nat} {g m nn : Nat} {l : List Cp} {hv : Value} {hl : List Rd} (code who : ByteArray) (t : Int) (w : World) (hP : Bk b0 gs 148 g (.map (some m)) (FX m nn l) hv hl w) (hc : code.size ≤ 1000) (hw : who.size ≤ 1000) :
    Calls Tryd.prog 121 #[.pointer (some ⟨g, 0, none⟩), .string code, .string who, .int .i64 t] w (AskOut w l code who t) := by
  obtain ⟨p0, -, hgl, -⟩ := hP.cells
  have HM1 := Lib.hid (CpMap.alloc hP.fact (.cells #[.string ⟨#[]⟩, .string ⟨#[]⟩, .int .i64 0, .int .i64 0, .int .i64 0, .int .i64 0] 144))
  have HB1 := Lib.hid ((Below.refl w.heap.size w).alloc (Nat.le_refl _) (.cells #[.string ⟨#[]⟩, .string ⟨#[]⟩, .int .i64 0, .int .i64 0, .int .i64 0, .int .i64 0] 144))
  have HZ := Lib.hid (heap_alloc_new w (.cells #[.string ⟨#[]⟩, .string ⟨#[]⟩, .int .i64 0, .int .i64 0, .int .i64 0, .int .i64 0] 144))
  have HC0 := Lib.hid ((HB1.out.cell (p := ⟨g, 0, none⟩) hgl).trans p0)
  have L1 := HM1.out.look code (by unfold maxLen; omega)
  have HE := Lib.hid (show askE l code who t = if codeE code ≠ 0 then codeE code else if cpAt l code < 0 then 8 else if keyB who = false then 5 else if momB t = false then 1 else 0 from rfl)
  have HNo := Lib.hid (fun E (w' : World) => @AskOut.no w w' l code who t E)
  have HYes := Lib.hid (fun c o m e f u (w' : World) => @AskOut.yes w w' l code who t c o m e f u)
  have C0 := Lib.hid (fun w => CheckCode_any code w hc)
  have C1 := Lib.hid (fun w => isKey_any who w (by unfold maxLen; omega))
  have C2 := Lib.hid (fun w => omoment_any t w)
  have HHA := Lib.hid (hasS_cpAt l code)
  obtain ⟨G, hG⟩ : ∃ G, cpGet l code = G := ⟨_, rfl⟩
  rw [hG] at L1 HYes
  obtain ⟨G1, G2, G3, G4, G5, G6⟩ := G
  simp only [Cp.agg] at L1
  have HG := Lib.hid hG
  clear hP hG p0
  generalize hasS (l.map Cp.code) code = b2 at *
  generalize cpAt l code = D at *
  generalize keyB who = b1 at *
  generalize momB t = b3 at *
  generalize codeE code = ce at *
  generalize hpost : AskOut w l code who t = post at *
  have HPO := Lib.hid hpost
  clear hpost
  go_enter Tryd.func121, Tryd.ntmps121
  go_wp2_with fail
  generalize hw1 : w.alloc (.cells #[.string ⟨#[]⟩, .string ⟨#[]⟩, .int .i64 0, .int .i64 0, .int .i64 0, .int .i64 0] 144) = w1 at *
  have hrl : w.heap.size < w1.heap.size := by rw [← hw1]; simp
  have hgl1 : g < w1.heap.size := by omega
  clear hw1
  generalize hr : w.heap.size = r at *
  with_reducible refine (C0.out _).mono ?_
  rintro e w2 ⟨rfl, rfl⟩
  by_cases hce : ce = 0
  · subst hce
    have HE1 := Lib.hid (HE.out.trans (if_neg (by decide)))
    have hc0 := HC0.out
    go_upto_block 0 with (fail)
    have HZ2 := Lib.hid ((Below.heap_alloc w1 (.cells #[.string G1, .string G2, .int .i64 G3, .int .i64 G4, .int .i64 G5, .int .i64 G6] 144) r hrl).trans HZ.out)
    have HB2 := Lib.hid (HB1.out.alloc (Nat.le_of_lt hrl) (.cells #[.string G1, .string G2, .int .i64 G3, .int .i64 G4, .int .i64 G5, .int .i64 G6] 144))
    have HX2 := Lib.hid (XB.new w1 [.string G1, .string G2, .int .i64 G3, .int .i64 G4, .int .i64 G5, .int .i64 G6] 144)
    simp only [List.toArray] at HX2
    have hrl2 : r < (w1.alloc (.cells #[.string G1, .string G2, .int .i64 G3, .int .i64 G4, .int .i64 G5, .int .i64 G6] 144)).heap.size := by simp; omega
    have hqr : ¬ w1.heap.size = r := by omega
    have hqr2 : ¬ r = w1.heap.size := by omega
    generalize w1.alloc (.cells #[.string G1, .string G2, .int .i64 G3, .int .i64 G4, .int .i64 G5, .int .i64 G6] 144) = w2 at *
    generalize w1.heap.size = q at *
    obtain ⟨e0, e1, e2, e3, e4, e5⟩ := cells6 HZ2.out
    obtain ⟨f0, f1, f2, f3, f4, f5⟩ := frozen6 HZ2.out
    obtain ⟨x0, x1, x2, x3, x4, x5⟩ := HX2.out.at6
    have hq := HX2.out.1
    clear HX2 HZ2 hc0 L1
    cases b2 with
    | false =>
      have hD : D < 0 := by have := HHA.out; simp at this; omega
      have HE2 := Lib.hid (HE1.out.trans (if_pos hD))
      go_wp2_with fail
      rw [← HPO.out]
      refine bodyPost_ret (v := .tuple #[.agg #[.string ⟨#[]⟩, .string ⟨#[]⟩, .int .i64 0, .int .i64 0, .int .i64 0, .int .i64 0], .int .i64 8]) (by simp [results, Tryd.results121, go_sem, e0, e1, e2, e3, e4, e5]) rfl (AskOut.no HE2.out (by decide) (by rw [hr]; exact below_set6 HB2.out (Nat.le_refl _) _ _ _ _ _ _))
    | true =>
      have hD : ¬ D < 0 := by have := HHA.out; simp at this; omega
      have HE2 := Lib.hid (HE1.out.trans (if_neg hD))
      clear hD
      go_wp2_with fail
      with_reducible refine (C1.out _).mono ?_
      rintro e w3 ⟨rfl, rfl⟩
      cases b1 with
      | false =>
        have HE3 := Lib.hid (HE2.out.trans (if_pos rfl))
        go_wp2_with fail
        rw [← HPO.out]
        refine bodyPost_ret (v := .tuple #[.agg #[.string ⟨#[]⟩, .string ⟨#[]⟩, .int .i64 0, .int .i64 0, .int .i64 0, .int .i64 0], .int .i64 5]) (by simp [results, Tryd.results121, go_sem, e0, e1, e2, e3, e4, e5]) rfl (AskOut.no HE3.out (by decide) (by rw [hr]; exact below_set6 HB2.out (Nat.le_refl _) _ _ _ _ _ _))
      | true =>
        have HE3 := Lib.hid (HE2.out.trans (if_neg (by decide)))
        go_wp2_with fail
        with_reducible refine (C2.out _).mono ?_
        rintro e w4 ⟨rfl, rfl⟩
        cases b3 with
        | false =>
          have HE4 := Lib.hid (HE3.out.trans (if_pos rfl))
          go_wp2_with fail
          rw [← HPO.out]
          refine bodyPost_ret (v := .tuple #[.agg #[.string ⟨#[]⟩, .string ⟨#[]⟩, .int .i64 0, .int .i64 0, .int .i64 0, .int .i64 0], .int .i64 1]) (by simp [results, Tryd.results121, go_sem, e0, e1, e2, e3, e4, e5]) rfl (AskOut.no HE4.out (by decide) (by rw [hr]; exact below_set6 HB2.out (Nat.le_refl _) _ _ _ _ _ _))
        | true =>
          have HE4 := Lib.hid (HE3.out.trans (if_neg (by decide)))
          go_wp2_with fail
          rw [← HPO.out]
          refine bodyPost_ret (v := .tuple #[.agg #[.string G1, .string G2, .int .i64 G3, .int .i64 G4, .int .i64 G5, .int .i64 G6], .int .i64 0]) (by simp [results, Tryd.results121, go_sem, e0, e1, e2, e3, e4, e5]) rfl (AskOut.yes HE4.out HG.out (by rw [hr]; exact below_set6 HB2.out (Nat.le_refl _) _ _ _ _ _ _))
  · have HCE := Lib.hid hce
    have HE1 := Lib.hid (HE.out.trans (if_pos hce))
    have hce1 : (ce == 0) = false := by simpa using hce
    have hce2 : (ce != 0) = true := by simpa using hce
    obtain ⟨e0, e1, e2, e3, e4, e5⟩ := cells6 HZ.out
    obtain ⟨f0, f1, f2, f3, f4, f5⟩ := frozen6 HZ.out
    go_wp2_with fail
    rw [← HPO.out]
    refine bodyPost_ret (v := .tuple #[.agg #[.string ⟨#[]⟩, .string ⟨#[]⟩, .int .i64 0, .int .i64 0, .int .i64 0, .int .i64 0], .int .i64 ce]) (by simp [results, Tryd.results121, go_sem, e0, e1, e2, e3, e4, e5]) rfl (AskOut.no HE1.out HCE.out (by rw [hr]; exact below_set6 HB1.out (Nat.le_refl _) _ _ _ _ _ _))

set_option maxRecDepth 100000 in
set_option maxHeartbeats 8000000 in
theorem askedR_any {b0 : Nat} {gs : List Nat} {g bc : Nat} {ba : Option Addr} {l : List Cp} {hv : Value} {hl : List Rd} (code who : ByteArray) (t : Int) (w : World) (hP : Bk b0 gs 155 g (.slice ba l.length bc) (FR ba l) hv hl w) (hc : code.size ≤ 1000) (hw : who.size ≤ 1000) (hn : l.length ≤ 1000) :
    Calls Tryd.prog 123 #[.pointer (some ⟨g, 0, none⟩), .string code, .string who, .int .i64 t] w (AskOut w l code who t) := by
  obtain ⟨p0, -, hgl, -⟩ := hP.cells
  have HX0 := Lib.hid ((XB.new w [.string code] 9).alloc (.cells #[.string ⟨#[]⟩, .string ⟨#[]⟩, .int .i64 0, .int .i64 0, .int .i64 0, .int .i64 0] 144))
  have HB1 := Lib.hid (((Below.refl w.heap.size w).alloc (Nat.le_refl _) (.cells #[.string code] 9)).alloc (by simp) (.cells #[.string ⟨#[]⟩, .string ⟨#[]⟩, .int .i64 0, .int .i64 0, .int .i64 0, .int .i64 0] 144))
  have HZ := Lib.hid (show ((w.alloc (.cells #[.string code] 9)).alloc (.cells #[.string ⟨#[]⟩, .string ⟨#[]⟩, .int .i64 0, .int .i64 0, .int .i64 0, .int .i64 0] 144)).heap[w.heap.size + 1]? = some (.cells #[.string ⟨#[]⟩, .string ⟨#[]⟩, .int .i64 0, .int .i64 0, .int .i64 0, .int .i64 0] 144 (0, 0)) by
    have h := heap_alloc_new (w.alloc (.cells #[.string code] 9)) (.cells #[.string ⟨#[]⟩, .string ⟨#[]⟩, .int .i64 0, .int .i64 0, .int .i64 0, .int .i64 0] 144)
    rw [World.size_alloc] at h
    exact h)
  have HC0 := Lib.hid ((HB1.out.cell (p := ⟨g, 0, none⟩) hgl).trans p0)
  have hf : RAt w ba 6 Cp.cells l := hP.fact
  have HI := Lib.hid (hf.below HB1.out)
  have HE := Lib.hid (show askE l code who t = if codeE code ≠ 0 then codeE code else if cpAt l code < 0 then 8 else if keyB who = false then 5 else if momB t = false then 1 else 0 from rfl)
  have C0 := Lib.hid (fun w => CodeFault_any code w hc)
  have C1 := Lib.hid (fun w => keyOf_any who w (by unfold maxLen; omega))
  have C2 := Lib.hid (fun w => moment_any t w)
  have C3 := Lib.hid (fun w' q (hI : RAt w' ba 6 Cp.cells l) hq => cpAskIdx_any ba l l.length bc q code w' rfl hn hI hq)
  have hbd := cpAt_bd l code
  have HG := Lib.hid (show cpGet l code = if cpAt l code < 0 then zeroCp else l.getD (cpAt l code).toNat zeroCp from rfl)
  have HF := Lib.hid (show idxG (l.map Cp.code) code = cpAt l code from rfl)
  rw [HF.out] at C3
  simp only [List.toArray] at HX0
  clear hP p0 hf HF
  generalize cpAt l code = D at *
  generalize keyB who = b1 at *
  generalize momB t = b3 at *
  generalize codeE code = ce at *
  generalize hpost : AskOut w l code who t = post at *
  have HPO := Lib.hid hpost
  clear hpost
  go_enter Tryd.func123, Tryd.ntmps123
  go_upto_region 1 with (fail)
  have hsz : ((w.alloc (.cells #[.string code] 9)).alloc (.cells #[.string ⟨#[]⟩, .string ⟨#[]⟩, .int .i64 0, .int .i64 0, .int .i64 0, .int .i64 0] 144)).heap.size = w.heap.size + 1 + 1 := by simp
  generalize (w.alloc (.cells #[.string code] 9)).alloc (.cells #[.string ⟨#[]⟩, .string ⟨#[]⟩, .int .i64 0, .int .i64 0, .int .i64 0, .int .i64 0] 144) = w1 at *
  generalize hr : w.heap.size = r at *
  have hrl : r + 1 < w1.heap.size := by omega
  have hgl1 : g < w1.heap.size := by omega
  have y0 : w1.cell? ⟨r, 0, none⟩ = some (.string code) := XB.at1 HX0.out
  have hrl0 : r < w1.heap.size := by omega
  clear hsz
  go_wp2_with fail
  with_reducible refine (C0.out _).mono ?_
  rintro e w2 ⟨rfl, d2⟩
  have HB2 := Lib.hid (HB1.out.trans (d2.mono (by omega)))
  have HX2 := Lib.hid (HX0.out.below d2)
  have HZ2 := Lib.hid ((d2.block (r + 1) hrl).trans HZ.out)
  have HC2 := Lib.hid ((d2.cell (p := ⟨g, 0, none⟩) hgl1).trans HC0.out)
  have HI2 := Lib.hid (HI.out.below d2)
  have hz2 := d2.size
  clear d2 HB1 HX0 HZ HC0 HI y0
  have hrl2 : r + 1 < w2.heap.size := by omega
  have hgl2 : g < w2.heap.size := by omega
  by_cases hce : ce = 0
  · subst hce
    have HE1 := Lib.hid (HE.out.trans (if_neg (by decide)))
    have y0 : w2.cell? ⟨g, 0, none⟩ = some (.slice ba l.length bc) := HC2.out
    go_wp2_with fail
    with_reducible refine (C3.out _ _ HI2.out (XB.at1 HX2.out)).mono ?_
    rintro e w3 ⟨rfl, d3⟩
    have HB3 := Lib.hid (HB2.out.trans (d3.mono (by omega)))
    have HZ3 := Lib.hid ((d3.block (r + 1) hrl2).trans HZ2.out)
    have HC3 := Lib.hid ((d3.cell (p := ⟨g, 0, none⟩) hgl2).trans HC2.out)
    have HI3 := Lib.hid (HI2.out.below d3)
    have hz3 := d3.size
    clear d3 HB2 HX2 HZ2 HC2 HI2 y0
    have hrl3 : r + 1 < w3.heap.size := by omega
    have hgl3 : g < w3.heap.size := by omega
    by_cases hD : D < 0
    · have HE2 := Lib.hid (HE1.out.trans (if_pos hD))
      obtain ⟨e0, e1, e2, e3, e4, e5⟩ := cells6 HZ3.out
      obtain ⟨f0, f1, f2, f3, f4, f5⟩ := frozen6 HZ3.out
      go_wp2_with fail
      rw [← HPO.out]
      refine bodyPost_ret (v := .tuple #[.agg #[.string ⟨#[]⟩, .string ⟨#[]⟩, .int .i64 0, .int .i64 0, .int .i64 0, .int .i64 0], .int .i64 8]) (by simp [results, Tryd.results123, go_sem, e0, e1, e2, e3, e4, e5]) rfl (AskOut.no HE2.out (by decide) (by rw [hr]; exact below_set6 HB3.out (show r ≤ r + 1 by omega) _ _ _ _ _ _))
    · have HE2 := Lib.hid (HE1.out.trans (if_neg hD))
      go_wp2_with fail
      with_reducible refine (C1.out _).mono ?_
      rintro e w4 ⟨rfl, d4⟩
      have HB4 := Lib.hid (HB3.out.trans (d4.mono (by omega)))
      have HZ4 := Lib.hid ((d4.block (r + 1) hrl3).trans HZ3.out)
      have HC4 := Lib.hid ((d4.cell (p := ⟨g, 0, none⟩) hgl3).trans HC3.out)
      have HI4 := Lib.hid (HI3.out.below d4)
      have hz4 := d4.size
      clear d4 HB3 HZ3 HC3 HI3
      have hrl4 : r + 1 < w4.heap.size := by omega
      have hgl4 : g < w4.heap.size := by omega
      obtain ⟨e0, e1, e2, e3, e4, e5⟩ := cells6 HZ4.out
      obtain ⟨f0, f1, f2, f3, f4, f5⟩ := frozen6 HZ4.out
      cases b1 with
      | false =>
        have HE3 := Lib.hid (HE2.out.trans (if_pos rfl))
        go_wp2_with fail
        rw [← HPO.out]
        refine bodyPost_ret (v := .tuple #[.agg #[.string ⟨#[]⟩, .string ⟨#[]⟩, .int .i64 0, .int .i64 0, .int .i64 0, .int .i64 0], .int .i64 5]) (by simp [results, Tryd.results123, go_sem, e0, e1, e2, e3, e4, e5]) rfl (AskOut.no HE3.out (by decide) (by rw [hr]; exact below_set6 HB4.out (show r ≤ r + 1 by omega) _ _ _ _ _ _))
      | true =>
        have HE3 := Lib.hid (HE2.out.trans (if_neg (by decide)))
        go_wp2_with fail
        with_reducible refine (C2.out _).mono ?_
        rintro e w5 ⟨rfl, rfl⟩
        cases b3 with
        | false =>
          have HE4 := Lib.hid (HE3.out.trans (if_pos rfl))
          go_wp2_with fail
          rw [← HPO.out]
          refine bodyPost_ret (v := .tuple #[.agg #[.string ⟨#[]⟩, .string ⟨#[]⟩, .int .i64 0, .int .i64 0, .int .i64 0, .int .i64 0], .int .i64 1]) (by simp [results, Tryd.results123, go_sem, e0, e1, e2, e3, e4, e5]) rfl (AskOut.no HE4.out (by decide) (by rw [hr]; exact below_set6 HB4.out (show r ≤ r + 1 by omega) _ _ _ _ _ _))
        | true =>
          have HE4 := Lib.hid (HE3.out.trans (if_neg (by decide)))
          obtain ⟨i, rfl⟩ := Int.eq_ofNat_of_zero_le (show 0 ≤ D by omega)
          have hil : i < l.length := by omega
          have HG2 := Lib.hid (HG.out.trans (if_neg (by omega)))
          rw [Int.toNat_natCast, getCp l i hil] at HG2
          obtain ⟨p, off, rfl, hpl, c0, c1, c2, c3, c4, c5⟩ := HI4.out.at6 hil (v0 := .string l[i].code) (v1 := .string l[i].offer) (v2 := .int .i64 l[i].most) (v3 := .int .i64 l[i].each) (v4 := .int .i64 l[i].from_) (v5 := .int .i64 l[i].to_) rfl
          have hc0 := HC4.out
          generalize l[i] = x at *
          obtain ⟨G1, G2, G3, G4, G5, G6⟩ := x
          simp only at c0 c1 c2 c3 c4 c5
          clear HG hbd hD C0 C1 C2 C3 HI4
          go_wp2_with fail
          rw [← HPO.out]
          refine bodyPost_ret (v := .tuple #[.agg #[.string G1, .string G2, .int .i64 G3, .int .i64 G4, .int .i64 G5, .int .i64 G6], .int .i64 0]) (by simp [results, Tryd.results123, go_sem, e0, e1, e2, e3, e4, e5]) rfl (AskOut.yes HE4.out HG2.out (by rw [hr]; exact below_set6 HB4.out (show r ≤ r + 1 by omega) _ _ _ _ _ _))
  · have HCE := Lib.hid hce
    have HE1 := Lib.hid (HE.out.trans (if_pos hce))
    have hce1 : (ce == 0) = false := by simpa using hce
    have hce2 : (ce != 0) = true := by simpa using hce
    obtain ⟨e0, e1, e2, e3, e4, e5⟩ := cells6 HZ2.out
    obtain ⟨f0, f1, f2, f3, f4, f5⟩ := frozen6 HZ2.out
    go_wp2_with fail
    rw [← HPO.out]
    refine bodyPost_ret (v := .tuple #[.agg #[.string ⟨#[]⟩, .string ⟨#[]⟩, .int .i64 0, .int .i64 0, .int .i64 0, .int .i64 0], .int .i64 ce]) (by simp [results, Tryd.results123, go_sem, e0, e1, e2, e3, e4, e5]) rfl (AskOut.no HE1.out HCE.out (by rw [hr]; exact below_set6 HB2.out (show r ≤ r + 1 by omega) _ _ _ _ _ _))
end Go.Proofs.YtdnikegakcdcnaaDoor
/- What both books do alike: used, Free, Uses (printed by gen_bookops.py). -/
set_option linter.unusedVariables false
namespace Go.Proofs.YtdnikegakcdcnaaDoor
open Go.RowKit

theorem eqS_spell2 (x s : ByteArray) : (x.toList != s.toList) = !eqS x s := by
  rw [← eqS_spell]; rfl
def UsOut (w : World) (hl : List Rd) (code who : ByteArray) (e : Ending) (w' : World) : Prop := e = .returned (.tuple #[.int .i64 (usA hl code), .int .i64 (usO hl code who)]) ∧ Below w.heap.size w w'
theorem UsOut.mk {w w' : World} {hl : List Rd} {code who : ByteArray} {z1 z2 : Int} (h1 : z1 = usA hl code) (h2 : z2 = usO hl code who) (hb : Below w.heap.size w w') : UsOut w hl code who (.returned (.tuple #[.int .i64 z1, .int .i64 z2])) w' := by
  subst h1 h2
  exact ⟨rfl, hb⟩
def FrOut (w : World) (l : List Cp) (hl : List Rd) (code who : ByteArray) (t : Int) (e : Ending) (w' : World) : Prop := e = .returned (frV l hl code who t) ∧ Below w.heap.size w w'
def UseOut (w : World) (hl : List Rd) (e : Ending) (w' : World) : Prop := ∃ a c, e = .returned (.slice a hl.length c) ∧ RAt w' a 5 Rd.cells hl ∧ hl.length ≤ c ∧ c ≤ maxLen ∧ Below w.heap.size w w'

set_option maxRecDepth 100000 in
set_option maxHeartbeats 8000000 in
theorem usedX_any {b0 : Nat} {gs : List Nat} {g : Nat} {h0 : Value} {F : World → Prop} {hv : Value} {hl : List Rd} (code who : ByteArray) (w : World) (hP : Bk b0 gs 148 g h0 F hv hl w) (hn : hl.length ≤ 1000) :
    Calls Tryd.prog 122 #[.pointer (some ⟨g, 0, none⟩), .string code, .string who] w (UsOut w hl code who) := by
  obtain ⟨-, p1, hgl, -⟩ := hP.cells
  obtain ⟨ha, hc, rfl, hI, -, -⟩ := hP.uses
  have HI := Lib.hid hI
  have HA0 := Lib.hid (show usA (hl.take 0) code = 0 by rw [List.take_zero]; rfl)
  have HO0 := Lib.hid (show usO (hl.take 0) code who = 0 by rw [List.take_zero]; rfl)
  obtain ⟨n, hnn⟩ : ∃ n, hl.length = n := ⟨_, rfl⟩
  rw [hnn] at p1 hn
  have HN := Lib.hid hnn
  have HAL := Lib.hid (show usA (hl.take n) code = usA hl code by rw [← hnn, List.take_length])
  have HOL := Lib.hid (show usO (hl.take n) code who = usO hl code who by rw [← hnn, List.take_length])
  clear hP hI hnn
  go_enter Tryd.func122, Tryd.ntmps122
  go_wp2_with fail
  go_loopw [6, 7, 9, 15] (fun s r _ i wr => ∃ (k : Nat) (z1 z2 : Int), k ≤ n ∧ i = .int .i64 k ∧ s = .int .i64 z1 ∧ r = .int .i64 z2 ∧ z1 = usA (hl.take k) code ∧ z2 = usO (hl.take k) code who ∧ Below w.heap.size w wr) (fun _ _ _ i _ => n - (intOf i).toNat)
  case atStart => exact ⟨0, 0, 0, Nat.zero_le _, rfl, rfl, rfl, HA0.out.symm, HO0.out.symm, Below.refl _ _⟩
  case round =>
    obtain ⟨k, z1, z2, hk, rfl, rfl, rfl, hz1, hz2, hB⟩ := hrel
    by_cases hlt : k < n
    · have hkl : k < hl.length := by have := HN.out; omega
      obtain ⟨p, off, rfl, hp, c0, c1, c2, c3, c4⟩ := (HI.out.below hB).at5 hkl (v0 := .int .i64 hl[k].no) (v1 := .string hl[k].code) (v2 := .string hl[k].person) (v3 := .int .i64 hl[k].at_) (v4 := .int .i64 hl[k].undone) rfl
      have HS1 := Lib.hid (usA_succ hl code k hkl)
      have HS2 := Lib.hid (usO_succ hl code who k hkl)
      have hb1 := usA_bd (hl.take k) code
      have hb2 := usO_bd (hl.take k) code who
      have hlk : ((hl.take k).length : Int) ≤ 1000 := by rw [List.length_take]; omega
      rw [← hz1] at HS1 hb1
      rw [← hz2] at HS2 hb2
      have q1 : 0 ≤ z1 := hb1.1
      have q2 : z1 ≤ 1000 := by omega
      have q3 : 0 ≤ z2 := hb2.1
      have q4 : z2 ≤ 1000 := by omega
      have HUB := Lib.hid (show uB hl[k] code = (eqS hl[k].code code && decide (hl[k].undone < 0)) from rfl)
      have hs1 := eqS_spell hl[k].code code
      have hs2 := eqS_spell2 hl[k].code code
      have hs3 := eqS_spell hl[k].person who
      generalize uB hl[k] code = ub at *
      generalize eqS hl[k].code code = eb at *
      generalize eqS hl[k].person who = pb at *
      generalize hl[k] = x at *
      obtain ⟨no, xc, xw, xt, un⟩ := x
      simp only at c0 c1 c2 c3 c4 hs1 hs2 hs3 HUB
      have HX := Lib.hid (XB.new wr [.int .i64 no, .string xc, .string xw, .int .i64 xt, .int .i64 un] 74)
      simp only [List.toArray] at HX
      have HB := Lib.hid (hB.alloc hB.size (.cells #[.int .i64 no, .string xc, .string xw, .int .i64 xt, .int .i64 un] 74))
      clear hz1 hz2 hb1 hb2 hlk hB
      cases eb with
      | false =>
        simp only [Bool.not_false] at hs2
        obtain rfl : ub = false := HUB.out.trans (by simp)
        have HR1 := Lib.hid (HS1.out.trans (show _ = z1 by simp))
        have HR2 := Lib.hid (HS2.out.trans (show _ = z2 by simp))
        clear HX
        go_wp2_with fail
        go_roundw
        case rel => exact ⟨k + 1, z1, z2, by omega, by go_num, rfl, rfl, HR1.out.symm, HR2.out.symm, HB.out⟩
        case measure => simp [intOf]; omega
      | true =>
        simp only [Bool.not_true] at hs2
        by_cases hu : un < 0
        · have hd : decide (0 ≤ un) = false := decide_eq_false (by omega)
          obtain rfl : ub = true := HUB.out.trans (by simp [hu])
          have HR1 := Lib.hid (HS1.out.trans (show _ = z1 + 1 by simp))
          cases pb with
          | false =>
            have HR2 := Lib.hid (HS2.out.trans (show _ = z2 by simp))
            go_wp2_with fail
            go_roundw
            case rel => exact ⟨k + 1, z1 + 1, z2, by omega, by go_num, rfl, rfl, HR1.out.symm, HR2.out.symm, HB.out⟩
            case measure => simp [intOf]; omega
          | true =>
            have HR2 := Lib.hid (HS2.out.trans (show _ = z2 + 1 by simp))
            go_wp2_with fail
            go_roundw
            case rel => exact ⟨k + 1, z1 + 1, z2 + 1, by omega, by go_num, rfl, rfl, HR1.out.symm, HR2.out.symm, HB.out⟩
            case measure => simp [intOf]; omega
        · have hd : decide (0 ≤ un) = true := decide_eq_true (by omega)
          obtain rfl : ub = false := HUB.out.trans (by simp [hu])
          have HR1 := Lib.hid (HS1.out.trans (show _ = z1 by simp))
          have HR2 := Lib.hid (HS2.out.trans (show _ = z2 by simp))
          go_wp2_with fail
          go_roundw
          case rel => exact ⟨k + 1, z1, z2, by omega, by go_num, rfl, rfl, HR1.out.symm, HR2.out.symm, HB.out⟩
          case measure => simp [intOf]; omega
    · obtain rfl : k = n := by omega
      have H1 := Lib.hid (hz1.trans HAL.out)
      have H2 := Lib.hid (hz2.trans HOL.out)
      have HB := Lib.hid hB
      clear hz1 hz2 hB
      go_wp2_with fail
      go_ret2
      exact UsOut.mk H1.out H2.out HB.out

set_option maxHeartbeats 2000000 in
theorem usesX_any {b0 : Nat} {gs : List Nat} {g : Nat} {h0 : Value} {F : World → Prop} {hv : Value} {hl : List Rd} (w : World) (hP : Bk b0 gs 148 g h0 F hv hl w) (hn : hl.length ≤ 1000) :
    Calls Tryd.prog 48 #[.pointer (some ⟨g, 0, none⟩)] w (UseOut w hl) := by
  obtain ⟨-, p1, hgl, -⟩ := hP.cells
  obtain ⟨ha, hc, rfl, hI, -, -⟩ := hP.uses
  have C := Lib.hid (cloneRd_any ha hl hl.length hc w rfl hn hI)
  generalize hpost : UseOut w hl = post at *
  have HPO := Lib.hid hpost
  clear hP hI hpost
  go_enter Tryd.func48, Tryd.ntmps48
  go_wp2_with fail
  with_reducible refine C.out.mono ?_
  rintro e w1 ⟨v, rfl, hown, b1⟩
  obtain ⟨a2, c2, hv2, hI2, h1, h2⟩ := RAt.of_own hown (fun x _ => x.len)
  subst hv2
  have HR := Lib.hid (show UseOut w hl (.returned (.slice a2 hl.length c2)) w1 from ⟨a2, c2, rfl, hI2, h1, h2, b1⟩)
  clear hown hI2 h1 h2 b1
  go_wp2_with fail
  rw [← HPO.out]
  exact HR.out

set_option maxRecDepth 100000 in
set_option maxHeartbeats 8000000 in
theorem usedR_any {b0 : Nat} {gs : List Nat} {g : Nat} {h0 : Value} {F : World → Prop} {hv : Value} {hl : List Rd} (code who : ByteArray) (w : World) (hP : Bk b0 gs 155 g h0 F hv hl w) (hn : hl.length ≤ 1000) :
    Calls Tryd.prog 124 #[.pointer (some ⟨g, 0, none⟩), .string code, .string who] w (UsOut w hl code who) := by
  obtain ⟨-, p1, hgl, -⟩ := hP.cells
  obtain ⟨ha, hc, rfl, hI, -, -⟩ := hP.uses
  have HI := Lib.hid hI
  have HA0 := Lib.hid (show usA (hl.take 0) code = 0 by rw [List.take_zero]; rfl)
  have HO0 := Lib.hid (show usO (hl.take 0) code who = 0 by rw [List.take_zero]; rfl)
  obtain ⟨n, hnn⟩ : ∃ n, hl.length = n := ⟨_, rfl⟩
  rw [hnn] at p1 hn
  have HN := Lib.hid hnn
  have HAL := Lib.hid (show usA (hl.take n) code = usA hl code by rw [← hnn, List.take_length])
  have HOL := Lib.hid (show usO (hl.take n) code who = usO hl code who by rw [← hnn, List.take_length])
  clear hP hI hnn
  go_enter Tryd.func124, Tryd.ntmps124
  go_wp2_with fail
  go_loopw [6, 7, 9, 15] (fun s r _ i wr => ∃ (k : Nat) (z1 z2 : Int), k ≤ n ∧ i = .int .i64 k ∧ s = .int .i64 z1 ∧ r = .int .i64 z2 ∧ z1 = usA (hl.take k) code ∧ z2 = usO (hl.take k) code who ∧ Below w.heap.size w wr) (fun _ _ _ i _ => n - (intOf i).toNat)
  case atStart => exact ⟨0, 0, 0, Nat.zero_le _, rfl, rfl, rfl, HA0.out.symm, HO0.out.symm, Below.refl _ _⟩
  case round =>
    obtain ⟨k, z1, z2, hk, rfl, rfl, rfl, hz1, hz2, hB⟩ := hrel
    by_cases hlt : k < n
    · have hkl : k < hl.length := by have := HN.out; omega
      obtain ⟨p, off, rfl, hp, c0, c1, c2, c3, c4⟩ := (HI.out.below hB).at5 hkl (v0 := .int .i64 hl[k].no) (v1 := .string hl[k].code) (v2 := .string hl[k].person) (v3 := .int .i64 hl[k].at_) (v4 := .int .i64 hl[k].undone) rfl
      have HS1 := Lib.hid (usA_succ hl code k hkl)
      have HS2 := Lib.hid (usO_succ hl code who k hkl)
      have hb1 := usA_bd (hl.take k) code
      have hb2 := usO_bd (hl.take k) code who
      have hlk : ((hl.take k).length : Int) ≤ 1000 := by rw [List.length_take]; omega
      rw [← hz1] at HS1 hb1
      rw [← hz2] at HS2 hb2
      have q1 : 0 ≤ z1 := hb1.1
      have q2 : z1 ≤ 1000 := by omega
      have q3 : 0 ≤ z2 := hb2.1
      have q4 : z2 ≤ 1000 := by omega
      have HUB := Lib.hid (show uB hl[k] code = (eqS hl[k].code code && decide (hl[k].undone < 0)) from rfl)
      have hs1 := eqS_spell hl[k].code code
      have hs2 := eqS_spell2 hl[k].code code
      have hs3 := eqS_spell hl[k].person who
      generalize uB hl[k] code = ub at *
      generalize eqS hl[k].code code = eb at *
      generalize eqS hl[k].person who = pb at *
      generalize hl[k] = x at *
      obtain ⟨no, xc, xw, xt, un⟩ := x
      simp only at c0 c1 c2 c3 c4 hs1 hs2 hs3 HUB
      have HX := Lib.hid (XB.new wr [.int .i64 no, .string xc, .string xw, .int .i64 xt, .int .i64 un] 74)
      simp only [List.toArray] at HX
      have HB := Lib.hid (hB.alloc hB.size (.cells #[.int .i64 no, .string xc, .string xw, .int .i64 xt, .int .i64 un] 74))
      clear hz1 hz2 hb1 hb2 hlk hB
      cases eb with
      | false =>
        simp only [Bool.not_false] at hs2
        obtain rfl : ub = false := HUB.out.trans (by simp)
        have HR1 := Lib.hid (HS1.out.trans (show _ = z1 by simp))
        have HR2 := Lib.hid (HS2.out.trans (show _ = z2 by simp))
        clear HX
        go_wp2_with fail
        go_roundw
        case rel => exact ⟨k + 1, z1, z2, by omega, by go_num, rfl, rfl, HR1.out.symm, HR2.out.symm, HB.out⟩
        case measure => simp [intOf]; omega
      | true =>
        simp only [Bool.not_true] at hs2
        by_cases hu : un < 0
        · have hd : decide (0 ≤ un) = false := decide_eq_false (by omega)
          obtain rfl : ub = true := HUB.out.trans (by simp [hu])
          have HR1 := Lib.hid (HS1.out.trans (show _ = z1 + 1 by simp))
          cases pb with
          | false =>
            have HR2 := Lib.hid (HS2.out.trans (show _ = z2 by simp))
            go_wp2_with fail
            go_roundw
            case rel => exact ⟨k + 1, z1 + 1, z2, by omega, by go_num, rfl, rfl, HR1.out.symm, HR2.out.symm, HB.out⟩
            case measure => simp [intOf]; omega
          | true =>
            have HR2 := Lib.hid (HS2.out.trans (show _ = z2 + 1 by simp))
            go_wp2_with fail
            go_roundw
            case rel => exact ⟨k + 1, z1 + 1, z2 + 1, by omega, by go_num, rfl, rfl, HR1.out.symm, HR2.out.symm, HB.out⟩
            case measure => simp [intOf]; omega
        · have hd : decide (0 ≤ un) = true := decide_eq_true (by omega)
          obtain rfl : ub = false := HUB.out.trans (by simp [hu])
          have HR1 := Lib.hid (HS1.out.trans (show _ = z1 by simp))
          have HR2 := Lib.hid (HS2.out.trans (show _ = z2 by simp))
          go_wp2_with fail
          go_roundw
          case rel => exact ⟨k + 1, z1, z2, by omega, by go_num, rfl, rfl, HR1.out.symm, HR2.out.symm, HB.out⟩
          case measure => simp [intOf]; omega
    · obtain rfl : k = n := by omega
      have H1 := Lib.hid (hz1.trans HAL.out)
      have H2 := Lib.hid (hz2.trans HOL.out)
      have HB := Lib.hid hB
      clear hz1 hz2 hB
      go_wp2_with fail
      go_ret2
      exact UsOut.mk H1.out H2.out HB.out

set_option maxHeartbeats 2000000 in
theorem usesR_any {b0 : Nat} {gs : List Nat} {g : Nat} {h0 : Value} {F : World → Prop} {hv : Value} {hl : List Rd} (w : World) (hP : Bk b0 gs 155 g h0 F hv hl w) (hn : hl.length ≤ 1000) :
    Calls Tryd.prog 49 #[.pointer (some ⟨g, 0, none⟩)] w (UseOut w hl) := by
  obtain ⟨-, p1, hgl, -⟩ := hP.cells
  obtain ⟨ha, hc, rfl, hI, -, -⟩ := hP.uses
  have C := Lib.hid (cloneRd_any ha hl hl.length hc w rfl hn hI)
  generalize hpost : UseOut w hl = post at *
  have HPO := Lib.hid hpost
  clear hP hI hpost
  go_enter Tryd.func49, Tryd.ntmps49
  go_wp2_with fail
  with_reducible refine C.out.mono ?_
  rintro e w1 ⟨v, rfl, hown, b1⟩
  obtain ⟨a2, c2, hv2, hI2, h1, h2⟩ := RAt.of_own hown (fun x _ => x.len)
  subst hv2
  have HR := Lib.hid (show UseOut w hl (.returned (.slice a2 hl.length c2)) w1 from ⟨a2, c2, rfl, hI2, h1, h2, b1⟩)
  clear hown hI2 h1 h2 b1
  go_wp2_with fail
  rw [← HPO.out]
  exact HR.out
end Go.Proofs.YtdnikegakcdcnaaDoor
/- Free of both books (printed by gen_bookfree.py). -/
set_option linter.unusedVariables false
namespace Go.Proofs.YtdnikegakcdcnaaDoor
open Go.RowKit

theorem FrOut.mk {w w' : World} {l : List Cp} {hl : List Rd} {code who : ByteArray} {t : Int} {v : Value} (h : frV l hl code who t = v) (hb : Below w.heap.size w w') : FrOut w l hl code who t (.returned v) w' := by
  subst h
  exact ⟨rfl, hb⟩
theorem askE_at {l : List Cp} {code who : ByteArray} {t : Int} (h : askE l code who t = 0) : 0 ≤ cpAt l code ∧ momB t = true := by
  unfold askE at h
  split at h
  · rename_i h1; exact absurd h h1
  · split at h
    · omega
    · split at h
      · omega
      · split at h
        · omega
        · rename_i h2 h3 h4
          exact ⟨by omega, by simpa using h4⟩
theorem cpB_bd {x : Cp} (h : cpB x = true) : 1 ≤ x.most ∧ x.most ≤ 1000000 ∧ 1 ≤ x.each ∧ x.each ≤ 1000000 ∧ 0 ≤ x.from_ ∧ x.from_ ≤ 4321439 ∧ x.from_ < x.to_ ∧ x.to_ ≤ 4321440 := by
  unfold cpB at h
  simp only [Bool.and_eq_true, decide_eq_true_eq] at h
  omega
theorem ask_bd {l : List Cp} {code who : ByteArray} {t : Int} (hbl : ∀ x ∈ l, cpB x = true) (h : askE l code who t = 0) : cpB (askC l code who t) = true := by
  unfold askC
  rw [if_pos h]
  exact hbl _ (cpGet_mem (askE_at h).1)
/-- what is asked of a book, for a walk: the error AE, the coupon ⟨c0 .. u0⟩ -/
theorem ask_parts (l : List Cp) (code who : ByteArray) (t : Int) (hbl : ∀ x ∈ l, cpB x = true) : ∃ AE c0 o0 m0 e0 f0 u0, askE l code who t = AE ∧ askC l code who t = ⟨c0, o0, m0, e0, f0, u0⟩ ∧
    (AE = 0 → cpGet l code = ⟨c0, o0, m0, e0, f0, u0⟩ ∧ 1 ≤ m0 ∧ m0 ≤ 1000000 ∧ 1 ≤ e0 ∧ e0 ≤ 1000000) := by
  obtain ⟨G, hG⟩ : ∃ G, askC l code who t = G := ⟨_, rfl⟩
  obtain ⟨c0, o0, m0, e0, f0, u0⟩ := G
  refine ⟨_, c0, o0, m0, e0, f0, u0, rfl, hG, fun h => ?_⟩
  have hb := cpB_bd (ask_bd hbl h)
  rw [hG] at hb
  unfold askC at hG
  rw [if_pos h] at hG
  exact ⟨hG, hb.1, hb.2.1, hb.2.2.1, hb.2.2.2.1⟩

set_option maxRecDepth 100000 in
set_option maxHeartbeats 8000000 in
theorem freeX_any {b0 : Nat} {gs : List Nat} {g m nn : Nat} {l : List Cp} {hv : Value} {hl : List Rd} (code who : ByteArray) (t : Int) (w : World) (hP : Bk b0 gs 148 g (.map (some m)) (FX m nn l) hv hl w) (hc : code.size ≤ 1000) (hw : who.size ≤ 1000) (hln : l.length ≤ 1000) (hn : hl.length ≤ 1000) (hbl : ∀ x ∈ l, cpB x = true) :
    Calls Tryd.prog 45 #[.pointer (some ⟨g, 0, none⟩), .string code, .string who, .int .i64 t] w (FrOut w l hl code who t) := by
  have ca := checkX_any code who t w hP hc hw
  obtain ⟨AE, c0, o0, m0, e0, f0, u0, hAE, hAC, hAG⟩ := ask_parts l code who t hbl
  unfold AskOut at ca
  rw [hAE, hAC] at ca
  simp only [Cp.agg] at ca
  have CA := Lib.hid ca
  have HAG := Lib.hid hAG
  have HFR := Lib.hid (show frV l hl code who t = if askE l code who t ≠ 0 then .tuple #[.int .i64 0, .int .i64 (askE l code who t)] else if t < (cpGet l code).from_ ∨ (cpGet l code).to_ ≤ t then .tuple #[.int .i64 0, .int .i64 0]
    else .tuple #[.int .i64 (max (min ((cpGet l code).most - usA hl code) ((cpGet l code).each - usO hl code who)) 0), .int .i64 0] from rfl)
  rw [hAE] at HFR
  have CU := Lib.hid (fun w' (h : Bk b0 gs 148 g (.map (some m)) (FX m nn l) hv hl w') => usedX_any code who w' h hn)
  unfold UsOut at CU
  have HUA := usA_bd hl code
  have HUO := usO_bd hl code who
  have HP := Lib.hid hP
  clear ca hP hAE hAC hAG hbl
  generalize usA hl code = z1 at *
  generalize usO hl code who = z2 at *
  obtain ⟨za, zb⟩ := HUA
  obtain ⟨zc, zd⟩ := HUO
  have zb' : z1 ≤ 1000 := by omega
  have zd' : z2 ≤ 1000 := by omega
  clear zb zd
  go_enter Tryd.func45, Tryd.ntmps45
  go_wp2_with fail
  with_reducible refine CA.out.mono ?_
  rintro e w1 ⟨rfl, b1⟩
  have HX := Lib.hid (XB.new w1 [.string c0, .string o0, .int .i64 m0, .int .i64 e0, .int .i64 f0, .int .i64 u0] 144)
  simp only [List.toArray] at HX
  have HB1 := Lib.hid (b1.alloc b1.size (.cells #[.string c0, .string o0, .int .i64 m0, .int .i64 e0, .int .i64 f0, .int .i64 u0] 144))
  have HP1 := Lib.hid ((HP.out.below b1).below ((Below.refl _ _).alloc (Nat.le_refl _) (.cells #[.string c0, .string o0, .int .i64 m0, .int .i64 e0, .int .i64 f0, .int .i64 u0] 144)))
  clear b1 CA HP
  by_cases hAE : AE = 0
  · subst hAE
    obtain ⟨hG, y1, y2, y3, y4⟩ := HAG.out rfl
    have HFR1 := Lib.hid (HFR.out.trans (if_neg (by decide)))
    rw [hG] at HFR1
    simp only at HFR1
    clear HAG HFR hG
    go_upto_region 4 with (fail)
    generalize w1.alloc (.cells #[.string c0, .string o0, .int .i64 m0, .int .i64 e0, .int .i64 f0, .int .i64 u0] 144) = w2 at *
    generalize w1.heap.size = q at *
    obtain ⟨x0, x1, x2, x3, x4, x5⟩ := HX.out.at6
    have hq := HX.out.1
    by_cases ht : t < f0 ∨ u0 ≤ t
    · have HV := Lib.hid (HFR1.out.trans (if_pos ht))
      by_cases ht1 : t < f0
      · go_wp2_with fail
        go_ret2
        exact FrOut.mk HV.out HB1.out
      · have ht2 : u0 ≤ t := by omega
        go_wp2_with fail
        go_ret2
        exact FrOut.mk HV.out HB1.out
    · have HV := Lib.hid (HFR1.out.trans (if_neg ht))
      have ht1 : ¬ t < f0 := by omega
      have ht2 : ¬ u0 ≤ t := by omega
      clear ht
      go_wp2_with fail
      with_reducible refine (CU.out _ HP1.out).mono ?_
      rintro e w3 ⟨rfl, b3⟩
      have HB3 := Lib.hid (HB1.out.trans (b3.mono HB1.out.size))
      have HX3 := Lib.hid (HX.out.below b3)
      clear b3 x0 x1 x2 x3 x4 x5 hq HX HB1 HP1 CU
      obtain ⟨x0, x1, x2, x3, x4, x5⟩ := HX3.out.at6
      have hq := HX3.out.1
      go_wp2_with fail
      go_ret2
      exact FrOut.mk HV.out HB3.out
  · have HE0 := Lib.hid (HFR.out.trans (if_pos hAE))
    have hce1 : (AE == 0) = false := by simpa using hAE
    have hce2 : (AE != 0) = true := by simpa using hAE
    go_wp2_with fail
    go_ret2
    exact FrOut.mk HE0.out HB1.out

set_option maxRecDepth 100000 in
set_option maxHeartbeats 8000000 in
theorem freeR_any {b0 : Nat} {gs : List Nat} {g bc : Nat} {ba : Option Addr} {l : List Cp} {hv : Value} {hl : List Rd} (code who : ByteArray) (t : Int) (w : World) (hP : Bk b0 gs 155 g (.slice ba l.length bc) (FR ba l) hv hl w) (hc : code.size ≤ 1000) (hw : who.size ≤ 1000) (hln : l.length ≤ 1000) (hn : hl.length ≤ 1000) (hbl : ∀ x ∈ l, cpB x = true) :
    Calls Tryd.prog 46 #[.pointer (some ⟨g, 0, none⟩), .string code, .string who, .int .i64 t] w (FrOut w l hl code who t) := by
  have ca := askedR_any code who t w hP hc hw hln
  obtain ⟨AE, c0, o0, m0, e0, f0, u0, hAE, hAC, hAG⟩ := ask_parts l code who t hbl
  unfold AskOut at ca
  rw [hAE, hAC] at ca
  simp only [Cp.agg] at ca
  have CA := Lib.hid ca
  have HAG := Lib.hid hAG
  have HFR := Lib.hid (show frV l hl code who t = if askE l code who t ≠ 0 then .tuple #[.int .i64 0, .int .i64 (askE l code who t)] else if t < (cpGet l code).from_ ∨ (cpGet l code).to_ ≤ t then .tuple #[.int .i64 0, .int .i64 0]
    else .tuple #[.int .i64 (max (min ((cpGet l code).most - usA hl code) ((cpGet l code).each - usO hl code who)) 0), .int .i64 0] from rfl)
  rw [hAE] at HFR
  have CU := Lib.hid (fun w' (h : Bk b0 gs 155 g (.slice ba l.length bc) (FR ba l) hv hl w') => usedR_any code who w' h hn)
  unfold UsOut at CU
  have HUA := usA_bd hl code
  have HUO := usO_bd hl code who
  have HP := Lib.hid hP
  clear ca hP hAE hAC hAG hbl
  generalize usA hl code = z1 at *
  generalize usO hl code who = z2 at *
  obtain ⟨za, zb⟩ := HUA
  obtain ⟨zc, zd⟩ := HUO
  have zb' : z1 ≤ 1000 := by omega
  have zd' : z2 ≤ 1000 := by omega
  clear zb zd
  go_enter Tryd.func46, Tryd.ntmps46
  go_wp2_with fail
  with_reducible refine CA.out.mono ?_
  rintro e w1 ⟨rfl, b1⟩
  have HX := Lib.hid (XB.new w1 [.string c0, .string o0, .int .i64 m0, .int .i64 e0, .int .i64 f0, .int .i64 u0] 144)
  simp only [List.toArray] at HX
  have HB1 := Lib.hid (b1.alloc b1.size (.cells #[.string c0, .string o0, .int .i64 m0, .int .i64 e0, .int .i64 f0, .int .i64 u0] 144))
  have HP1 := Lib.hid ((HP.out.below b1).below ((Below.refl _ _).alloc (Nat.le_refl _) (.cells #[.string c0, .string o0, .int .i64 m0, .int .i64 e0, .int .i64 f0, .int .i64 u0] 144)))
  clear b1 CA HP
  by_cases hAE : AE = 0
  · subst hAE
    obtain ⟨hG, y1, y2, y3, y4⟩ := HAG.out rfl
    have HFR1 := Lib.hid (HFR.out.trans (if_neg (by decide)))
    rw [hG] at HFR1
    simp only at HFR1
    clear HAG HFR hG
    go_upto_region 4 with (fail)
    generalize w1.alloc (.cells #[.string c0, .string o0, .int .i64 m0, .int .i64 e0, .int .i64 f0, .int .i64 u0] 144) = w2 at *
    generalize w1.heap.size = q at *
    obtain ⟨x0, x1, x2, x3, x4, x5⟩ := HX.out.at6
    have hq := HX.out.1
    go_wp2_with fail
    with_reducible refine (CU.out _ HP1.out).mono ?_
    rintro e w3 ⟨rfl, b3⟩
    have HB3 := Lib.hid (HB1.out.trans (b3.mono HB1.out.size))
    have HX3 := Lib.hid (HX.out.below b3)
    clear b3 x0 x1 x2 x3 x4 x5 hq HX HB1 HP1 CU
    obtain ⟨x0, x1, x2, x3, x4, x5⟩ := HX3.out.at6
    have hq := HX3.out.1
    by_cases ht : t < f0 ∨ u0 ≤ t
    · have HV := Lib.hid (HFR1.out.trans (if_pos ht))
      by_cases ht1 : t < f0
      · go_wp2_with fail
        go_ret2
        exact FrOut.mk HV.out HB3.out
      · have ht2 : u0 ≤ t := by omega
        go_wp2_with fail
        go_ret2
        exact FrOut.mk HV.out HB3.out
    · have HV := Lib.hid (HFR1.out.trans (if_neg ht))
      have ht1 : ¬ t < f0 := by omega
      have ht2 : ¬ u0 ≤ t := by omega
      clear ht
      go_wp2_with fail
      go_ret2
      exact FrOut.mk HV.out HB3.out
  · have HE0 := Lib.hid (HFR.out.trans (if_pos hAE))
    have hce1 : (AE == 0) = false := by simpa using hAE
    have hce2 : (AE != 0) = true := by simpa using hAE
    go_wp2_with fail
    go_ret2
    exact FrOut.mk HE0.out HB1.out
end Go.Proofs.YtdnikegakcdcnaaDoor
/- Undo of both books (printed by gen_bookundo.py). -/
set_option linter.unusedVariables false
namespace Go.Proofs.YtdnikegakcdcnaaDoor
open Go.RowKit

theorem getRd (l : List Rd) (j : Nat) (h : j < l.length) : l.getD j zeroRd = l[j] := by
  rw [List.getD_eq_getElem?_getD, List.getElem?_eq_getElem h]; rfl

set_option maxRecDepth 100000 in
set_option maxHeartbeats 8000000 in
theorem undoX_any {b0 : Nat} {gs : List Nat} {g : Nat} {h0 : Value} {F : World → Prop} {hv : Value} {hl : List Rd} (no t : Int) (w : World) (hP : Bk b0 gs 148 g h0 F hv hl w) (hn : hl.length ≤ 1000)
    (ht0 : -1000000000 ≤ t) (ht1 : t ≤ 1000000000) (hn0 : -1000000000 ≤ no) (hn1 : no ≤ 1000000000) :
    Calls Tryd.prog 43 #[.pointer (some ⟨g, 0, none⟩), .int .i64 no, .int .i64 t] w (BOut b0 gs 148 g h0 F hv w (.int .i64 (unE hl no t)) (unL hl no t)) := by
  obtain ⟨RL, hRL⟩ : ∃ x, unL hl no t = x := ⟨_, rfl⟩
  obtain ⟨E, hE⟩ : ∃ x, unE hl no t = x := ⟨_, rfl⟩
  rw [hRL, hE]
  have HRL := Lib.hid hRL.symm
  have HE := Lib.hid hE.symm
  unfold unL at HRL
  unfold unE at HE
  rw [hE] at HRL
  clear hRL hE
  have HP := Lib.hid hP
  obtain ⟨-, c1, hgl, -⟩ := hP.cells
  obtain ⟨ha, hc, hvf, hIh, hlc, hcm⟩ := hP.uses
  have HIH := Lib.hid hIh
  obtain ⟨n, hnn⟩ : ∃ n, hl.length = n := ⟨_, rfl⟩
  rw [hnn] at hn HE hvf
  have HN := Lib.hid hnn
  subst hvf
  have HB0 := Lib.hid (Below.refl w.heap.size w)
  clear hP hnn hIh hlc hcm
  by_cases hno : no < 1 ∨ (n : Int) < no
  · obtain rfl : E = 8 := HE.out.trans (if_pos hno)
    obtain rfl : RL = hl := HRL.out.trans (if_neg (by decide))
    go_enter Tryd.func43, Tryd.ntmps43
    go_wp2_with fail
    with_reducible refine (owithin_no _ _ _ _ hno).mono ?_
    rintro e w2 ⟨rfl, rfl⟩
    go_wp2_with fail
    go_ret
    exact BOut.same HP.out HB0.out
  · have HE1 := Lib.hid (HE.out.trans (if_neg hno))
    obtain ⟨j, hj⟩ := Int.eq_ofNat_of_zero_le (show 0 ≤ no - 1 by omega)
    obtain rfl : no = (j : Int) + 1 := by omega
    have hjn : j < n := by omega
    have hj1 : ((j : Int) + 1 - 1).toNat = j := by omega
    rw [hj1] at HE1 HRL
    have hjl : j < hl.length := by have := HN.out; omega
    rw [getRd hl j hjl] at HE1 HRL
    have p1 : (1 : Int) ≤ (j : Int) + 1 := by omega
    have p2 : (j : Int) + 1 ≤ (n : Int) := by omega
    clear HE hno hj hj1
    go_enter Tryd.func43, Tryd.ntmps43
    go_wp2_with fail
    with_reducible refine (owithin_yes _ _ _ _ p1 p2).mono ?_
    rintro e w2 ⟨rfl, rfl⟩
    go_wp2_with fail
    with_reducible refine (omoment_any _ _).mono ?_
    rintro e w2 ⟨rfl, rfl⟩
    by_cases hm : 0 ≤ t ∧ t ≤ 4321439
    · have hmb : momB t = true := decide_eq_true hm
      have HE2 := Lib.hid (HE1.out.trans (if_neg (by rw [hmb]; decide)))
      rw [hmb]
      clear hmb HE1
      obtain ⟨m0, m1⟩ := hm
      have hax : ∃ k : Nat, ha = some ⟨k, 0, none⟩ := by
        have hx := HP.out.own
        rw [HN.out] at hx
        obtain ⟨k, cap', hf, -⟩ := hx.form (by omega)
        injection hf with hf
        exact ⟨k, hf⟩
      obtain ⟨k, rfl⟩ := hax
      obtain ⟨p, off, hpe, hpl, s0, s1, s2, s3, s4⟩ := HIH.out.at5 hjl (v0 := .int .i64 hl[j].no) (v1 := .string hl[j].code) (v2 := .string hl[j].person) (v3 := .int .i64 hl[j].at_) (v4 := .int .i64 hl[j].undone) rfl
      injection hpe with hpe
      injection hpe with e1 e2
      subst e1 e2
      simp only [Nat.zero_add] at s0 s1 s2 s3 s4
      obtain ⟨u1, u2, u3, u4⟩ := HP.out.setUn HN.out hjl t
      have HU1 := Lib.hid u1
      have HU2 := Lib.hid u2
      have HRL2 := Lib.hid (fun h => HRL.out.trans (if_pos h))
      have HRN := Lib.hid (fun h : ¬ E = 0 => HRL.out.trans (if_neg h))
      clear u1 u2 u3
      obtain ⟨x, hx⟩ : ∃ x, hl[j] = x := ⟨_, rfl⟩
      rw [hx] at s0 s1 s2 s3 s4 HE2 HRL2 HU1
      clear hx HRL HIH
      obtain ⟨xno, xc, xw, xt, un⟩ := x
      simp only at s0 s1 s2 s3 s4 HE2
      clear hn0 hn1 p1
      by_cases h1 : t < xt
      · obtain rfl : E = 7 := HE2.out.trans (if_pos h1)
        obtain rfl : RL = hl := HRN.out (by decide)
        go_wp2_with fail
        go_ret
        exact BOut.same HP.out HB0.out
      · have HE3 := Lib.hid (HE2.out.trans (if_neg h1))
        by_cases h2 : 0 ≤ un
        · obtain rfl : E = 11 := HE3.out.trans (if_pos h2)
          obtain rfl : RL = hl := HRN.out (by decide)
          go_wp2_with fail
          go_ret
          exact BOut.same HP.out HB0.out
        · obtain rfl : E = 0 := HE3.out.trans (if_neg h2)
          obtain rfl := HRL2.out rfl
          go_wp2_with fail
          go_ret
          exact ⟨_, rfl, HU1.out, HU2.out, fun k hk => .inl hk⟩
    · have hmb : momB t = false := decide_eq_false hm
      obtain rfl : E = 1 := HE1.out.trans (if_pos hmb)
      obtain rfl : RL = hl := HRL.out.trans (if_neg (by decide))
      rw [hmb]
      go_wp2_with fail
      go_ret
      exact BOut.same HP.out HB0.out

set_option maxRecDepth 100000 in
set_option maxHeartbeats 8000000 in
theorem undoR_any {b0 : Nat} {gs : List Nat} {g : Nat} {h0 : Value} {F : World → Prop} {hv : Value} {hl : List Rd} (no t : Int) (w : World) (hP : Bk b0 gs 155 g h0 F hv hl w) (hn : hl.length ≤ 1000)
    (ht0 : -1000000000 ≤ t) (ht1 : t ≤ 1000000000) (hn0 : -1000000000 ≤ no) (hn1 : no ≤ 1000000000) :
    Calls Tryd.prog 44 #[.pointer (some ⟨g, 0, none⟩), .int .i64 no, .int .i64 t] w (BOut b0 gs 155 g h0 F hv w (.int .i64 (unE hl no t)) (unL hl no t)) := by
  obtain ⟨RL, hRL⟩ : ∃ x, unL hl no t = x := ⟨_, rfl⟩
  obtain ⟨E, hE⟩ : ∃ x, unE hl no t = x := ⟨_, rfl⟩
  rw [hRL, hE]
  have HRL := Lib.hid hRL.symm
  have HE := Lib.hid hE.symm
  unfold unL at HRL
  unfold unE at HE
  rw [hE] at HRL
  clear hRL hE
  have HP := Lib.hid hP
  obtain ⟨-, c1, hgl, -⟩ := hP.cells
  obtain ⟨ha, hc, hvf, hIh, hlc, hcm⟩ := hP.uses
  have HIH := Lib.hid hIh
  obtain ⟨n, hnn⟩ : ∃ n, hl.length = n := ⟨_, rfl⟩
  rw [hnn] at hn HE hvf
  have HN := Lib.hid hnn
  subst hvf
  have HB0 := Lib.hid (Below.refl w.heap.size w)
  clear hP hnn hIh hlc hcm
  by_cases hno : no < 1 ∨ (n : Int) < no
  · obtain rfl : E = 8 := HE.out.trans (if_pos hno)
    obtain rfl : RL = hl := HRL.out.trans (if_neg (by decide))
    rcases hno with hno | hno
    · go_enter Tryd.func44, Tryd.ntmps44
      go_wp2_with fail
      go_ret
      exact BOut.same HP.out HB0.out
    · have q1 : ¬ no < 1 := by omega
      go_enter Tryd.func44, Tryd.ntmps44
      go_wp2_with fail
      go_ret
      exact BOut.same HP.out HB0.out
  · have HE1 := Lib.hid (HE.out.trans (if_neg hno))
    obtain ⟨j, hj⟩ := Int.eq_ofNat_of_zero_le (show 0 ≤ no - 1 by omega)
    obtain rfl : no = (j : Int) + 1 := by omega
    have hjn : j < n := by omega
    have hj1 : ((j : Int) + 1 - 1).toNat = j := by omega
    rw [hj1] at HE1 HRL
    have hjl : j < hl.length := by have := HN.out; omega
    rw [getRd hl j hjl] at HE1 HRL
    have p1 : (1 : Int) ≤ (j : Int) + 1 := by omega
    have p2 : (j : Int) + 1 ≤ (n : Int) := by omega
    clear HE hno hj hj1
    have q1 : ¬ (j : Int) + 1 < 1 := by omega
    have q2 : ¬ (n : Int) < (j : Int) + 1 := by omega
    go_enter Tryd.func44, Tryd.ntmps44
    go_wp2_with fail
    with_reducible refine (moment_any _ _).mono ?_
    rintro e w2 ⟨rfl, rfl⟩
    by_cases hm : 0 ≤ t ∧ t ≤ 4321439
    · have hmb : momB t = true := decide_eq_true hm
      have HE2 := Lib.hid (HE1.out.trans (if_neg (by rw [hmb]; decide)))
      rw [hmb]
      clear hmb HE1
      obtain ⟨m0, m1⟩ := hm
      have hax : ∃ k : Nat, ha = some ⟨k, 0, none⟩ := by
        have hx := HP.out.own
        rw [HN.out] at hx
        obtain ⟨k, cap', hf, -⟩ := hx.form (by omega)
        injection hf with hf
        exact ⟨k, hf⟩
      obtain ⟨k, rfl⟩ := hax
      obtain ⟨p, off, hpe, hpl, s0, s1, s2, s3, s4⟩ := HIH.out.at5 hjl (v0 := .int .i64 hl[j].no) (v1 := .string hl[j].code) (v2 := .string hl[j].person) (v3 := .int .i64 hl[j].at_) (v4 := .int .i64 hl[j].undone) rfl
      injection hpe with hpe
      injection hpe with e1 e2
      subst e1 e2
      simp only [Nat.zero_add] at s0 s1 s2 s3 s4
      obtain ⟨u1, u2, u3, u4⟩ := HP.out.setUn HN.out hjl t
      have HU1 := Lib.hid u1
      have HU2 := Lib.hid u2
      have HRL2 := Lib.hid (fun h => HRL.out.trans (if_pos h))
      have HRN := Lib.hid (fun h : ¬ E = 0 => HRL.out.trans (if_neg h))
      clear u1 u2 u3
      obtain ⟨x, hx⟩ : ∃ x, hl[j] = x := ⟨_, rfl⟩
      rw [hx] at s0 s1 s2 s3 s4 HE2 HRL2 HU1
      clear hx HRL HIH
      obtain ⟨xno, xc, xw, xt, un⟩ := x
      simp only at s0 s1 s2 s3 s4 HE2
      clear hn0 hn1 p1
      by_cases h1 : t < xt
      · obtain rfl : E = 7 := HE2.out.trans (if_pos h1)
        obtain rfl : RL = hl := HRN.out (by decide)
        go_wp2_with fail
        go_ret
        exact BOut.same HP.out HB0.out
      · have HE3 := Lib.hid (HE2.out.trans (if_neg h1))
        by_cases h2 : 0 ≤ un
        · obtain rfl : E = 11 := HE3.out.trans (if_pos h2)
          obtain rfl : RL = hl := HRN.out (by decide)
          go_wp2_with fail
          go_ret
          exact BOut.same HP.out HB0.out
        · obtain rfl : E = 0 := HE3.out.trans (if_neg h2)
          obtain rfl := HRL2.out rfl
          go_wp2_with fail
          go_ret
          exact ⟨_, rfl, HU1.out, HU2.out, fun k hk => .inl hk⟩
    · have hmb : momB t = false := decide_eq_false hm
      obtain rfl : E = 1 := HE1.out.trans (if_pos hmb)
      obtain rfl : RL = hl := HRL.out.trans (if_neg (by decide))
      rw [hmb]
      go_wp2_with fail
      go_ret
      exact BOut.same HP.out HB0.out
end Go.Proofs.YtdnikegakcdcnaaDoor
