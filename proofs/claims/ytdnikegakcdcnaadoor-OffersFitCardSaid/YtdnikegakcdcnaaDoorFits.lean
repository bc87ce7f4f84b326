/- Whether an offer fits: offer.fits, handref1.FitsOf (printed by gen_fits.py). -/
import Derived.Test.YtdnikegakcdcnaaDoorFitSpec
import Derived.Test.YtdnikegakcdcnaaDoorMatch
import Derived.Test.YtdnikegakcdcnaaDoorCheckBk
set_option linter.unusedVariables false
namespace Go.Proofs.YtdnikegakcdcnaaDoor
open Go.RowKit

set_option maxRecDepth 100000 in
set_option maxHeartbeats 8000000 in
theorem fitsX_any (x : Of) (a : Option Addr) (l : List It) (n c : Nat) (ship t : Int) (w : World) (hn : l.length = n) (hn1 : n ≤ 50) (hc : n ≤ c) (hc' : c ≤ maxLen) (hI : RAt w a 4 It.cells l) (hTG : TagsAt It.tv It.tags w l) (hok : ∀ y ∈ l, y.ok) (hb : ∀ y ∈ l, itB y = true)
    (hx : x.ok) (hxt : StrsAt w x.tv x.tags) (hx4 : x.kind = 4 → x.tags.length = 0) :
    Calls Tryd.prog 153 #[.agg x.cells.toArray, .agg #[.slice a n c, .int .i64 ship], .int .i64 t] w fun e w' => e = .returned (.int .i64 (fitV x l ship t)) ∧ Below w.heap.size w w' := by
  unfold maxLen at hc'
  have HN := Lib.hid hn
  have HI := Lib.hid hI
  have HIB := Lib.hid hb
  have HF0 := Lib.hid (show fitS (fun y => mtB x y) (l.take 0) = 0 by rw [List.take_zero]; rfl)
  have HFL := Lib.hid (show fitS (fun y => mtB x y) (l.take n) = fitA x l by rw [← hn, List.take_length]; rfl)
  have HFV := Lib.hid (show fitV x l ship t = if t < x.from_ then 1 else if x.to_ ≤ t then 2 else if (if x.kind = 4 then ship = 0 else fitA x l = 0) then 3 else if fitA x l < x.least then 4 else 0 from rfl)
  have HM := Lib.hid (fun y w' (h1 : y ∈ l) (hbl : Below w.heap.size w w') => matchesX_any x y w' (by have := hx.2.2.2.2.2.2.2.1; omega) (by have := (hok y h1).2.2.2.2.2.1; omega) (hxt.below hbl) ((hTG y h1).below hbl))
  have HM4 := Lib.hid (fun (h : x.kind = 4) y => show mtB x y = true by unfold mtB; rw [hx4 h]; rfl)
  have HOK := Lib.hid (show -2000000000000 ≤ x.least ∧ x.least ≤ 2000000000000 from ⟨hx.2.2.2.2.2.2.2.2.2.1, hx.2.2.2.2.2.2.2.2.2.2.1⟩)
  have HFS := Lib.hid (fun k (h : k < l.length) => fitS_succ (fun y => mtB x y) l k h)
  have HBD := Lib.hid (fun k (h : k ≤ n) => show 0 ≤ fitS (fun y => mtB x y) (l.take k) ∧ fitS (fun y => mtB x y) (l.take k) ≤ 50000000000 from by
    have h1 := fitS_bd (fun y => mtB x y) (l.take k) (fun y hy => hb y (List.mem_of_mem_take hy))
    have h2 : (l.take k).length ≤ 50 := by rw [List.length_take]; omega
    omega)
  generalize fitV x l ship t = V at *
  generalize fitA x l = A at *
  obtain ⟨k0, kd, ia, ib, tv, tc, tags, le, mo, gr, al, od, fr, t2⟩ := x
  simp only at HF0 HFL HFV HM HM4 HOK HFS HBD ⊢
  generalize hf : (fun y => mtB ⟨k0, kd, ia, ib, tv, tc, tags, le, mo, gr, al, od, fr, t2⟩ y) = f at *
  have hf' : ∀ y, mtB ⟨k0, kd, ia, ib, tv, tc, tags, le, mo, gr, al, od, fr, t2⟩ y = f y := fun y => by rw [← hf]
  simp only [hf'] at HM HM4 HFS
  have HB0 := Lib.hid (((Below.refl w.heap.size w).alloc (Nat.le_refl _) (.cells #[.string k0, .int .i64 kd, .int .i64 ia, .int .i64 ib, .slice tv tags.length tc, .int .i64 le, .int .i64 mo, .string gr, .bool al, .int .i64 od, .int .i64 fr, .int .i64 t2] 109)).alloc (by simp) (.cells #[.slice a n c, .int .i64 ship] 100))
  have HX0 := Lib.hid ((XB.new w [.string k0, .int .i64 kd, .int .i64 ia, .int .i64 ib, .slice tv tags.length tc, .int .i64 le, .int .i64 mo, .string gr, .bool al, .int .i64 od, .int .i64 fr, .int .i64 t2] 109).alloc (.cells #[.slice a n c, .int .i64 ship] 100))
  have HY0 := Lib.hid (XB.new (w.alloc (.cells #[.string k0, .int .i64 kd, .int .i64 ia, .int .i64 ib, .slice tv tags.length tc, .int .i64 le, .int .i64 mo, .string gr, .bool al, .int .i64 od, .int .i64 fr, .int .i64 t2] 109)) [.slice a n c, .int .i64 ship] 100)
  simp only [List.toArray] at HX0 HY0
  have hz : (w.alloc (.cells #[.string k0, .int .i64 kd, .int .i64 ia, .int .i64 ib, .slice tv tags.length tc, .int .i64 le, .int .i64 mo, .string gr, .bool al, .int .i64 od, .int .i64 fr, .int .i64 t2] 109)).heap.size = w.heap.size + 1 := by simp
  rw [hz] at HY0
  clear hn hI hTG hok hb hx hxt hx4 hf hf' hz
  rw [show (Of.cells ⟨k0, kd, ia, ib, tv, tc, tags, le, mo, gr, al, od, fr, t2⟩).toArray = #[.string k0, .int .i64 kd, .int .i64 ia, .int .i64 ib, .slice tv tags.length tc, .int .i64 le, .int .i64 mo, .string gr, .bool al, .int .i64 od, .int .i64 fr, .int .i64 t2] from rfl]
  go_enter Tryd.func153, Tryd.ntmps153
  go_upto_region 1 with (fail)
  generalize (w.alloc (.cells #[.string k0, .int .i64 kd, .int .i64 ia, .int .i64 ib, .slice tv tags.length tc, .int .i64 le, .int .i64 mo, .string gr, .bool al, .int .i64 od, .int .i64 fr, .int .i64 t2] 109)).alloc (.cells #[.slice a n c, .int .i64 ship] 100) = w1 at *
  obtain ⟨z0, z1⟩ := HY0.out.at2
  have hzl := HY0.out.1
  go_wp2_with fail
  clear z0 z1 hzl
  go_loopw [7, 9, 14] (fun s _ i wr => ∃ k : Nat, k ≤ n ∧ i = .int .i64 k ∧ s = .int .i64 (fitS f (l.take k)) ∧ Below w.heap.size w wr ∧ XB wr w.heap.size [.string k0, .int .i64 kd, .int .i64 ia, .int .i64 ib, .slice tv tags.length tc, .int .i64 le, .int .i64 mo, .string gr, .bool al, .int .i64 od, .int .i64 fr, .int .i64 t2] ∧ XB wr (w.heap.size + 1) [.slice a n c, .int .i64 ship]) (fun _ _ i _ => n - (intOf i).toNat)
  case atStart => exact ⟨0, Nat.zero_le _, rfl, congrArg (Value.int .i64) HF0.out.symm, HB0.out, HX0.out, HY0.out⟩
  case round =>
    obtain ⟨k, hk, rfl, rfl, hB, hX, hY⟩ := hrel
    have HX := Lib.hid hX
    have HY := Lib.hid hY
    have HB := Lib.hid hB
    obtain ⟨bd0, bd1⟩ := HBD.out k hk
    clear hX hY HX0 HY0 HB0
    by_cases hlt : k < n
    · have hkl : k < l.length := by have := HN.out; omega
      obtain ⟨p, off, rfl, hp, c0, c1, c2, c3⟩ := (HI.out.below hB).at4 hkl (v0 := .string l[k].key) (v1 := .int .i64 l[k].cents) (v2 := .int .i64 l[k].many) (v3 := .slice l[k].tv l[k].tags.length l[k].tc) rfl
      have HS := Lib.hid (HFS.out k hkl)
      have C := Lib.hid (fun w' hbl => HM.out l[k] w' (List.getElem_mem hkl) hbl)
      have HK4 := Lib.hid (fun h => HM4.out h l[k])
      obtain ⟨m0, m1⟩ := it_mul (HIB.out l[k] (List.getElem_mem hkl))
      obtain ⟨q0, q1, q2, q3⟩ := itB_bd (HIB.out l[k] (List.getElem_mem hkl))
      generalize fitS f (l.take k) = s0 at *
      generalize f l[k] = m at *
      generalize l[k] = y at *
      obtain ⟨yk, yc, ym, yv, ytc, yt⟩ := y
      simp only at c0 c1 c2 c3 HS C m0 m1 q0 q1 q2 q3
      have HBa := Lib.hid (HB.out.alloc HB.out.size (.cells #[.string yk, .int .i64 yc, .int .i64 ym, .slice yv yt.length ytc] 178))
      have X0 := Lib.hid (XB.new wr [.string yk, .int .i64 yc, .int .i64 ym, .slice yv yt.length ytc] 178)
      have HXa := Lib.hid (HX.out.alloc (.cells #[.string yk, .int .i64 yc, .int .i64 ym, .slice yv yt.length ytc] 178))
      have HYa := Lib.hid (HY.out.alloc (.cells #[.string yk, .int .i64 yc, .int .i64 ym, .slice yv yt.length ytc] 178))
      simp only [List.toArray] at X0
      clear hB HX HY HB HFS HM HM4
      go_upto_region 5 with (fail)
      generalize wr.alloc (.cells #[.string yk, .int .i64 yc, .int .i64 ym, .slice yv yt.length ytc] 178) = w2 at *
      generalize hqb : wr.heap.size = qb at *
      clear c0 c1 c2 c3 hp
      obtain ⟨x0, x1, x2, x3, x4, x5, x6, x7, x8, x9, x10, x11⟩ := HXa.out.at12
      have hxl := HXa.out.1
      obtain ⟨y0, y1, y2, y3⟩ := X0.out.at4
      have hyl := X0.out.1
      by_cases h4 : kd = 4
      · obtain rfl : m = true := HK4.out h4
        have e4 : (kd == 4) = true := by simp [h4]
        clear h4 HK4
        have HB3 := HBa
        have HXb := HXa
        have HYb := HYa
        go_wp2_with fail
        go_roundw
        case rel => exact ⟨k + 1, by omega, by go_num, congrArg (Value.int .i64) (show s0 + yc * ym = fitS f (l.take (k + 1)) by rw [HS.out]; simp), HB3.out, HXb.out, HYb.out⟩
        case measure => simp [intOf]; omega
      · have e4 : (kd == 4) = false := by simpa using h4
        clear h4 HK4
        go_wp2_with fail
        with_reducible refine (C.out _ HBa.out).mono ?_
        rintro e w3 ⟨rfl, d3⟩
        have HB3 := Lib.hid (HBa.out.trans (d3.mono HBa.out.size))
        have HXb := Lib.hid (HXa.out.below d3)
        have HYb := Lib.hid (HYa.out.below d3)
        have X3 := Lib.hid (X0.out.below d3)
        clear x0 x1 x2 x3 x4 x5 x6 x7 x8 x9 x10 x11 hxl y0 y1 y2 y3 hyl d3 HBa HXa HYa X0
        obtain ⟨y0, y1, y2, y3⟩ := X3.out.at4
        have hyl := X3.out.1
        cases m with
        | true =>
          go_wp2_with fail
          go_roundw
          case rel => exact ⟨k + 1, by omega, by go_num, congrArg (Value.int .i64) (show s0 + yc * ym = fitS f (l.take (k + 1)) by rw [HS.out]; simp), HB3.out, HXb.out, HYb.out⟩
          case measure => simp [intOf]; omega
        | false =>
          go_wp2_with fail
          go_roundw
          case rel => exact ⟨k + 1, by omega, by go_num, congrArg (Value.int .i64) (show s0 = fitS f (l.take (k + 1)) by rw [HS.out]; simp), HB3.out, HXb.out, HYb.out⟩
          case measure => simp [intOf]; omega
    · have hkn : k = n := by omega
      subst hkn
      have HA := Lib.hid HFL.out
      rw [HFL.out] at bd0 bd1 ⊢
      obtain ⟨le0, le1⟩ := HOK.out
      obtain ⟨x0, x1, x2, x3, x4, x5, x6, x7, x8, x9, x10, x11⟩ := HX.out.at12
      obtain ⟨y0, y1⟩ := HY.out.at2
      have hxl := HX.out.1
      have hyl := HY.out.1
      clear hB HX HY HFL HFS HM HM4 HA HBD HOK HIB HI HN
      by_cases h4 : kd = 4
      · have e4 : (kd == 4) = true := by simp [h4]
        by_cases h1 : t < fr
        · have HR := Lib.hid (HFV.out.trans (if_pos h1))
          clear HFV
          go_wp2_with fail
          go_ret
          exact ⟨ret_int HR.out.symm, HB.out⟩
        · by_cases h2 : t2 ≤ t
          · have HR := Lib.hid ((HFV.out.trans (if_neg h1)).trans (if_pos h2))
            clear HFV
            go_wp2_with fail
            go_ret
            exact ⟨ret_int HR.out.symm, HB.out⟩
          · by_cases h3 : ship = 0
            · have e3 : (ship == 0) = true := by simp [h3]
              have HR := Lib.hid (((HFV.out.trans (if_neg h1)).trans (if_neg h2)).trans (if_pos (by rw [if_pos h4]; exact h3)))
              clear HFV
              go_wp2_with fail
              go_ret
              exact ⟨ret_int HR.out.symm, HB.out⟩
            · have e3 : (ship == 0) = false := by simpa using h3
              by_cases h5 : A < le
              · have HR := Lib.hid ((((HFV.out.trans (if_neg h1)).trans (if_neg h2)).trans (if_neg (by rw [if_pos h4]; exact h3))).trans (if_pos h5))
                clear HFV
                go_wp2_with fail
                go_ret
                exact ⟨ret_int HR.out.symm, HB.out⟩
              · have HR := Lib.hid ((((HFV.out.trans (if_neg h1)).trans (if_neg h2)).trans (if_neg (by rw [if_pos h4]; exact h3))).trans (if_neg h5))
                clear HFV
                go_wp2_with fail
                go_ret
                exact ⟨ret_int HR.out.symm, HB.out⟩
      · have e4 : (kd == 4) = false := by simpa using h4
        by_cases h1 : t < fr
        · have HR := Lib.hid (HFV.out.trans (if_pos h1))
          clear HFV
          go_wp2_with fail
          go_ret
          exact ⟨ret_int HR.out.symm, HB.out⟩
        · by_cases h2 : t2 ≤ t
          · have HR := Lib.hid ((HFV.out.trans (if_neg h1)).trans (if_pos h2))
            clear HFV
            go_wp2_with fail
            go_ret
            exact ⟨ret_int HR.out.symm, HB.out⟩
          · by_cases h3 : A = 0
            · have e3 : (A == 0) = true := by simp [h3]
              have HR := Lib.hid (((HFV.out.trans (if_neg h1)).trans (if_neg h2)).trans (if_pos (by rw [if_neg h4]; exact h3)))
              clear HFV
              go_wp2_with fail
              go_ret
              exact ⟨ret_int HR.out.symm, HB.out⟩
            · have e3 : (A == 0) = false := by simpa using h3
              by_cases h5 : A < le
              · have HR := Lib.hid ((((HFV.out.trans (if_neg h1)).trans (if_neg h2)).trans (if_neg (by rw [if_neg h4]; exact h3))).trans (if_pos h5))
                clear HFV
                go_wp2_with fail
                go_ret
                exact ⟨ret_int HR.out.symm, HB.out⟩
              · have HR := Lib.hid ((((HFV.out.trans (if_neg h1)).trans (if_neg h2)).trans (if_neg (by rw [if_neg h4]; exact h3))).trans (if_neg h5))
                clear HFV
                go_wp2_with fail
                go_ret
                exact ⟨ret_int HR.out.symm, HB.out⟩

set_option maxRecDepth 100000 in
set_option maxHeartbeats 8000000 in
theorem fitsR_any (x : Of) (a : Option Addr) (l : List It) (n c : Nat) (ship t : Int) (w : World) (hn : l.length = n) (hn1 : n ≤ 50) (hc : n ≤ c) (hc' : c ≤ maxLen) (hI : RAt w a 4 It.cells l) (hTG : TagsAt It.tv It.tags w l) (hok : ∀ y ∈ l, y.ok) (hb : ∀ y ∈ l, itB y = true)
    (hx : x.ok) (hxt : StrsAt w x.tv x.tags) (hx4 : x.kind = 4 → x.tags.length = 0) :
    Calls Tryd.prog 81 #[.agg x.cells.toArray, .agg #[.slice a n c, .int .i64 ship], .int .i64 t] w fun e w' => e = .returned (.int .i64 (fitV x l ship t)) ∧ Below w.heap.size w w' := by
  unfold maxLen at hc'
  have HN := Lib.hid hn
  have HI := Lib.hid hI
  have HIB := Lib.hid hb
  have HF0 := Lib.hid (show fitS (fun y => mtB x y) (l.take 0) = 0 by rw [List.take_zero]; rfl)
  have HFL := Lib.hid (show fitS (fun y => mtB x y) (l.take n) = fitA x l by rw [← hn, List.take_length]; rfl)
  have HFV := Lib.hid (show fitV x l ship t = if t < x.from_ then 1 else if x.to_ ≤ t then 2 else if (if x.kind = 4 then ship = 0 else fitA x l = 0) then 3 else if fitA x l < x.least then 4 else 0 from rfl)
  have HM := Lib.hid (fun y w' (h1 : y ∈ l) (hbl : Below w.heap.size w w') => matchesR_any x y w' (by have := hx.2.2.2.2.2.2.2.1; omega) (by have := (hok y h1).2.2.2.2.2.1; omega) (hxt.below hbl) ((hTG y h1).below hbl))
  have HM4 := Lib.hid (fun (h : x.kind = 4) y => show mtB x y = true by unfold mtB; rw [hx4 h]; rfl)
  have HOK := Lib.hid (show -2000000000000 ≤ x.least ∧ x.least ≤ 2000000000000 from ⟨hx.2.2.2.2.2.2.2.2.2.1, hx.2.2.2.2.2.2.2.2.2.2.1⟩)
  have HFS := Lib.hid (fun k (h : k < l.length) => fitS_succ (fun y => mtB x y) l k h)
  have HBD := Lib.hid (fun k (h : k ≤ n) => show 0 ≤ fitS (fun y => mtB x y) (l.take k) ∧ fitS (fun y => mtB x y) (l.take k) ≤ 50000000000 from by
    have h1 := fitS_bd (fun y => mtB x y) (l.take k) (fun y hy => hb y (List.mem_of_mem_take hy))
    have h2 : (l.take k).length ≤ 50 := by rw [List.length_take]; omega
    omega)
  generalize fitV x l ship t = V at *
  generalize fitA x l = A at *
  obtain ⟨k0, kd, ia, ib, tv, tc, tags, le, mo, gr, al, od, fr, t2⟩ := x
  simp only at HF0 HFL HFV HM HM4 HOK HFS HBD ⊢
  generalize hf : (fun y => mtB ⟨k0, kd, ia, ib, tv, tc, tags, le, mo, gr, al, od, fr, t2⟩ y) = f at *
  have hf' : ∀ y, mtB ⟨k0, kd, ia, ib, tv, tc, tags, le, mo, gr, al, od, fr, t2⟩ y = f y := fun y => by rw [← hf]
  simp only [hf'] at HM HM4 HFS
  have HB0 := Lib.hid (((Below.refl w.heap.size w).alloc (Nat.le_refl _) (.cells #[.string k0, .int .i64 kd, .int .i64 ia, .int .i64 ib, .slice tv tags.length tc, .int .i64 le, .int .i64 mo, .string gr, .bool al, .int .i64 od, .int .i64 fr, .int .i64 t2] 109)).alloc (by simp) (.cells #[.slice a n c, .int .i64 ship] 100))
  have HX0 := Lib.hid ((XB.new w [.string k0, .int .i64 kd, .int .i64 ia, .int .i64 ib, .slice tv tags.length tc, .int .i64 le, .int .i64 mo, .string gr, .bool al, .int .i64 od, .int .i64 fr, .int .i64 t2] 109).alloc (.cells #[.slice a n c, .int .i64 ship] 100))
  have HY0 := Lib.hid (XB.new (w.alloc (.cells #[.string k0, .int .i64 kd, .int .i64 ia, .int .i64 ib, .slice tv tags.length tc, .int .i64 le, .int .i64 mo, .string gr, .bool al, .int .i64 od, .int .i64 fr, .int .i64 t2] 109)) [.slice a n c, .int .i64 ship] 100)
  simp only [List.toArray] at HX0 HY0
  have hz : (w.alloc (.cells #[.string k0, .int .i64 kd, .int .i64 ia, .int .i64 ib, .slice tv tags.length tc, .int .i64 le, .int .i64 mo, .string gr, .bool al, .int .i64 od, .int .i64 fr, .int .i64 t2] 109)).heap.size = w.heap.size + 1 := by simp
  rw [hz] at HY0
  clear hn hI hTG hok hb hx hxt hx4 hf hf' hz
  rw [show (Of.cells ⟨k0, kd, ia, ib, tv, tc, tags, le, mo, gr, al, od, fr, t2⟩).toArray = #[.string k0, .int .i64 kd, .int .i64 ia, .int .i64 ib, .slice tv tags.length tc, .int .i64 le, .int .i64 mo, .string gr, .bool al, .int .i64 od, .int .i64 fr, .int .i64 t2] from rfl]
  go_enter Tryd.func81, Tryd.ntmps81
  go_upto_region 1 with (fail)
  generalize (w.alloc (.cells #[.string k0, .int .i64 kd, .int .i64 ia, .int .i64 ib, .slice tv tags.length tc, .int .i64 le, .int .i64 mo, .string gr, .bool al, .int .i64 od, .int .i64 fr, .int .i64 t2] 109)).alloc (.cells #[.slice a n c, .int .i64 ship] 100) = w1 at *
  obtain ⟨z0, z1⟩ := HY0.out.at2
  have hzl := HY0.out.1
  go_wp2_with fail
  clear z0 z1 hzl
  go_loopw [7, 9, 14] (fun s _ i wr => ∃ k : Nat, k ≤ n ∧ i = .int .i64 k ∧ s = .int .i64 (fitS f (l.take k)) ∧ Below w.heap.size w wr ∧ XB wr w.heap.size [.string k0, .int .i64 kd, .int .i64 ia, .int .i64 ib, .slice tv tags.length tc, .int .i64 le, .int .i64 mo, .string gr, .bool al, .int .i64 od, .int .i64 fr, .int .i64 t2] ∧ XB wr (w.heap.size + 1) [.slice a n c, .int .i64 ship]) (fun _ _ i _ => n - (intOf i).toNat)
  case atStart => exact ⟨0, Nat.zero_le _, rfl, congrArg (Value.int .i64) HF0.out.symm, HB0.out, HX0.out, HY0.out⟩
  case round =>
    obtain ⟨k, hk, rfl, rfl, hB, hX, hY⟩ := hrel
    have HX := Lib.hid hX
    have HY := Lib.hid hY
    have HB := Lib.hid hB
    obtain ⟨bd0, bd1⟩ := HBD.out k hk
    clear hX hY HX0 HY0 HB0
    by_cases hlt : k < n
    · have hkl : k < l.length := by have := HN.out; omega
      obtain ⟨p, off, rfl, hp, c0, c1, c2, c3⟩ := (HI.out.below hB).at4 hkl (v0 := .string l[k].key) (v1 := .int .i64 l[k].cents) (v2 := .int .i64 l[k].many) (v3 := .slice l[k].tv l[k].tags.length l[k].tc) rfl
      have HS := Lib.hid (HFS.out k hkl)
      have C := Lib.hid (fun w' hbl => HM.out l[k] w' (List.getElem_mem hkl) hbl)
      have HK4 := Lib.hid (fun h => HM4.out h l[k])
      obtain ⟨m0, m1⟩ := it_mul (HIB.out l[k] (List.getElem_mem hkl))
      obtain ⟨q0, q1, q2, q3⟩ := itB_bd (HIB.out l[k] (List.getElem_mem hkl))
      generalize fitS f (l.take k) = s0 at *
      generalize f l[k] = m at *
      generalize l[k] = y at *
      obtain ⟨yk, yc, ym, yv, ytc, yt⟩ := y
      simp only at c0 c1 c2 c3 HS C m0 m1 q0 q1 q2 q3
      have HBa := Lib.hid (HB.out.alloc HB.out.size (.cells #[.string yk, .int .i64 yc, .int .i64 ym, .slice yv yt.length ytc] 178))
      have X0 := Lib.hid (XB.new wr [.string yk, .int .i64 yc, .int .i64 ym, .slice yv yt.length ytc] 178)
      have HXa := Lib.hid (HX.out.alloc (.cells #[.string yk, .int .i64 yc, .int .i64 ym, .slice yv yt.length ytc] 178))
      have HYa := Lib.hid (HY.out.alloc (.cells #[.string yk, .int .i64 yc, .int .i64 ym, .slice yv yt.length ytc] 178))
      simp only [List.toArray] at X0
      clear hB HX HY HB HFS HM HM4
      go_upto_region 5 with (fail)
      generalize wr.alloc (.cells #[.string yk, .int .i64 yc, .int .i64 ym, .slice yv yt.length ytc] 178) = w2 at *
      generalize hqb : wr.heap.size = qb at *
      clear c0 c1 c2 c3 hp
      obtain ⟨x0, x1, x2, x3, x4, x5, x6, x7, x8, x9, x10, x11⟩ := HXa.out.at12
      have hxl := HXa.out.1
      obtain ⟨y0, y1, y2, y3⟩ := X0.out.at4
      have hyl := X0.out.1
      go_wp2_with fail
      with_reducible refine (C.out _ HBa.out).mono ?_
      rintro e w3 ⟨rfl, d3⟩
      have HB3 := Lib.hid (HBa.out.trans (d3.mono HBa.out.size))
      have HXb := Lib.hid (HXa.out.below d3)
      have HYb := Lib.hid (HYa.out.below d3)
      have X3 := Lib.hid (X0.out.below d3)
      clear x0 x1 x2 x3 x4 x5 x6 x7 x8 x9 x10 x11 hxl y0 y1 y2 y3 hyl d3 HBa HXa HYa X0
      obtain ⟨y0, y1, y2, y3⟩ := X3.out.at4
      have hyl := X3.out.1
      cases m with
      | true =>
        go_wp2_with fail
        go_roundw
        case rel => exact ⟨k + 1, by omega, by go_num, congrArg (Value.int .i64) (show s0 + yc * ym = fitS f (l.take (k + 1)) by rw [HS.out]; simp), HB3.out, HXb.out, HYb.out⟩
        case measure => simp [intOf]; omega
      | false =>
        go_wp2_with fail
        go_roundw
        case rel => exact ⟨k + 1, by omega, by go_num, congrArg (Value.int .i64) (show s0 = fitS f (l.take (k + 1)) by rw [HS.out]; simp), HB3.out, HXb.out, HYb.out⟩
        case measure => simp [intOf]; omega
    · have hkn : k = n := by omega
      subst hkn
      have HA := Lib.hid HFL.out
      rw [HFL.out] at bd0 bd1 ⊢
      obtain ⟨le0, le1⟩ := HOK.out
      obtain ⟨x0, x1, x2, x3, x4, x5, x6, x7, x8, x9, x10, x11⟩ := HX.out.at12
      obtain ⟨y0, y1⟩ := HY.out.at2
      have hxl := HX.out.1
      have hyl := HY.out.1
      clear hB HX HY HFL HFS HM HM4 HA HBD HOK HIB HI HN
      by_cases h4 : kd = 4
      · have e4 : (kd == 4) = true := by simp [h4]
        by_cases h1 : t < fr
        · have HR := Lib.hid (HFV.out.trans (if_pos h1))
          clear HFV
          go_wp2_with fail
          go_ret
          exact ⟨ret_int HR.out.symm, HB.out⟩
        · by_cases h2 : t2 ≤ t
          · have HR := Lib.hid ((HFV.out.trans (if_neg h1)).trans (if_pos h2))
            clear HFV
            go_wp2_with fail
            go_ret
            exact ⟨ret_int HR.out.symm, HB.out⟩
          · by_cases h3 : ship = 0
            · have e3 : (ship == 0) = true := by simp [h3]
              have HR := Lib.hid (((HFV.out.trans (if_neg h1)).trans (if_neg h2)).trans (if_pos (by rw [if_pos h4]; exact h3)))
              clear HFV
              go_wp2_with fail
              go_ret
              exact ⟨ret_int HR.out.symm, HB.out⟩
            · have e3 : (ship == 0) = false := by simpa using h3
              by_cases h5 : A < le
              · have HR := Lib.hid ((((HFV.out.trans (if_neg h1)).trans (if_neg h2)).trans (if_neg (by rw [if_pos h4]; exact h3))).trans (if_pos h5))
                clear HFV
                go_wp2_with fail
                go_ret
                exact ⟨ret_int HR.out.symm, HB.out⟩
              · have HR := Lib.hid ((((HFV.out.trans (if_neg h1)).trans (if_neg h2)).trans (if_neg (by rw [if_pos h4]; exact h3))).trans (if_neg h5))
                clear HFV
                go_wp2_with fail
                go_ret
                exact ⟨ret_int HR.out.symm, HB.out⟩
      · have e4 : (kd == 4) = false := by simpa using h4
        by_cases h1 : t < fr
        · have HR := Lib.hid (HFV.out.trans (if_pos h1))
          clear HFV
          go_wp2_with fail
          go_ret
          exact ⟨ret_int HR.out.symm, HB.out⟩
        · by_cases h2 : t2 ≤ t
          · have HR := Lib.hid ((HFV.out.trans (if_neg h1)).trans (if_pos h2))
            clear HFV
            go_wp2_with fail
            go_ret
            exact ⟨ret_int HR.out.symm, HB.out⟩
          · by_cases h3 : A = 0
            · have e3 : (A == 0) = true := by simp [h3]
              have HR := Lib.hid (((HFV.out.trans (if_neg h1)).trans (if_neg h2)).trans (if_pos (by rw [if_neg h4]; exact h3)))
              clear HFV
              go_wp2_with fail
              go_ret
              exact ⟨ret_int HR.out.symm, HB.out⟩
            · have e3 : (A == 0) = false := by simpa using h3
              by_cases h5 : A < le
              · have HR := Lib.hid ((((HFV.out.trans (if_neg h1)).trans (if_neg h2)).trans (if_neg (by rw [if_neg h4]; exact h3))).trans (if_pos h5))
                clear HFV
                go_wp2_with fail
                go_ret
                exact ⟨ret_int HR.out.symm, HB.out⟩
              · have HR := Lib.hid ((((HFV.out.trans (if_neg h1)).trans (if_neg h2)).trans (if_neg (by rw [if_neg h4]; exact h3))).trans (if_neg h5))
                clear HFV
                go_wp2_with fail
                go_ret
                exact ⟨ret_int HR.out.symm, HB.out⟩
end Go.Proofs.YtdnikegakcdcnaaDoor
