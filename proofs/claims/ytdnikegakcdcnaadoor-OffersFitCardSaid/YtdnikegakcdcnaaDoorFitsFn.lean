/- offer.checkAll, offer.Together, offer.Fits, Stream.At (printed by gen_fitsfn.py). -/
import Derived.Test.YtdnikegakcdcnaaDoorCheckOf
import Derived.Test.YtdnikegakcdcnaaDoorCheckBk
import Derived.Test.YtdnikegakcdcnaaDoorFits
import Derived.Test.YtdnikegakcdcnaaDoorTog
import Derived.Test.YtdnikegakcdcnaaDoorPickAt
set_option linter.unusedVariables false
namespace Go.Proofs.YtdnikegakcdcnaaDoor
open Go.RowKit

/-- what is wrong with offers, a basket and a moment -/
def chkV (e1 e2 : Int) (b : Bool) : Int := if e1 = 0 then if e2 = 0 then if b = true then 0 else 1 else e2 else e1
theorem chkV_0 {e1 e2 : Int} {b : Bool} (h : chkV e1 e2 b = 0) : e1 = 0 ∧ e2 = 0 ∧ b = true := by
  unfold chkV at h
  split at h
  · split at h
    · split at h
      · exact ⟨by assumption, by assumption, by assumption⟩
      · omega
    · omega
  · omega
theorem bkE_its {l : List It} {ship : Int} (h : bkE l ship = 0) : ∀ x ∈ l, itB x = true := by
  unfold bkE at h
  split at h
  · omega
  · rename_i h0
    exact itGo_ok l [] (by omega)
theorem ofE_one {x : Of} (h : ofE [x] = 0) : x.kind = 4 → x.tags.length = 0 := by
  intro h4
  unfold ofE ofGo at h
  split at h
  · rename_i h0
    unfold ofstepE ofSt at h0
    rw [h4] at h0
    by_cases ht : x.tags.length = 0
    · exact ht
    · have : (0 < x.tags.length) := by omega
      simp only [this, decide_true, Bool.and_true, if_true] at h0
      repeat' split at h0
      all_goals omega
  · rename_i h0
    exact absurd h h0

set_option maxRecDepth 100000 in
set_option maxHeartbeats 4000000 in
theorem checkAll_any (a : Option Addr) (l : List Of) (n c : Nat) (ai : Option Addr) (li : List It) (ni ci : Nat) (ship t : Int) (w : World) (hn : l.length = n) (hn1 : n ≤ 40) (hc : n ≤ c) (hc' : c ≤ maxLen) (hI : RAt w a 12 Of.cells l) (hTG : TagsAt Of.tv Of.tags w l) (hok : ∀ x ∈ l, x.ok)
    (hni : li.length = ni) (hni1 : ni ≤ 50) (hci : ni ≤ ci) (hci' : ci ≤ maxLen) (hIi : RAt w ai 4 It.cells li) (hTi : TagsAt It.tv It.tags w li) (hoki : ∀ x ∈ li, x.ok) :
    Calls Tryd.prog 152 #[.slice a n c, .agg #[.slice ai ni ci, .int .i64 ship], .int .i64 t] w fun e w' => e = .returned (.int .i64 (chkV (ofE l) (bkE li ship) (wB t 0 4321439))) ∧ Below w.heap.size w w' := by
  have C1 := Lib.hid (fun w' (hb : Below w.heap.size w w') => CheckOffers_any a l n c w' hn hn1 hc hc' (hI.below hb) (hTG.below hb) hok)
  have C2 := Lib.hid (fun w' (hb : Below w.heap.size w w') => CheckBasket_any ai li ni ci ship w' hni hni1 hci hci' (hIi.below hb) (hTi.below hb) hoki)
  have C3 := Lib.hid (oisMoment_any t)
  have HE := Lib.hid (Eq.refl (chkV (ofE l) (bkE li ship) (wB t 0 4321439)))
  generalize hV : chkV (ofE l) (bkE li ship) (wB t 0 4321439) = V at HE ⊢
  have HV := Lib.hid hV
  clear hV HE hI hTG hok hIi hTi hoki hn hni
  generalize ofE l = E1 at *
  generalize bkE li ship = E2 at *
  generalize wB t 0 4321439 = b at *
  have HB1 := Lib.hid ((Below.refl w.heap.size w).alloc (Nat.le_refl _) (.cells #[.slice ai ni ci, .int .i64 ship] 100))
  have HX1 := Lib.hid (XB.new w [.slice ai ni ci, .int .i64 ship] 100)
  simp only [List.toArray] at HX1
  clear hc' hci'
  go_enter Tryd.func152, Tryd.ntmps152
  go_upto_region 1 with (fail)
  generalize w.alloc (.cells #[.slice ai ni ci, .int .i64 ship] 100) = w1 at *
  go_wp2_with fail
  with_reducible refine (C1.out _ HB1.out).mono ?_
  rintro e w2 ⟨rfl, b2⟩
  have HB2 := Lib.hid (HB1.out.trans (b2.mono HB1.out.size))
  have HX2 := Lib.hid (HX1.out.below b2)
  clear b2 HX1 HB1 C1
  by_cases h1 : E1 = 0
  · subst h1
    obtain ⟨z0, z1⟩ := HX2.out.at2
    have hzl := HX2.out.1
    go_wp2_with fail
    with_reducible refine (C2.out _ HB2.out).mono ?_
    rintro e w3 ⟨rfl, b3⟩
    have HB3 := Lib.hid (HB2.out.trans (b3.mono HB2.out.size))
    clear b3 HX2 HB2 C2 z0 z1 hzl
    by_cases h2 : E2 = 0
    · subst h2
      go_wp2_with fail
      with_reducible refine (C3.out _).mono ?_
      rintro e w4 ⟨rfl, rfl⟩
      cases b with
      | true =>
        go_wp2_with fail
        go_ret
        exact ⟨ret_int (show (0 : Int) = V from HV.out), HB3.out⟩
      | false =>
        go_wp2_with fail
        go_ret
        exact ⟨ret_int (show (1 : Int) = V from HV.out), HB3.out⟩
    · have HR := Lib.hid (show E2 = V by rw [← HV.out]; unfold chkV; rw [if_pos rfl, if_neg h2])
      have e1 : (E2 == 0) = false := by simpa using h2
      have e2 : (E2 != 0) = true := by simpa using h2
      clear HV h2
      go_wp2_with fail
      go_ret
      exact ⟨ret_int HR.out, HB3.out⟩
  · have HR := Lib.hid (show E1 = V by rw [← HV.out]; unfold chkV; rw [if_neg h1])
    have e1 : (E1 == 0) = false := by simpa using h1
    have e2 : (E1 != 0) = true := by simpa using h1
    clear HV h1
    go_wp2_with fail
    go_ret
    exact ⟨ret_int HR.out, HB2.out⟩

set_option maxHeartbeats 4000000 in
theorem Together_any (a : Option Addr) (l : List Of) (n c : Nat) (w : World) (hn : l.length = n) (hn1 : n ≤ 40) (hc : n ≤ c) (hc' : c ≤ maxLen) (hI : RAt w a 12 Of.cells l) (hTG : TagsAt Of.tv Of.tags w l) (hok : ∀ x ∈ l, x.ok) :
    Calls Tryd.prog 77 #[.slice a n c] w fun e w' => e = .returned (.tuple #[.bool (if ofE l = 0 then togB l else false), .int .i64 (ofE l)]) ∧ Below w.heap.size w w' := by
  have C1 := Lib.hid (CheckOffers_any a l n c w hn hn1 hc hc' hI hTG hok)
  have C2 := Lib.hid (fun w' (hb : Below w.heap.size w w') => together_any a l n c w' hn hn1 hc hc' (hI.below hb) hok)
  clear hI hTG hok hn hc'
  generalize ofE l = E at *
  generalize togB l = T at *
  go_enter Tryd.func77, Tryd.ntmps77
  go_wp2_with fail
  with_reducible refine C1.out.mono ?_
  rintro e w2 ⟨rfl, b2⟩
  have HB2 := Lib.hid b2
  clear b2 C1
  by_cases h1 : E = 0
  · subst h1
    go_wp2_with fail
    with_reducible refine (C2.out _ HB2.out).mono ?_
    rintro e w3 ⟨rfl, b3⟩
    have HB3 := Lib.hid (HB2.out.trans (b3.mono HB2.out.size))
    clear b3 HB2 C2
    go_wp2_with fail
    go_ret2
    exact ⟨rfl, HB3.out⟩
  · have e1 : (E == 0) = false := by simpa using h1
    have e2 : (E != 0) = true := by simpa using h1
    have HN := Lib.hid h1
    clear h1
    go_wp2_with fail
    go_ret2
    exact ⟨by first | rfl | (rw [if_neg HN.out]; rfl), HB2.out⟩

set_option maxRecDepth 100000 in
set_option maxHeartbeats 8000000 in
theorem Fits_any (x : Of) (ai : Option Addr) (li : List It) (ni ci : Nat) (ship t : Int) (w : World) (hx : x.ok) (hxt : StrsAt w x.tv x.tags)
    (hni : li.length = ni) (hni1 : ni ≤ 50) (hci : ni ≤ ci) (hci' : ci ≤ maxLen) (hIi : RAt w ai 4 It.cells li) (hTi : TagsAt It.tv It.tags w li) (hoki : ∀ x ∈ li, x.ok) :
    Calls Tryd.prog 80 #[.agg x.cells.toArray, .agg #[.slice ai ni ci, .int .i64 ship], .int .i64 t] w fun e w' => e = .returned (.tuple #[.int .i64 (if chkV (ofE [x]) (bkE li ship) (wB t 0 4321439) = 0 then fitV x li ship t else 0), .int .i64 (chkV (ofE [x]) (bkE li ship) (wB t 0 4321439))]) ∧ Below w.heap.size w w' := by
  have C1 := Lib.hid (fun w' (hb : Below w.heap.size w w') p (h : w'.heap[p]? = some (.cells x.cells.toArray 109 (0, 0))) => checkAll_any (some ⟨p, 0, none⟩) [x] 1 1 ai li ni ci ship t w' rfl (by omega) (Nat.le_refl _) (by unfold maxLen; omega)
    (RAt.block (t := 109) (by simpa using h) (fun y _ => y.len)) (fun y hy => by obtain rfl := List.mem_singleton.1 hy; exact hxt.below hb) (fun y hy => by obtain rfl := List.mem_singleton.1 hy; exact hx)
    hni hni1 hci hci' (hIi.below hb) (hTi.below hb) hoki)
  have C2 := Lib.hid (fun (h0 : chkV (ofE [x]) (bkE li ship) (wB t 0 4321439) = 0) w' (hb : Below w.heap.size w w') => fitsX_any x ai li ni ci ship t w' hni hni1 hci hci' (hIi.below hb) (hTi.below hb) hoki (bkE_its (chkV_0 h0).2.1) hx (hxt.below hb) (ofE_one (chkV_0 h0).1))
  clear hx hxt hIi hTi hoki hni hci'
  generalize chkV (ofE [x]) (bkE li ship) (wB t 0 4321439) = V at *
  generalize fitV x li ship t = F at *
  obtain ⟨k0, kd, ia, ib, tv, tc, tags, le, mo, gr, al, od, fr, t2⟩ := x
  rw [show (Of.cells ⟨k0, kd, ia, ib, tv, tc, tags, le, mo, gr, al, od, fr, t2⟩).toArray = #[.string k0, .int .i64 kd, .int .i64 ia, .int .i64 ib, .slice tv tags.length tc, .int .i64 le, .int .i64 mo, .string gr, .bool al, .int .i64 od, .int .i64 fr, .int .i64 t2] from rfl] at C1 C2 ⊢
  generalize tags.length = tn at *
  have HB1 := Lib.hid (((Below.refl w.heap.size w).alloc (Nat.le_refl _) (.cells #[.string k0, .int .i64 kd, .int .i64 ia, .int .i64 ib, .slice tv tn tc, .int .i64 le, .int .i64 mo, .string gr, .bool al, .int .i64 od, .int .i64 fr, .int .i64 t2] 109)).alloc (by simp) (.cells #[.slice ai ni ci, .int .i64 ship] 100))
  have HX1 := Lib.hid ((XB.new w [.string k0, .int .i64 kd, .int .i64 ia, .int .i64 ib, .slice tv tn tc, .int .i64 le, .int .i64 mo, .string gr, .bool al, .int .i64 od, .int .i64 fr, .int .i64 t2] 109).alloc (.cells #[.slice ai ni ci, .int .i64 ship] 100))
  have HY1 := Lib.hid (XB.new (w.alloc (.cells #[.string k0, .int .i64 kd, .int .i64 ia, .int .i64 ib, .slice tv tn tc, .int .i64 le, .int .i64 mo, .string gr, .bool al, .int .i64 od, .int .i64 fr, .int .i64 t2] 109)) [.slice ai ni ci, .int .i64 ship] 100)
  simp only [List.toArray] at HX1 HY1
  rw [show (w.alloc (.cells #[.string k0, .int .i64 kd, .int .i64 ia, .int .i64 ib, .slice tv tn tc, .int .i64 le, .int .i64 mo, .string gr, .bool al, .int .i64 od, .int .i64 fr, .int .i64 t2] 109)).heap.size = w.heap.size + 1 by simp] at HY1
  go_enter Tryd.func80, Tryd.ntmps80
  go_upto_region 1 with (fail)
  generalize (w.alloc (.cells #[.string k0, .int .i64 kd, .int .i64 ia, .int .i64 ib, .slice tv tn tc, .int .i64 le, .int .i64 mo, .string gr, .bool al, .int .i64 od, .int .i64 fr, .int .i64 t2] 109)).alloc (.cells #[.slice ai ni ci, .int .i64 ship] 100) = w1 at *
  obtain ⟨x0, x1, x2, x3, x4, x5, x6, x7, x8, x9, x10, x11⟩ := HX1.out.at12
  obtain ⟨y0, y1⟩ := HY1.out.at2
  have hxl := HX1.out.1
  have hyl := HY1.out.1
  have HB2 := Lib.hid (HB1.out.alloc HB1.out.size (.cells #[.string k0, .int .i64 kd, .int .i64 ia, .int .i64 ib, .slice tv tn tc, .int .i64 le, .int .i64 mo, .string gr, .bool al, .int .i64 od, .int .i64 fr, .int .i64 t2] 109))
  have HX2 := Lib.hid (HX1.out.alloc (.cells #[.string k0, .int .i64 kd, .int .i64 ia, .int .i64 ib, .slice tv tn tc, .int .i64 le, .int .i64 mo, .string gr, .bool al, .int .i64 od, .int .i64 fr, .int .i64 t2] 109))
  have HY2 := Lib.hid (HY1.out.alloc (.cells #[.string k0, .int .i64 kd, .int .i64 ia, .int .i64 ib, .slice tv tn tc, .int .i64 le, .int .i64 mo, .string gr, .bool al, .int .i64 od, .int .i64 fr, .int .i64 t2] 109))
  have HN2 := Lib.hid (heap_alloc_new w1 (.cells #[.string k0, .int .i64 kd, .int .i64 ia, .int .i64 ib, .slice tv tn tc, .int .i64 le, .int .i64 mo, .string gr, .bool al, .int .i64 od, .int .i64 fr, .int .i64 t2] 109))
  go_wp2_with fail
  with_reducible refine (C1.out _ HB2.out _ HN2.out).mono ?_
  rintro e w3 ⟨rfl, b3⟩
  have HB3 := Lib.hid (HB2.out.trans (b3.mono HB2.out.size))
  have HX3 := Lib.hid (HX2.out.below b3)
  have HY3 := Lib.hid (HY2.out.below b3)
  clear b3 HB2 HX2 HY2 HN2 HB1 HX1 HY1 C1 x0 x1 x2 x3 x4 x5 x6 x7 x8 x9 x10 x11 y0 y1 hxl hyl
  by_cases h1 : V = 0
  · have HC2 := Lib.hid (C2.out h1)
    subst h1
    obtain ⟨x0, x1, x2, x3, x4, x5, x6, x7, x8, x9, x10, x11⟩ := HX3.out.at12
    obtain ⟨y0, y1⟩ := HY3.out.at2
    have hxl := HX3.out.1
    have hyl := HY3.out.1
    go_wp2_with fail
    with_reducible refine (HC2.out _ HB3.out).mono ?_
    rintro e w4 ⟨rfl, b4⟩
    have HB4 := Lib.hid (HB3.out.trans (b4.mono HB3.out.size))
    clear b4 HB3 HX3 HY3 C2 HC2 x0 x1 x2 x3 x4 x5 x6 x7 x8 x9 x10 x11 y0 y1 hxl hyl
    go_wp2_with fail
    go_ret2
    exact ⟨rfl, HB4.out⟩
  · have e1 : (V == 0) = false := by simpa using h1
    have e2 : (V != 0) = true := by simpa using h1
    have HN := Lib.hid h1
    clear h1 C2
    go_wp2_with fail
    go_ret2
    exact ⟨by first | rfl | (rw [if_neg HN.out]; rfl), HB3.out⟩
theorem at_any (S : SC) (K : Nat) (w : World) (s0 : Strm w S K) (hK : K ≤ 10000) :
    Calls Tryd.prog 72 #[S.p] w (GenI S (K + 1) w fun r => -1 ≤ r ∧ r ≤ 4321440) := by
  go_enter Tryd.func72, Tryd.ntmps72
  go_wp2_with fail
  with_reducible refine (pick_at S _ [0, 0, 49, 50, 59, 60, 99, 100, 5000, -1, 4321440] 11 _ _ _ _ s0 (by omega) rfl (by omega) (by omega) (by simp) (by simp)).mono ?_
  rintro e w2 ⟨z, hm, rfl, k2, s2⟩
  have HZ := Lib.hid (show -1 ≤ z ∧ z ≤ 4321440 by
    simp only [List.mem_cons, List.mem_nil_iff, or_false] at hm
    omega)
  have HK := Lib.hid k2
  have HS := Lib.hid s2
  clear hm k2 s2 s0
  go_wp2_with fail
  go_ret
  exact ⟨z, HZ.out, rfl, HK.out, HS.out⟩
end Go.Proofs.YtdnikegakcdcnaaDoor
