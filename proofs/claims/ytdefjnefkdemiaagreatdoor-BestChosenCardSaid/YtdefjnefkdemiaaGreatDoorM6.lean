/- offer.Price and its closure (printed by gen_prc.py). -/
import Derived.Test.YtdefjnefkdemiaaGreatDoorPrice
import Derived.Test.YtdefjnefkdemiaaGreatDoorFitsFn
import Derived.Deep.MidRow
import Derived.Lib.SliceRun
set_option linter.unusedVariables false
namespace Go.Proofs.YtdefjnefkdemiaaGreatDoor
open Go.RowKit Go.Sort

def idxPo {α : Type} : List α → (α → Bool) → Nat → Int
  | [], _, _ => -1
  | x :: l, p, k => if p x = true then (k : Int) else idxPo l p (k + 1)
def idxP {α : Type} (p : α → Bool) (l : List α) : Int := idxPo l p 0
theorem idxPo_drop {α : Type} (l : List α) (p : α → Bool) (k : Nat) (h : k < l.length) : idxPo (l.drop k) p k = if p l[k] = true then (k : Int) else idxPo (l.drop (k + 1)) p (k + 1) := by
  rw [List.drop_eq_getElem_cons h]; rfl
theorem idxPo_any {α : Type} (p : α → Bool) : ∀ (l : List α) (k : Nat), l.any p = decide (0 ≤ idxPo l p k)
  | [], k => by simp [idxPo]
  | x :: l, k => by
    rw [List.any_cons, idxPo, idxPo_any p l (k + 1)]
    cases h : p x
    · simp
    · simp
theorem any_idxP {α : Type} (p : α → Bool) (l : List α) : l.any p = decide (0 ≤ idxP p l) := idxPo_any p l 0
theorem ofGo_ok : ∀ (l pre : List Of), ofGo pre l = 0 → ∀ x ∈ l, ofB x = true ∧ (x.kind = 4 → x.tags.length = 0)
  | [], _, _ => by simp
  | y :: l, pre, h => by
    intro x hx
    unfold ofGo at h
    split at h
    · rename_i h0
      rcases List.mem_cons.1 hx with rfl | hx
      · unfold ofstepE ofSt at h0
        refine ⟨?_, fun h4 => ?_⟩
        · cases hb : ofB x with
          | true => rfl
          | false =>
            rw [hb] at h0
            repeat' split at h0
            all_goals first | omega | simp_all
        · rw [h4] at h0
          by_cases ht : x.tags.length = 0
          · exact ht
          · have : (0 < x.tags.length) := by omega
            simp only [this, decide_true, Bool.and_true, if_true] at h0
            repeat' split at h0
            all_goals omega
      · exact ofGo_ok l _ h x hx
    · rename_i h0
      exact absurd h h0
theorem ofE_ok {l : List Of} (h : ofE l = 0) : ∀ x ∈ l, ofB x = true ∧ (x.kind = 4 → x.tags.length = 0) := ofGo_ok l [] h
theorem bkE_ship {l : List It} {ship : Int} (h : bkE l ship = 0) : 0 ≤ ship ∧ ship ≤ 1000000000000 := by
  unfold bkE at h
  split at h
  · omega
  · split at h <;> omega
def nfB (li : List It) (ship t : Int) (x : Of) : Bool := decide (fitV x li ship t ≠ 0)
/-- what is wrong with a price -/
def bkPrE (l : List Of) (li : List It) (ship t : Int) : Int := if chkV (ofE l) (bkE li ship) (wB t 0 4321439) = 0 then (if togB l = true then (if l.any (nfB li ship t) = true then 11 else 0) else 16) else chkV (ofE l) (bkE li ship) (wB t 0 4321439)
def bkPrS (l : List Of) (li : List It) (ship t : Int) : PrS := if bkPrE l li ship t = 0 then goP li (startP li ship) (srtO l) l.length else ⟨[], 0, []⟩
theorem prc_zero (w : World) (b : Nat) : PrcAt w b (.agg #[.slice none 0 0, .int .i64 0, .slice none 0 0, .int .i64 0]) ⟨[], 0, []⟩ :=
  ⟨none, 0, none, 0, rfl, fun j hj => by simp at hj, RAt.nil _ _ _ _, Nat.le_refl _, Nat.le_refl _, (fun _ _ h => by cases h), (fun _ _ h => by cases h)⟩
theorem XB.at2' {w : World} {q : Nat} {v0 v1 : Value} (h : XB w q [v0, v1]) : w.cell? ⟨q, 0, none⟩ = some v0 ∧ w.cell? ⟨q, 1, none⟩ = some v1 := ⟨h.2 0 _ rfl, h.2 1 _ rfl⟩

set_option maxHeartbeats 4000000 in
theorem prc1_any (x : Of) (qb qt : Nat) (ai : Option Addr) (li : List It) (ni ci : Nat) (ship t : Int) (w : World) (hQ : XB w qb [.slice ai ni ci, .int .i64 ship]) (hT : w.cell? ⟨qt, 0, none⟩ = some (.int .i64 t))
    (hni : li.length = ni) (hni1 : ni ≤ 50) (hci : ni ≤ ci) (hci' : ci ≤ maxLen) (hIi : RAt w ai 4 It.cells li) (hTi : TagsAt It.tv It.tags w li) (hoki : ∀ y ∈ li, y.ok) (hit : ∀ y ∈ li, itB y = true) (hx : x.ok) (hxt : StrsAt w x.tv x.tags) (hx4 : x.kind = 4 → x.tags.length = 0) :
    Calls Tryz.prog 30 #[.agg #[.string x.key, .int .i64 x.kind, .int .i64 x.a, .int .i64 x.b, .slice x.tv x.tags.length x.tc, .int .i64 x.least, .int .i64 x.most, .string x.group, .bool x.alone, .int .i64 x.order, .int .i64 x.from_, .int .i64 x.to_], .pointer (some ⟨qb, 0, none⟩), .pointer (some ⟨qt, 0, none⟩)] w fun e w' => e = .returned (.bool (nfB li ship t x)) ∧ Below w.heap.size w w' := by
  have C := Lib.hid (fun w' (hb : Below w.heap.size w w') => fitsX_any x ai li ni ci ship t w' hni hni1 hci hci' (hIi.below hb) (hTi.below hb) hoki hit hx (hxt.below hb) hx4)
  rw [show x.cells.toArray = #[.string x.key, .int .i64 x.kind, .int .i64 x.a, .int .i64 x.b, .slice x.tv x.tags.length x.tc, .int .i64 x.least, .int .i64 x.most, .string x.group, .bool x.alone, .int .i64 x.order, .int .i64 x.from_, .int .i64 x.to_] from rfl] at C
  have HB0 := Lib.hid ((Below.refl w.heap.size w).alloc (Nat.le_refl _) (.cells #[.string x.key, .int .i64 x.kind, .int .i64 x.a, .int .i64 x.b, .slice x.tv x.tags.length x.tc, .int .i64 x.least, .int .i64 x.most, .string x.group, .bool x.alone, .int .i64 x.order, .int .i64 x.from_, .int .i64 x.to_] 37))
  have X0 := Lib.hid (XB.new w x.cells 37)
  have HQ0 := Lib.hid (hQ.alloc (.cells #[.string x.key, .int .i64 x.kind, .int .i64 x.a, .int .i64 x.b, .slice x.tv x.tags.length x.tc, .int .i64 x.least, .int .i64 x.most, .string x.group, .bool x.alone, .int .i64 x.order, .int .i64 x.from_, .int .i64 x.to_] 37))
  have t0 := Lib.cell?_alloc_some (.cells #[.string x.key, .int .i64 x.kind, .int .i64 x.a, .int .i64 x.b, .slice x.tv x.tags.length x.tc, .int .i64 x.least, .int .i64 x.most, .string x.group, .bool x.alone, .int .i64 x.order, .int .i64 x.from_, .int .i64 x.to_] 37) hT
  rw [show x.cells = (#[.string x.key, .int .i64 x.kind, .int .i64 x.a, .int .i64 x.b, .slice x.tv x.tags.length x.tc, .int .i64 x.least, .int .i64 x.most, .string x.group, .bool x.alone, .int .i64 x.order, .int .i64 x.from_, .int .i64 x.to_] : Array Value).toList from rfl] at X0
  simp only at X0
  have HFV : Hid (∀ F, fitV x li ship t = F → nfB li ship t x = (F != 0)) := Lib.hid (fun F h => by unfold nfB; rw [h]; simp [bne, Bool.beq_eq_decide_eq])
  generalize hF : fitV x li ship t = F at *
  have HF2 := Lib.hid (HFV.out F rfl)
  clear hni hIi hTi hoki hit hx hxt hx4 hQ hT HFV hci' hF
  go_enter Tryz.func30, Tryz.ntmps30
  go_upto_region 1 with (fail)
  generalize w.alloc (.cells #[.string x.key, .int .i64 x.kind, .int .i64 x.a, .int .i64 x.b, .slice x.tv x.tags.length x.tc, .int .i64 x.least, .int .i64 x.most, .string x.group, .bool x.alone, .int .i64 x.order, .int .i64 x.from_, .int .i64 x.to_] 37) = w1 at *
  obtain ⟨x0, x1, x2, x3, x4, x5, x6, x7, x8, x9, x10, x11⟩ := X0.out.at12
  have hxl := X0.out.1
  obtain ⟨y0, y1⟩ := HQ0.out.at2'
  have hyl := HQ0.out.1
  have htl := World.block_lt_of_cell? _ _ t0
  go_wp2_with fail
  with_reducible refine (C.out _ HB0.out).mono ?_
  rintro e w2 ⟨rfl, b2⟩
  have HB2 := Lib.hid (HB0.out.trans (b2.mono HB0.out.size))
  clear b2 C x0 x1 x2 x3 x4 x5 x6 x7 x8 x9 x10 x11 hxl y0 y1 hyl t0 htl
  go_wp2_with fail
  go_ret
  exact ⟨ret_bool HF2.out.symm, HB2.out⟩
set_option maxRecDepth 100000 in
set_option maxHeartbeats 4000000 in
theorem prcIdx_any (a : Option Addr) (l : List Of) (n c qb qt : Nat) (pf : Of → Bool) (w : World) (hn : l.length = n) (hn1 : n ≤ 1000) (hI : RAt w a 12 Of.cells l) (hC : ∀ x ∈ l, ∀ w', Below w.heap.size w w' → Calls Tryz.prog 30 #[.agg #[.string x.key, .int .i64 x.kind, .int .i64 x.a, .int .i64 x.b, .slice x.tv x.tags.length x.tc, .int .i64 x.least, .int .i64 x.most, .string x.group, .bool x.alone, .int .i64 x.order, .int .i64 x.from_, .int .i64 x.to_], .pointer (some ⟨qb, 0, none⟩), .pointer (some ⟨qt, 0, none⟩)] w' fun e w'' => e = .returned (.bool (pf x)) ∧ Below w'.heap.size w' w'') :
    Calls Tryz.prog 25 #[.slice a n c, .func (.func 30) #[] #[.pointer (some ⟨qb, 0, none⟩), .pointer (some ⟨qt, 0, none⟩)]] w fun e w' => e = .returned (.int .i64 (idxP pf l)) ∧ Below w.heap.size w w' := by
  have HN := Lib.hid hn
  have HI := Lib.hid hI
  have HCL := Lib.hid hC
  obtain ⟨V, hV⟩ : ∃ V, idxP pf l = V := ⟨_, rfl⟩
  rw [hV]
  have HV := Lib.hid hV.symm
  clear hn hI hC hV
  go_enter Tryz.func25, Tryz.ntmps25
  go_wp2_with fail
  go_loopw [5, 8] (fun _ i wr => ∃ k : Nat, k ≤ n ∧ i = .int .i64 k ∧ Below w.heap.size w wr ∧ Hid (V = idxPo (l.drop k) pf k)) (fun _ i _ => n - (intOf i).toNat)
  case atStart => exact ⟨0, Nat.zero_le _, rfl, Below.refl _ _, HV⟩
  case round =>
    obtain ⟨k, hk, rfl, hB, hH⟩ := hrel
    by_cases hlt : k < n
    · have hkl : k < l.length := by have := HN.out; omega
      obtain ⟨p, off, rfl, hp, c0, c1, c2, c3, c4, c5, c6, c7, c8, c9, c10, c11⟩ := (HI.out.below hB).at12 hkl (v0 := .string l[k].key) (v1 := .int .i64 l[k].kind) (v2 := .int .i64 l[k].a) (v3 := .int .i64 l[k].b) (v4 := .slice l[k].tv l[k].tags.length l[k].tc) (v5 := .int .i64 l[k].least) (v6 := .int .i64 l[k].most) (v7 := .string l[k].group) (v8 := .bool l[k].alone) (v9 := .int .i64 l[k].order) (v10 := .int .i64 l[k].from_) (v11 := .int .i64 l[k].to_) rfl
      have C := Lib.hid (HCL.out l[k] (List.getElem_mem hkl) wr hB)
      have HS := Lib.hid (hH.out.trans (idxPo_drop l pf k hkl))
      obtain ⟨b, hb⟩ : ∃ b, pf l[k] = b := ⟨_, rfl⟩
      rw [hb] at C HS
      clear hb hH
      generalize l[k] = x at *
      obtain ⟨xkey, xkind, xa, xb, xtv, xtc, xtags, xleast, xmost, xgroup, xalone, xorder, xfrom, xto⟩ := x
      simp only at c0 c1 c2 c3 c4 c5 c6 c7 c8 c9 c10 c11 C
      cases b with
      | true =>
        obtain rfl : V = (k : Int) := HS.out.trans (if_pos rfl)
        go_wp2_with fail
        with_reducible refine C.out.mono ?_
        rintro e w1 ⟨rfl, b1⟩
        have HB1 := Lib.hid (hB.trans (b1.mono hB.size))
        go_wp2_with fail
        go_ret
        exact ⟨rfl, HB1.out⟩
      | false =>
        have HR := Lib.hid (HS.out.trans (if_neg (by decide)))
        go_wp2_with fail
        with_reducible refine C.out.mono ?_
        rintro e w1 ⟨rfl, b1⟩
        have HB1 := Lib.hid (hB.trans (b1.mono hB.size))
        go_wp2_with fail
        go_roundw
        case rel => exact ⟨k + 1, by omega, by go_num, HB1.out, HR⟩
        case measure => simp [intOf]; omega
    · have HE := Lib.hid (show V = -1 by rw [hH.out, List.drop_eq_nil_of_le (by rw [HN.out]; omega)]; rfl)
      have HB := Lib.hid hB
      clear hH hB
      go_wp2_with fail
      go_ret
      exact ⟨ret_int HE.out.symm, HB.out⟩

theorem prcHas_any (a : Option Addr) (l : List Of) (n c qb qt : Nat) (pf : Of → Bool) (w : World) (hn : l.length = n) (hn1 : n ≤ 1000) (hI : RAt w a 12 Of.cells l) (hC : ∀ x ∈ l, ∀ w', Below w.heap.size w w' → Calls Tryz.prog 30 #[.agg #[.string x.key, .int .i64 x.kind, .int .i64 x.a, .int .i64 x.b, .slice x.tv x.tags.length x.tc, .int .i64 x.least, .int .i64 x.most, .string x.group, .bool x.alone, .int .i64 x.order, .int .i64 x.from_, .int .i64 x.to_], .pointer (some ⟨qb, 0, none⟩), .pointer (some ⟨qt, 0, none⟩)] w' fun e w'' => e = .returned (.bool (pf x)) ∧ Below w'.heap.size w' w'') :
    Calls Tryz.prog 29 #[.slice a n c, .func (.func 30) #[] #[.pointer (some ⟨qb, 0, none⟩), .pointer (some ⟨qt, 0, none⟩)]] w
      fun e w' => e = .returned (.bool (l.any pf)) ∧ Below w.heap.size w w' := by
  have C := Lib.hid (prcIdx_any a l n c qb qt pf w hn hn1 hI hC)
  have HE := Lib.hid (any_idxP pf l)
  clear hn hI hC
  generalize l.any pf = b at *
  generalize idxP pf l = r at *
  go_enter Tryz.func29, Tryz.ntmps29
  go_wp2_with fail
  with_reducible refine C.out.mono ?_
  rintro e w1 ⟨rfl, hb⟩
  go_wp2_with fail
  go_ret
  exact ⟨ret_bool HE.out.symm, hb⟩

set_option maxRecDepth 100000 in
set_option maxHeartbeats 8000000 in
theorem Price_any (a : Option Addr) (l : List Of) (n c : Nat) (ai : Option Addr) (li : List It) (ni ci : Nat) (ship t : Int) (w : World) (hn : l.length = n) (hn1 : n ≤ 12) (hc : n ≤ c) (hc' : c ≤ maxLen) (hI : RAt w a 12 Of.cells l) (hTG : TagsAt Of.tv Of.tags w l) (hok : ∀ x ∈ l, x.ok)
    (hni : li.length = ni) (hni1 : ni < 20) (hci : ni ≤ ci) (hci' : ci ≤ maxLen) (hIi : RAt w ai 4 It.cells li) (hTi : TagsAt It.tv It.tags w li) (hoki : ∀ y ∈ li, y.ok) :
    Calls Tryz.prog 13 #[.slice a n c, .agg #[.slice ai ni ci, .int .i64 ship], .int .i64 t] w fun e w' => ∃ v, e = .returned (.tuple #[v, .int .i64 (bkPrE l li ship t)]) ∧ PrcAt w' w.heap.size v (bkPrS l li ship t) ∧ Below w.heap.size w w' := by
  have C1 := Lib.hid (fun w' (hb : Below w.heap.size w w') => checkAll_any a l n c ai li ni ci ship t w' hn (by omega) hc hc' (hI.below hb) (hTG.below hb) hok hni (by omega) hci hci' (hIi.below hb) (hTi.below hb) hoki)
  have C2 := Lib.hid (fun w' (hb : Below w.heap.size w w') => together_any a l n c w' hn (by omega) hc hc' (hI.below hb) hok)
  have C3 := Lib.hid (fun (h0 : chkV (ofE l) (bkE li ship) (wB t 0 4321439) = 0) w' qb qt (hb : Below w.heap.size w w') (hQ : XB w' qb [.slice ai ni ci, .int .i64 ship]) (hT : w'.cell? ⟨qt, 0, none⟩ = some (.int .i64 t)) => prcHas_any a l n c qb qt (nfB li ship t) w' hn (by omega) (hI.below hb) (fun x hx w'' hb2 =>
    prc1_any x qb qt ai li ni ci ship t w'' (hQ.below hb2) ((hb2.cell (p := ⟨qt, 0, none⟩) (World.block_lt_of_cell? _ _ hT)).trans hT) hni (by omega) hci hci' (hIi.below (hb.trans (hb2.mono hb.size))) (hTi.below (hb.trans (hb2.mono hb.size))) hoki (bkE_its (chkV_0 h0).2.1) (hok x hx) ((hTG x hx).below (hb.trans (hb2.mono hb.size))) (ofE_ok (chkV_0 h0).1 x hx).2))
  have C4 := Lib.hid (fun (h0 : chkV (ofE l) (bkE li ship) (wB t 0 4321439) = 0) (sp : Nat) (hs : ship = sp) w' (hb : Below w.heap.size w w') => price_any a l n c ai li ni ci sp w' hn hn1 (hI.below hb) (hTG.below hb) hok (fun x hx => (ofE_ok (chkV_0 h0).1 x hx).1) hni hni1 (hIi.below hb) (hTi.below hb) hoki (bkE_its (chkV_0 h0).2.1) (by have := bkE_ship (chkV_0 h0).2.1; omega))
  have HSH := Lib.hid (fun (h0 : chkV (ofE l) (bkE li ship) (wB t 0 4321439) = 0) => bkE_ship (chkV_0 h0).2.1)
  have HN := Lib.hid hn
  obtain ⟨E, hE⟩ : ∃ E, bkPrE l li ship t = E := ⟨_, rfl⟩
  obtain ⟨SR, hSR⟩ : ∃ s, bkPrS l li ship t = s := ⟨_, rfl⟩
  rw [hE, hSR]
  obtain ⟨V, hV⟩ : ∃ V, chkV (ofE l) (bkE li ship) (wB t 0 4321439) = V := ⟨_, rfl⟩
  obtain ⟨T, hT⟩ : ∃ T, togB l = T := ⟨_, rfl⟩
  obtain ⟨NF, hNF⟩ : ∃ b, l.any (nfB li ship t) = b := ⟨_, rfl⟩
  have HE : Hid (E = if V = 0 then (if T = true then (if NF = true then 11 else 0) else 16) else V) := Lib.hid (by rw [← hE, ← hV, ← hT, ← hNF]; rfl)
  have HSR : Hid (SR = if E = 0 then goP li (startP li ship) (srtO l) n else ⟨[], 0, []⟩) := Lib.hid (by rw [← hSR, ← hE, ← hn]; rfl)
  rw [hV] at C1 C3 C4 HSH
  rw [hT] at C2
  rw [hNF] at C3
  clear hE hSR hV hT hNF hn hI hTG hok hni hIi hTi hoki hc' hci'
  obtain ⟨H, hH⟩ : ∃ H, w.heap.size = H := ⟨_, rfl⟩
  have HY0 := Lib.hid (((XB.new w [.slice ai ni ci, .int .i64 ship] 30).alloc (.cells #[.int .i64 t] 3)).alloc (.cells #[.slice none 0 0, .int .i64 0, .slice none 0 0, .int .i64 0] 42))
  have HT0 := Lib.hid ((XB.new (w.alloc (.cells #[.slice ai ni ci, .int .i64 ship] 30)) [.int .i64 t] 3).alloc (.cells #[.slice none 0 0, .int .i64 0, .slice none 0 0, .int .i64 0] 42))
  have HZ0 := Lib.hid (OB.new ((w.alloc (.cells #[.slice ai ni ci, .int .i64 ship] 30)).alloc (.cells #[.int .i64 t] 3)) [.slice none 0 0, .int .i64 0, .slice none 0 0, .int .i64 0] 42)
  have HB0 := Lib.hid ((((Below.refl w.heap.size w).alloc (Nat.le_refl _) (.cells #[.slice ai ni ci, .int .i64 ship] 30)).alloc (by simp) (.cells #[.int .i64 t] 3)).alloc (by simp; omega) (.cells #[.slice none 0 0, .int .i64 0, .slice none 0 0, .int .i64 0] 42))
  simp only [List.toArray] at HY0 HT0 HZ0
  have hz1' : (w.alloc (.cells #[.slice ai ni ci, .int .i64 ship] 30)).heap.size = w.heap.size + 1 := by simp
  have hz2' : ((w.alloc (.cells #[.slice ai ni ci, .int .i64 ship] 30)).alloc (.cells #[.int .i64 t] 3)).heap.size = w.heap.size + 2 := by simp
  obtain ⟨qt, hqt⟩ : ∃ q, H + 1 = q := ⟨_, rfl⟩
  obtain ⟨qz, hqz⟩ : ∃ q, qt + 1 = q := ⟨_, rfl⟩
  rw [hz1', hH, hqt] at HT0
  rw [hz2', hH, show H + 2 = qz by omega] at HZ0
  rw [hH] at HY0
  have HH := Lib.hid hH
  have HQR : Hid (qt = H + 1 ∧ qz = H + 2) := Lib.hid (by omega)
  clear hz1' hz2'
  go_enter Tryz.func13, Tryz.ntmps13
  go_upto_region 1 with (fail)
  generalize ((w.alloc (.cells #[.slice ai ni ci, .int .i64 ship] 30)).alloc (.cells #[.int .i64 t] 3)).alloc (.cells #[.slice none 0 0, .int .i64 0, .slice none 0 0, .int .i64 0] 42) = w1 at *
  clear hH hqt hqz
  obtain ⟨y0, y1⟩ := HY0.out.at2'
  have hyl := HY0.out.1
  have t0 := HT0.out.2 0 _ rfl
  have htl := HT0.out.1
  go_wp2_with fail
  with_reducible refine (C1.out _ HB0.out).mono ?_
  rintro e w2 ⟨rfl, b2⟩
  have HB2 := Lib.hid (HB0.out.trans (b2.mono HB0.out.size))
  have HY2 := Lib.hid (HY0.out.below b2)
  have HT2 := Lib.hid (HT0.out.below b2)
  have HZ2 := Lib.hid (HZ0.out.below b2)
  clear b2 C1 HB0 HY0 HT0 HZ0 y0 y1 hyl t0 htl
  by_cases h1 : V = 0
  · subst h1
    go_wp2_with fail
    with_reducible refine (C2.out _ HB2.out).mono ?_
    rintro e w3 ⟨rfl, b3⟩
    have HB3 := Lib.hid (HB2.out.trans (b3.mono HB2.out.size))
    have HY3 := Lib.hid (HY2.out.below b3)
    have HT3 := Lib.hid (HT2.out.below b3)
    have HZ3 := Lib.hid (HZ2.out.below b3)
    clear b3 C2 HB2 HY2 HT2 HZ2
    cases T with
    | false =>
      obtain rfl : E = 16 := HE.out
      have HS := Lib.hid (show SR = ⟨[], 0, []⟩ from HSR.out)
      have z0 := HZ3.out.cell 0 _ rfl
      have z1 := HZ3.out.cell 1 _ rfl
      have z2 := HZ3.out.cell 2 _ rfl
      have z3 := HZ3.out.cell 3 _ rfl
      have f0 := HZ3.out.free 0
      have f1 := HZ3.out.free 1
      have f2 := HZ3.out.free 2
      have f3 := HZ3.out.free 3
      have hzl := HZ3.out.lt
      have HBS := Lib.hid (HB3.out.grown (grown_set4 w3 qz (.slice none 0 0) (.int .i64 0) (.slice none 0 0) (.int .i64 0)) HB3.out.size (fun g hg => by injection hg with hg; have h1 := HH.out; have h2 := HQR.out; omega))
      go_wp2_with fail
      refine bodyPost_ret (v := .tuple #[.agg #[.slice none 0 0, .int .i64 0, .slice none 0 0, .int .i64 0], .int .i64 16]) (by simp [results, Tryz.results13, go_sem, z0, z1, z2, z3]) rfl ?_
      exact ⟨_, rfl, by rw [HS.out]; exact prc_zero _ _, HBS.out⟩
    | true =>
      have C := Lib.hid (C3.out (by trivial) w3 H qt HB3.out HY3.out (HT3.out.2 0 _ rfl))
      clear C3
      go_wp2_with fail
      with_reducible refine C.out.mono ?_
      rintro e w4 ⟨rfl, b4⟩
      have HB4 := Lib.hid (HB3.out.trans (b4.mono HB3.out.size))
      have HY4 := Lib.hid (HY3.out.below b4)
      have HZ4 := Lib.hid (HZ3.out.below b4)
      clear b4 C HB3 HY3 HT3 HZ3
      cases NF with
      | true =>
        obtain rfl : E = 11 := HE.out
        have HS := Lib.hid (show SR = ⟨[], 0, []⟩ from HSR.out)
        have z0 := HZ4.out.cell 0 _ rfl
        have z1 := HZ4.out.cell 1 _ rfl
        have z2 := HZ4.out.cell 2 _ rfl
        have z3 := HZ4.out.cell 3 _ rfl
        have f0 := HZ4.out.free 0
        have f1 := HZ4.out.free 1
        have f2 := HZ4.out.free 2
        have f3 := HZ4.out.free 3
        have hzl := HZ4.out.lt
        have HBS := Lib.hid (HB4.out.grown (grown_set4 w4 qz (.slice none 0 0) (.int .i64 0) (.slice none 0 0) (.int .i64 0)) HB4.out.size (fun g hg => by injection hg with hg; have h1 := HH.out; have h2 := HQR.out; omega))
        go_wp2_with fail
        refine bodyPost_ret (v := .tuple #[.agg #[.slice none 0 0, .int .i64 0, .slice none 0 0, .int .i64 0], .int .i64 11]) (by simp [results, Tryz.results13, go_sem, z0, z1, z2, z3]) rfl ?_
        exact ⟨_, rfl, by rw [HS.out]; exact prc_zero _ _, HBS.out⟩
      | false =>
        obtain rfl : E = 0 := HE.out
        have HS := Lib.hid (show SR = goP li (startP li ship) (srtO l) n from HSR.out)
        obtain ⟨sh0, sh1⟩ := HSH.out (by trivial)
        obtain ⟨sp, hsp⟩ : ∃ sp : Nat, ship = sp := ⟨ship.toNat, by omega⟩
        have C := Lib.hid (C4.out (by trivial) sp hsp w4 HB4.out)
        rw [← hsp] at C
        clear C4 hsp
        obtain ⟨y0, y1⟩ := HY4.out.at2'
        have hyl := HY4.out.1
        go_wp2_with fail
        with_reducible refine C.out.mono ?_
        rintro e w5 ⟨v, rfl, hv, b5⟩
        have HV5 := Lib.hid hv
        obtain ⟨s, hs⟩ : ∃ s, goP li (startP li ship) (srtO l) n = s := ⟨_, rfl⟩
        rw [hs] at HV5 HS
        rw [hs] at hv
        obtain ⟨la, cla, lc, cc, rfl, -⟩ := hv
        have HB5 := Lib.hid (HB4.out.trans (b5.mono HB4.out.size))
        have HZ5 := Lib.hid (HZ4.out.below b5)
        have hz4 := HZ4.out.lt
        have z0 := HZ5.out.cell 0 _ rfl
        have z1 := HZ5.out.cell 1 _ rfl
        have z2 := HZ5.out.cell 2 _ rfl
        have z3 := HZ5.out.cell 3 _ rfl
        have f0 := HZ5.out.free 0
        have f1 := HZ5.out.free 1
        have f2 := HZ5.out.free 2
        have f3 := HZ5.out.free 3
        have hzl := HZ5.out.lt
        have HGS := Lib.hid (grown_set4 w5 qz (.slice la s.left.length cla) (.int .i64 (s.ship : Nat)) (.slice lc s.cuts.length cc) (.int .i64 ((s.ship + s.left.sum : Nat) : Int)))
        have HPS := Lib.hid ((HV5.out.grown HGS.out hz4).mono HB4.out.size)
        have HBS := Lib.hid (HB5.out.grown HGS.out HB5.out.size (fun g hg => by injection hg with hg; have h1 := HH.out; have h2 := HQR.out; omega))
        clear b5 C HB4 HY4 HZ4 y0 y1 hyl hs HV5 HGS
        generalize s.left.length = nl at *
        generalize s.cuts.length = nc at *
        generalize s.ship + s.left.sum = tt at *
        generalize s.ship = ss at *
        go_wp2_with fail
        refine bodyPost_ret (v := .tuple #[.agg #[.slice la nl cla, .int .i64 (ss : Int), .slice lc nc cc, .int .i64 (tt : Int)], .int .i64 0]) (by simp [results, Tryz.results13, go_sem, z0, z1, z2, z3]) rfl ?_
        exact ⟨_, rfl, by rw [HS.out]; exact HPS.out, HBS.out⟩
  · have e1 : (V == 0) = false := by simpa using h1
    have e2 : (V != 0) = true := by simpa using h1
    obtain rfl : E = V := HE.out.trans (if_neg h1)
    have HS := Lib.hid (show SR = ⟨[], 0, []⟩ from HSR.out.trans (if_neg h1))
    clear h1
    have z0 := HZ2.out.cell 0 _ rfl
    have z1 := HZ2.out.cell 1 _ rfl
    have z2 := HZ2.out.cell 2 _ rfl
    have z3 := HZ2.out.cell 3 _ rfl
    have f0 := HZ2.out.free 0
    have f1 := HZ2.out.free 1
    have f2 := HZ2.out.free 2
    have f3 := HZ2.out.free 3
    have hzl := HZ2.out.lt
    have HBS := Lib.hid (HB2.out.grown (grown_set4 w2 qz (.slice none 0 0) (.int .i64 0) (.slice none 0 0) (.int .i64 0)) HB2.out.size (fun g hg => by injection hg with hg; have h1 := HH.out; have h2 := HQR.out; omega))
    go_wp2_with fail
    refine bodyPost_ret (v := .tuple #[.agg #[.slice none 0 0, .int .i64 0, .slice none 0 0, .int .i64 0], .int .i64 E]) (by simp [results, Tryz.results13, go_sem, z0, z1, z2, z3]) rfl ?_
    exact ⟨_, rfl, by rw [HS.out]; exact prc_zero _ _, HBS.out⟩
end Go.Proofs.YtdefjnefkdemiaaGreatDoor
/- Cells stored side by side into a row of one's own, a row cut short, clear at structs; what is left when some records are struck. -/
set_option linter.unusedVariables false
namespace Go.Proofs.YtdefjnefkdemiaaGreatDoor
open Go.RowKit

/-- vs written over xs from place o on -/
def setL (xs : List Value) : Nat → List Value → List Value
  | _, [] => xs
  | o, v :: r => setL (xs.set o v) (o + 1) r
theorem setL_get : ∀ (vs xs : List Value) (o i : Nat), o + vs.length ≤ xs.length → (setL xs o vs)[i]? = if i < o then xs[i]? else if i < o + vs.length then vs[i - o]? else xs[i]? := fun vs => by
  induction vs with
  | nil =>
    intro xs o i h
    simp only [setL, List.length_nil, Nat.add_zero]
    split
    · rfl
    · rfl
  | cons v r ih =>
    intro xs o i h
    simp only [List.length_cons] at h ⊢
    simp only [setL]
    rw [ih (xs.set o v) (o + 1) i (by rw [List.length_set]; omega)]
    simp only [List.getElem?_set]
    by_cases h1 : i < o
    · rw [if_pos (by omega), if_pos h1, if_neg (by omega)]
    · rw [if_neg h1]
      by_cases h2 : i = o
      · subst h2
        rw [if_pos (by omega), if_pos rfl, if_pos (by omega), if_pos (by omega)]
        simp
      · rw [if_neg (by omega)]
        obtain ⟨k, hk⟩ : ∃ k, i - o = k + 1 := ⟨i - o - 1, by omega⟩
        by_cases h3 : i < o + 1 + r.length
        · rw [if_pos h3, if_pos (by omega), hk, List.getElem?_cons_succ]
          congr 1
          omega
        · rw [if_neg h3, if_neg (by omega : ¬ i < o + (r.length + 1)), if_neg (by omega : ¬ o = i)]
theorem setL_len : ∀ (vs xs : List Value) (o : Nat), (setL xs o vs).length = xs.length := fun vs => by
  induction vs with
  | nil => intros; rfl
  | cons v r ih => intro xs o; simp only [setL]; rw [ih, List.length_set]
theorem setL_mid (A B C vs : List Value) (h : vs.length = B.length) : setL (A ++ (B ++ C)) A.length vs = A ++ (vs ++ C) := by
  apply List.ext_getElem?
  intro i
  have eA : ∀ X : List Value, (A ++ X)[i]? = if i < A.length then A[i]? else X[i - A.length]? := fun X => by rw [List.getElem?_append]
  have eB : (B ++ C)[i - A.length]? = if i - A.length < B.length then B[i - A.length]? else C[i - A.length - B.length]? := by rw [List.getElem?_append]
  have eV : (vs ++ C)[i - A.length]? = if i - A.length < vs.length then vs[i - A.length]? else C[i - A.length - vs.length]? := by rw [List.getElem?_append]
  rw [setL_get _ _ _ _ (by simp; omega), eA, eA, eB, eV]
  by_cases h1 : i < A.length
  · rw [if_pos h1, if_pos h1, if_pos h1]
  · rw [if_neg h1, if_neg h1, if_neg h1]
    by_cases h2 : i < A.length + vs.length
    · rw [if_pos h2, if_pos (by omega)]
    · rw [if_neg h2, if_neg (by omega), if_neg (by omega), h]
theorem setL_take (xs vs : List Value) (o : Nat) (h : o + vs.length ≤ xs.length) : (setL xs o vs).take o = xs.take o := by
  apply List.ext_getElem?
  intro i
  rw [List.getElem?_take, List.getElem?_take]
  split
  · rename_i hi
    rw [setL_get _ _ _ _ h, if_pos hi]
  · rfl
theorem fm_len {α : Type} (f : α → List Value) (K : Nat) : ∀ (l : List α), (∀ x ∈ l, (f x).length = K) → (l.flatMap f).length = l.length * K
  | [], _ => by simp
  | x :: l, h => by
    rw [List.flatMap_cons, List.length_append, fm_len f K l (fun y hy => h y (by simp [hy])), h x (by simp), List.length_cons, Nat.add_mul]
    omega
theorem fm_setL {α : Type} (f : α → List Value) (K : Nat) (l : List α) (i : Nat) (x : α) (hi : i < l.length) (h : ∀ x ∈ l, (f x).length = K) (hx : (f x).length = K) : setL (l.flatMap f) (i * K) (f x) = (l.set i x).flatMap f := by
  have e0 : l = l.take i ++ (l[i] :: l.drop (i + 1)) := by rw [List.getElem_cons_drop, List.take_append_drop]
  have e1 : l.flatMap f = (l.take i).flatMap f ++ (f l[i] ++ (l.drop (i + 1)).flatMap f) := by
    conv => lhs; rw [e0]
    rw [List.flatMap_append, List.flatMap_cons]
  have e2 : (l.set i x).flatMap f = (l.take i).flatMap f ++ (f x ++ (l.drop (i + 1)).flatMap f) := by
    rw [List.set_eq_take_append_cons_drop, if_pos hi, List.flatMap_append, List.flatMap_cons]
  have e3 : ((l.take i).flatMap f).length = i * K := by
    rw [fm_len f K _ (fun y hy => h y (List.mem_of_mem_take hy)), List.length_take, Nat.min_eq_left (by omega)]
  rw [e1, e2, ← e3]
  exact setL_mid _ _ _ _ (by rw [hx, h _ (List.getElem_mem hi)])
theorem fmK_take {α : Type} (f : α → List Value) (K : Nat) (l : List α) (m : Nat) (h : ∀ x ∈ l, (f x).length = K) (hm : m ≤ l.length) : (l.flatMap f).take (m * K) = (l.take m).flatMap f := by
  have e3 : ((l.take m).flatMap f).length = m * K := by
    rw [fm_len f K _ (fun y hy => h y (List.mem_of_mem_take hy)), List.length_take, Nat.min_eq_left (by omega)]
  have e1 : l.flatMap f = (l.take m).flatMap f ++ (l.drop m).flatMap f := by rw [← List.flatMap_append, List.take_append_drop]
  rw [e1, ← e3, List.take_left']
  rfl

theorem own_sets {w : World} {base g size cap n : Nat} {e : TypeId} {xs : List Value} (vs : List Value) (o : Nat) (h : w.ownsRow base e size (.slice (some ⟨g, 0, none⟩) n cap) n xs) :
    (w.setCells g o vs).ownsRow base e size (.slice (some ⟨g, 0, none⟩) n cap) n (setL xs o vs) ∧ w.grownBy (w.setCells g o vs) (some g) := by
  induction vs generalizing w xs o with
  | nil => exact ⟨h, grown_same _ _⟩
  | cons v r ih =>
    obtain ⟨h1, g1⟩ := h.stored o v
    obtain ⟨h2, g2⟩ := ih (o + 1) h1
    exact ⟨h2, grown_trans g1 g2⟩
theorem own_take {w : World} {base g size cap n : Nat} {e : TypeId} {xs : List Value} (m : Nat) (hm : m ≤ n) (h : w.ownsRow base e size (.slice (some ⟨g, 0, none⟩) n cap) n xs) :
    w.ownsRow base e size (.slice (some ⟨g, 0, none⟩) m cap) m (xs.take (m * size)) := by
  have hmul : m * size ≤ n * size := Nat.mul_le_mul_right _ hm
  rcases h.2 with ⟨h', _⟩ | ⟨g', cap', cur, h', hb, hg, hnc, hcm, hcs, htake⟩
  · simp at h'
  · simp only [Value.slice.injEq, Option.some.injEq, Addr.mk.injEq, and_true, true_and] at h'
    obtain ⟨rfl, rfl⟩ := h'
    refine ⟨by rw [List.length_take, h.1]; omega, .inr ⟨g, cap, cur, rfl, hb, hg, by omega, hcm, hcs, ?_⟩⟩
    rw [← htake, List.take_take, Nat.min_eq_left hmul]
theorem own_there {w : World} {base g size cap n : Nat} {e : TypeId} {xs : List Value} (h : w.ownsRow base e size (.slice (some ⟨g, 0, none⟩) n cap) n xs) (o k : Nat) (hk : o + k ≤ n * size) : w.there g o k := fun j hj => by
  refine ⟨?_, h.frozenAt _⟩
  rw [h.cellAt _ (by omega), List.getElem?_eq_getElem (by rw [h.1]; omega)]
  rfl

/-- clear(s), s a slice of n > 0 structs -/
theorem run_clear_rows {P : Program} (w : World) (t e ty : TypeId) (z : Value) (ht : P.underlying t = some (.slice e)) (hv : ∀ w, (zeroValue e).run P w = .ok z w) (h1 : ∀ v ∈ z.cells, v.oneCell' = true) (K : Nat) (hK : z.cells.size = K) (b o n c : Nat) (hn : 0 < n) (hth : w.there b o (n * K)) :
    ∃ vs : List Value, vs.length = n * K ∧ (Builtin.clear_ #[t] ty #[.slice (some ⟨b, o, none⟩) n c]).run P w = .ok (.tuple #[]) (w.setCells b o vs) := by
  have hlen : (Builtin.zeroCells z.cells n).toList.length = n * K := by simp [Builtin.zeroCells, hK]
  have hone : ∀ v ∈ (Builtin.zeroCells z.cells n).toList, v.oneCell' = true := by
    intro v hv
    simp only [Builtin.zeroCells, Array.toList_map, List.mem_map] at hv
    obtain ⟨i, hi, rfl⟩ := hv
    have hi' : i < n * z.cells.size := by simpa using hi
    have hp : 0 < z.cells.size := by
      rcases Nat.eq_zero_or_pos z.cells.size with h0 | h0
      · rw [h0] at hi'; omega
      · exact h0
    have hm : i % z.cells.size < z.cells.size := Nat.mod_lt _ hp
    rw [getElem!_pos z.cells _ hm]
    exact h1 _ (by simp)
  have hst := run_storeCells_cells (P := P) b o (Builtin.zeroCells z.cells n).toList 0 w (fun j hj => by rw [hlen] at hj; simpa using (hth j hj).1) (fun j hj => by rw [hlen] at hj; simpa using (hth j hj).2) hone
  simp only [Nat.add_zero] at hst
  obtain ⟨m, rfl⟩ : ∃ m, n = m + 1 := ⟨n - 1, by omega⟩
  exact ⟨_, hlen, by simp [Builtin.clear_, run_underlying ht, hv, hst]⟩

theorem idxPo_spec {α : Type} (p : α → Bool) : ∀ (l : List α) (k : Nat), (idxPo l p k = -1 ∧ ∀ x ∈ l, p x = false) ∨ ∃ i, ∃ h : i < l.length, idxPo l p k = ((k + i : Nat) : Int) ∧ p l[i] = true ∧ ∀ x ∈ l.take i, p x = false
  | [], k => .inl ⟨rfl, by simp⟩
  | y :: r, k => by
    cases h : p y with
    | true => exact .inr ⟨0, by simp, by simp [idxPo, h], by simpa using h, by simp⟩
    | false =>
      rcases idxPo_spec p r (k + 1) with ⟨e, ha⟩ | ⟨i, hi, e, ht, ha⟩
      · refine .inl ⟨by simp [idxPo, h, e], fun x hx => ?_⟩
        rcases List.mem_cons.1 hx with rfl | hx
        · exact h
        · exact ha x hx
      · refine .inr ⟨i + 1, by simpa using hi, by simp only [idxPo, h]; rw [show (if false = true then (k : Int) else idxPo r p (k + 1)) = idxPo r p (k + 1) from rfl, e]; congr 1; omega, by simpa using ht, fun x hx => ?_⟩
        rw [List.take_succ_cons] at hx
        rcases List.mem_cons.1 hx with rfl | hx
        · exact h
        · exact ha x hx
/-- how far the striking has come: the first i of L are what is kept of the first j of l; the others from j on stand as they were -/
structure Struck {α : Type} (p : α → Bool) (l : List α) (i j : Nat) (L : List α) : Prop where
  len : L.length = l.length
  lt : i < j
  le : j ≤ l.length
  top : L.take i = (l.take j).filter fun x => !p x
  low : L.drop j = l.drop j
section
variable {α : Type} {p : α → Bool} {l L : List α} {i j : Nat}
theorem Struck.start (i : Nat) (h : i < l.length) (hp : p l[i] = true) (hk : ∀ x ∈ l.take i, p x = false) : Struck p l i (i + 1) l := by
  refine ⟨rfl, by omega, h, ?_, rfl⟩
  rw [List.take_succ_eq_append_getElem h, List.filter_append, List.filter_eq_self.2 (fun x hx => by rw [hk x hx]; rfl)]
  simp [hp]
theorem Struck.get (h : Struck p l i j L) (hj : j < l.length) : L[j]'(by rw [h.len]; exact hj) = l[j] := by
  have hl := h.len
  have h1 : (L.drop j)[0]? = (l.drop j)[0]? := by rw [h.low]
  rw [List.getElem?_drop, List.getElem?_drop, List.getElem?_eq_getElem (by omega), List.getElem?_eq_getElem (by omega)] at h1
  simpa using h1
theorem Struck.keep (h : Struck p l i j L) (hj : j < l.length) (hp : p l[j] = false) : Struck p l (i + 1) (j + 1) (L.set i l[j]) := by
  have h1 := h.lt
  have h2 := h.len
  refine ⟨by rw [List.length_set]; exact h.len, by omega, hj, ?_, ?_⟩
  · rw [List.take_succ_eq_append_getElem (by rw [List.length_set]; omega), List.take_set_of_le (Nat.le_refl _), List.getElem_set_self, h.top, List.take_succ_eq_append_getElem hj, List.filter_append]
    simp [hp]
  · rw [List.drop_set_of_lt (by omega)]
    have h3 := congrArg (List.drop 1) h.low
    rw [List.drop_drop, List.drop_drop] at h3
    exact h3
theorem Struck.skip (h : Struck p l i j L) (hj : j < l.length) (hp : p l[j] = true) : Struck p l i (j + 1) L := by
  have h1 := h.lt
  refine ⟨h.len, by omega, hj, ?_, ?_⟩
  · rw [h.top, List.take_succ_eq_append_getElem hj, List.filter_append]
    simp [hp]
  · have h3 := congrArg (List.drop 1) h.low
    rw [List.drop_drop, List.drop_drop] at h3
    exact h3
theorem Struck.done (h : Struck p l i j L) (hj : j = l.length) : L.take i = l.filter fun x => !p x := by
  rw [h.top, hj, List.take_length]
theorem Struck.place (h : Struck p l i j L) (hj : j = l.length) : i = (l.filter fun x => !p x).length := by
  have := h.lt
  have h2 := h.len
  rw [← h.done hj, List.length_take]
  omega
end
end Go.Proofs.YtdefjnefkdemiaaGreatDoor
