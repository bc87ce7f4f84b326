/- BasketsPriced's closure, slices.IndexFunc and slices.DeleteFunc with it (printed by gen_del.py). -/
import Derived.Test.YtdefjnefkdemiaaGreatDoorM6
import Derived.Test.YtdefjnefkdemiaaGreatDoorM5
set_option linter.unusedVariables false
namespace Go.Proofs.YtdefjnefkdemiaaGreatDoor
open Go.RowKit Go.Sort

/-- is an offer struck? -/
def delB (li : List It) (ship t : Int) (x : Of) : Bool := if wB t 0 4321439 = true then nfB li ship t x else false
set_option maxRecDepth 100000 in
set_option maxHeartbeats 4000000 in
theorem del1_any (x : Of) (qb qt : Nat) (ai : Option Addr) (li : List It) (ni ci : Nat) (ship t : Int) (w : World) (hQ : XB w qb [.slice ai ni ci, .int .i64 ship]) (hT : w.cell? ⟨qt, 0, none⟩ = some (.int .i64 t))
    (hni : li.length = ni) (hni1 : ni ≤ 50) (hci : ni ≤ ci) (hci' : ci ≤ maxLen) (hIi : RAt w ai 4 It.cells li) (hTi : TagsAt It.tv It.tags w li) (hoki : ∀ y ∈ li, y.ok) (hx : x.ok) (hxt : StrsAt w x.tv x.tags) :
    Calls Tryz.prog 10 #[.agg #[.string x.key, .int .i64 x.kind, .int .i64 x.a, .int .i64 x.b, .slice x.tv x.tags.length x.tc, .int .i64 x.least, .int .i64 x.most, .string x.group, .bool x.alone, .int .i64 x.order, .int .i64 x.from_, .int .i64 x.to_], .pointer (some ⟨qt, 0, none⟩), .pointer (some ⟨qb, 0, none⟩)] w fun e w' => e = .returned (.bool (delB li ship t x)) ∧ Below w.heap.size w w' := by
  have C := Lib.hid (fun w' (hb : Below w.heap.size w w') => fitsG_any x ai li ni ci ship t w' hni hni1 hci hci' (hIi.below hb) (hTi.below hb) hoki hx (hxt.below hb))
  have CM := Lib.hid (rMoment_any t)
  rw [show x.cells.toArray = #[.string x.key, .int .i64 x.kind, .int .i64 x.a, .int .i64 x.b, .slice x.tv x.tags.length x.tc, .int .i64 x.least, .int .i64 x.most, .string x.group, .bool x.alone, .int .i64 x.order, .int .i64 x.from_, .int .i64 x.to_] from rfl] at C
  have HB0 := Lib.hid ((Below.refl w.heap.size w).alloc (Nat.le_refl _) (.cells #[.string x.key, .int .i64 x.kind, .int .i64 x.a, .int .i64 x.b, .slice x.tv x.tags.length x.tc, .int .i64 x.least, .int .i64 x.most, .string x.group, .bool x.alone, .int .i64 x.order, .int .i64 x.from_, .int .i64 x.to_] 37))
  have X0 := Lib.hid (XB.new w x.cells 37)
  have HQ0 := Lib.hid (hQ.alloc (.cells #[.string x.key, .int .i64 x.kind, .int .i64 x.a, .int .i64 x.b, .slice x.tv x.tags.length x.tc, .int .i64 x.least, .int .i64 x.most, .string x.group, .bool x.alone, .int .i64 x.order, .int .i64 x.from_, .int .i64 x.to_] 37))
  have t0 := Lib.cell?_alloc_some (.cells #[.string x.key, .int .i64 x.kind, .int .i64 x.a, .int .i64 x.b, .slice x.tv x.tags.length x.tc, .int .i64 x.least, .int .i64 x.most, .string x.group, .bool x.alone, .int .i64 x.order, .int .i64 x.from_, .int .i64 x.to_] 37) hT
  rw [show x.cells = (#[.string x.key, .int .i64 x.kind, .int .i64 x.a, .int .i64 x.b, .slice x.tv x.tags.length x.tc, .int .i64 x.least, .int .i64 x.most, .string x.group, .bool x.alone, .int .i64 x.order, .int .i64 x.from_, .int .i64 x.to_] : Array Value).toList from rfl] at X0
  simp only at X0
  have HFV : Hid (∀ F, fitV x li ship t = F → nfB li ship t x = (F != 0)) := Lib.hid (fun F h => by unfold nfB; rw [h]; simp [bne, Bool.beq_eq_decide_eq])
  have HDV : Hid (∀ b, wB t 0 4321439 = b → delB li ship t x = if b = true then nfB li ship t x else false) := Lib.hid (fun b h => by unfold delB; rw [h])
  generalize hF : fitV x li ship t = F at *
  have HF2 := Lib.hid (HFV.out F rfl)
  obtain ⟨b, hb⟩ : ∃ b, wB t 0 4321439 = b := ⟨_, rfl⟩
  have HD2 := Lib.hid (HDV.out b hb)
  rw [hb] at CM
  rw [HF2.out] at HD2
  clear hni hIi hTi hoki hx hxt hQ hT HFV HDV HF2 hci' hF hb
  go_enter Tryz.func10, Tryz.ntmps10
  go_upto_region 1 with (fail)
  generalize w.alloc (.cells #[.string x.key, .int .i64 x.kind, .int .i64 x.a, .int .i64 x.b, .slice x.tv x.tags.length x.tc, .int .i64 x.least, .int .i64 x.most, .string x.group, .bool x.alone, .int .i64 x.order, .int .i64 x.from_, .int .i64 x.to_] 37) = w1 at *
  have htl := World.block_lt_of_cell? _ _ t0
  go_wp2_with fail
  with_reducible refine (CM.out _).mono ?_
  rintro e w' ⟨rfl, rfl⟩
  cases b with
  | false =>
    go_wp2_with fail
    go_ret
    exact ⟨ret_bool HD2.out.symm, HB0.out⟩
  | true =>
    obtain ⟨x0, x1, x2, x3, x4, x5, x6, x7, x8, x9, x10, x11⟩ := X0.out.at12
    have hxl := X0.out.1
    obtain ⟨y0, y1⟩ := HQ0.out.at2'
    have hyl := HQ0.out.1
    go_wp2_with fail
    with_reducible refine (C.out _ HB0.out).mono ?_
    rintro e w2 ⟨rfl, b2⟩
    have HB2 := Lib.hid (HB0.out.trans (b2.mono HB0.out.size))
    clear b2 C x0 x1 x2 x3 x4 x5 x6 x7 x8 x9 x10 x11 hxl y0 y1 hyl t0 htl
    go_wp2_with fail
    go_ret
    exact ⟨ret_bool HD2.out.symm, HB2.out⟩

set_option maxRecDepth 100000 in
set_option maxHeartbeats 4000000 in
theorem delIdx_any (a : Option Addr) (l : List Of) (n c qb qt : Nat) (pf : Of → Bool) (w : World) (hn : l.length = n) (hn1 : n ≤ 1000) (hI : RAt w a 12 Of.cells l) (hC : ∀ x ∈ l, ∀ w', Below w.heap.size w w' → Calls Tryz.prog 10 #[.agg #[.string x.key, .int .i64 x.kind, .int .i64 x.a, .int .i64 x.b, .slice x.tv x.tags.length x.tc, .int .i64 x.least, .int .i64 x.most, .string x.group, .bool x.alone, .int .i64 x.order, .int .i64 x.from_, .int .i64 x.to_], .pointer (some ⟨qt, 0, none⟩), .pointer (some ⟨qb, 0, none⟩)] w' fun e w'' => e = .returned (.bool (pf x)) ∧ Below w'.heap.size w' w'') :
    Calls Tryz.prog 25 #[.slice a n c, .func (.func 10) #[] #[.pointer (some ⟨qt, 0, none⟩), .pointer (some ⟨qb, 0, none⟩)]] w fun e w' => e = .returned (.int .i64 (idxP pf l)) ∧ Below w.heap.size w w' := by
  have HN := Lib.hid hn
  have HI := Lib.hid hI
  have HCL := Lib.hid hC
  obtain ⟨V, hV⟩ : ∃ V, idxP pf l = V := ⟨_, rfl⟩
  rw [hV]
  have HV := Lib.hid hV.symm
  clear hn hI hC hV
  go_enter Tryz.func25, Tryz.ntmps25
  go_wp2_with fail
  go_loopw [5, 8] (fun _ i wr => ∃ k : Nat, k ≤ n ∧ i = .int .i64 k ∧ Below w.heap.size w wr ∧ Hid (V = idxPo (l.drop k) pf k)) (fun _ i _ => n - (intOf i).toNat)
  case atStart => exact ⟨0, Nat.zero_le _, rfl, Below.refl _ _, HV⟩
  case round =>
    obtain ⟨k, hk, rfl, hB, hH⟩ := hrel
    by_cases hlt : k < n
    · have hkl : k < l.length := by have := HN.out; omega
      obtain ⟨p, off, rfl, hp, c0, c1, c2, c3, c4, c5, c6, c7, c8, c9, c10, c11⟩ := (HI.out.below hB).at12 hkl (v0 := .string l[k].key) (v1 := .int .i64 l[k].kind) (v2 := .int .i64 l[k].a) (v3 := .int .i64 l[k].b) (v4 := .slice l[k].tv l[k].tags.length l[k].tc) (v5 := .int .i64 l[k].least) (v6 := .int .i64 l[k].most) (v7 := .string l[k].group) (v8 := .bool l[k].alone) (v9 := .int .i64 l[k].order) (v10 := .int .i64 l[k].from_) (v11 := .int .i64 l[k].to_) rfl
      have C := Lib.hid (HCL.out l[k] (List.getElem_mem hkl) wr hB)
      have HS := Lib.hid (hH.out.trans (idxPo_drop l pf k hkl))
      obtain ⟨b, hb⟩ : ∃ b, pf l[k] = b := ⟨_, rfl⟩
      rw [hb] at C HS
      clear hb hH
      generalize l[k] = x at *
      obtain ⟨xkey, xkind, xa, xb, xtv, xtc, xtags, xleast, xmost, xgroup, xalone, xorder, xfrom, xto⟩ := x
      simp only at c0 c1 c2 c3 c4 c5 c6 c7 c8 c9 c10 c11 C
      cases b with
      | true =>
        obtain rfl : V = (k : Int) := HS.out.trans (if_pos rfl)
        go_wp2_with fail
        with_reducible refine C.out.mono ?_
        rintro e w1 ⟨rfl, b1⟩
        have HB1 := Lib.hid (hB.trans (b1.mono hB.size))
        go_wp2_with fail
        go_ret
        exact ⟨rfl, HB1.out⟩
      | false =>
        have HR := Lib.hid (HS.out.trans (if_neg (by decide)))
        go_wp2_with fail
        with_reducible refine C.out.mono ?_
        rintro e w1 ⟨rfl, b1⟩
        have HB1 := Lib.hid (hB.trans (b1.mono hB.size))
        go_wp2_with fail
        go_roundw
        case rel => exact ⟨k + 1, by omega, by go_num, HB1.out, HR⟩
        case measure => simp [intOf]; omega
    · have HE := Lib.hid (show V = -1 by rw [hH.out, List.drop_eq_nil_of_le (by rw [HN.out]; omega)]; rfl)
      have HB := Lib.hid hB
      clear hH hB
      go_wp2_with fail
      go_ret
      exact ⟨ret_int HE.out.symm, HB.out⟩


theorem ofc_one (x : Of) : ∀ v ∈ x.cells, v.oneCell' = true := by
  intro v hv
  simp only [Of.cells, List.mem_cons, List.mem_nil_iff, or_false] at hv
  rcases hv with rfl | rfl | rfl | rfl | rfl | rfl | rfl | rfl | rfl | rfl | rfl | rfl <;> rfl
theorem ofSz : (Tryz.prog.info? 37).map (·.size) = some 12 := by kernel_rfl
theorem zeroOf : ∀ w, (zeroValue 37).run Tryz.prog w = .ok (.agg #[.string ⟨#[]⟩, .int .i64 0, .int .i64 0, .int .i64 0, .slice none 0 0, .int .i64 0, .int .i64 0, .string ⟨#[]⟩, .bool false, .int .i64 0, .int .i64 0, .int .i64 0]) w := fun w => by kernel_rfl
set_option maxRecDepth 100000 in
set_option maxHeartbeats 8000000 in
theorem del_any (a : Option Addr) (l : List Of) (n c b0 qb qt : Nat) (pf : Of → Bool) (w : World) (hn : l.length = n) (hn1 : n ≤ 1000) (hc : n ≤ c) (hc' : c ≤ maxLen) (hown : w.ownsRow b0 37 12 (.slice a n c) n (l.flatMap Of.cells))
    (hC : ∀ x ∈ l, ∀ w', w.grownBy w' (Value.slice a n c).ownBlock → Calls Tryz.prog 10 #[.agg #[.string x.key, .int .i64 x.kind, .int .i64 x.a, .int .i64 x.b, .slice x.tv x.tags.length x.tc, .int .i64 x.least, .int .i64 x.most, .string x.group, .bool x.alone, .int .i64 x.order, .int .i64 x.from_, .int .i64 x.to_], .pointer (some ⟨qt, 0, none⟩), .pointer (some ⟨qb, 0, none⟩)] w' fun e w'' => e = .returned (.bool (pf x)) ∧ Below w'.heap.size w' w'') :
    Calls Tryz.prog 9 #[.slice a n c, .func (.func 10) #[] #[.pointer (some ⟨qt, 0, none⟩), .pointer (some ⟨qb, 0, none⟩)]] w
      fun e w' => ∃ m : Nat, e = .returned (.slice a m c) ∧ (l.filter fun x => !pf x).length = m ∧ m ≤ n ∧ w'.ownsRow b0 37 12 (.slice a m c) m ((l.filter fun x => !pf x).flatMap Of.cells) ∧ w.grownBy w' (Value.slice a n c).ownBlock := by
  unfold maxLen at hc'
  have CI := Lib.hid (delIdx_any a l n c qb qt pf w hn hn1 (own_rat hown hn (fun x _ => x.len)) (fun x hx w' hb => hC x hx w' (grown_of_below hb _)))
  have HSP := Lib.hid (idxPo_spec pf l 0)
  have HN := Lib.hid hn
  have HO := Lib.hid hown
  have HCL := Lib.hid hC
  obtain ⟨V, hV⟩ : ∃ V, idxP pf l = V := ⟨_, rfl⟩
  rw [hV] at CI
  rw [show idxPo l pf 0 = V from hV] at HSP
  clear hn hown hC hV
  go_enter Tryz.func9, Tryz.ntmps9
  go_wp2_with fail
  with_reducible refine CI.out.mono ?_
  rintro e w1 ⟨rfl, b1⟩
  have HG1 := Lib.hid (grown_of_below b1 (Value.slice a n c).ownBlock)
  have HO1 := Lib.hid (own_below HO.out b1)
  clear CI b1
  rcases HSP.out with ⟨hv, hall⟩ | ⟨i, hi, hv, hpi, hall⟩
  · subst hv
    have hf : (l.filter fun x => !pf x) = l := List.filter_eq_self.2 (fun x hx => by rw [hall x hx]; rfl)
    have HF := Lib.hid hf
    clear hall hf HSP
    go_wp2_with fail
    go_ret
    exact ⟨n, rfl, by rw [HF.out]; exact HN.out, Nat.le_refl _, by rw [HF.out]; exact HO1.out, HG1.out⟩
  · obtain ⟨g, cap, hva, hbg, hgl⟩ := HO.out.form (by have := HN.out; omega)
    injection hva with hva1 hva2 hva3
    subst hva1 hva3
    have hin : i < n := by have := HN.out; omega
    have HST := Lib.hid (Struck.start i hi hpi hall)
    have hv2 : V = (i : Int) := by rw [hv]; simp
    subst hv2
    have e1 : ((i : Int) == -1) = false := beq_eq_false_iff_ne.2 (by omega)
    clear hv hpi hall HSP HO hi
    go_wp2_with fail
    clear e1
    go_loopw [5, 6, 7] (fun s5 s6 _ wr => ∃ (i j : Nat) (L : List Of), s5 = .int .i64 i ∧ s6 = .int .i64 j ∧ i < j ∧ j ≤ n ∧ Hid (Struck pf l i j L) ∧ wr.ownsRow b0 37 12 (.slice (some ⟨g, 0, none⟩) n c) n (L.flatMap Of.cells) ∧ w.grownBy wr (some g)) (fun _ s6 _ _ => n - (intOf s6).toNat)
    case atStart => exact ⟨i, i + 1, l, rfl, by go_num, by omega, by omega, HST, HO1.out, HG1.out⟩
    case round =>
      obtain ⟨i, j, L, rfl, rfl, hij, hjn, HS, hO, hG⟩ := hrel
      clear HST HO1 HG1
      by_cases hlt : j < n
      · have hjl : j < l.length := by have := HN.out; omega
        have hjL : j < L.length := by have := HS.out.len; omega
        have hil : i < L.length := by omega
        have HLN : Hid (L.length = n) := Lib.hid (HS.out.len.trans HN.out)
        obtain ⟨p, off, hpo, hp, c0, c1, c2, c3, c4, c5, c6, c7, c8, c9, c10, c11⟩ := (own_rat hO HLN.out (fun x _ => x.len)).at12 hjL (v0 := .string L[j].key) (v1 := .int .i64 L[j].kind) (v2 := .int .i64 L[j].a) (v3 := .int .i64 L[j].b) (v4 := .slice L[j].tv L[j].tags.length L[j].tc) (v5 := .int .i64 L[j].least) (v6 := .int .i64 L[j].most) (v7 := .string L[j].group) (v8 := .bool L[j].alone) (v9 := .int .i64 L[j].order) (v10 := .int .i64 L[j].from_) (v11 := .int .i64 L[j].to_) rfl
        injection hpo with hpo
        injection hpo with hp1 hp2
        subst hp1 hp2
        simp only [Nat.zero_add] at c0 c1 c2 c3 c4 c5 c6 c7 c8 c9 c10 c11
        have hgz : Hid (L[j] = l[j]) := Lib.hid (HS.out.get hjl)
        rw [hgz.out] at c0 c1 c2 c3 c4 c5 c6 c7 c8 c9 c10 c11
        have C := Lib.hid (HCL.out l[j] (List.getElem_mem hjl))
        have HKEEP := Lib.hid (fun h => HS.out.keep hjl h)
        have HSKIP := Lib.hid (fun h => HS.out.skip hjl h)
        have HFS := Lib.hid (fun x => fm_setL Of.cells 12 L i x hil (fun x _ => x.len) x.len)
        clear hgz
        generalize l[j] = x at *
        obtain ⟨b, hb⟩ : ∃ b, pf x = b := ⟨_, rfl⟩
        rw [hb] at C HKEEP HSKIP
        have hi12 : i * 12 + 12 ≤ n * 12 := by omega
        have HBX := Lib.hid ((Below.refl wr.heap.size wr).alloc (Nat.le_refl _) (.cells #[.string x.key, .int .i64 x.kind, .int .i64 x.a, .int .i64 x.b, .slice x.tv x.tags.length x.tc, .int .i64 x.least, .int .i64 x.most, .string x.group, .bool x.alone, .int .i64 x.order, .int .i64 x.from_, .int .i64 x.to_] 37))
        have HOa := Lib.hid (own_below hO HBX.out)
        have HGa := Lib.hid (grown_alloc hG (.cells #[.string x.key, .int .i64 x.kind, .int .i64 x.a, .int .i64 x.b, .slice x.tv x.tags.length x.tc, .int .i64 x.least, .int .i64 x.most, .string x.group, .bool x.alone, .int .i64 x.order, .int .i64 x.from_, .int .i64 x.to_] 37))
        have X0 := Lib.hid (XB.new wr x.cells 37)
        rw [show x.cells = (#[.string x.key, .int .i64 x.kind, .int .i64 x.a, .int .i64 x.b, .slice x.tv x.tags.length x.tc, .int .i64 x.least, .int .i64 x.most, .string x.group, .bool x.alone, .int .i64 x.order, .int .i64 x.from_, .int .i64 x.to_] : Array Value).toList from rfl] at X0
        simp only at X0
        clear hb hO hG HBX hil hjL hjl
        go_upto_region 8 with (fail)
        generalize wr.alloc (.cells #[.string x.key, .int .i64 x.kind, .int .i64 x.a, .int .i64 x.b, .slice x.tv x.tags.length x.tc, .int .i64 x.least, .int .i64 x.most, .string x.group, .bool x.alone, .int .i64 x.order, .int .i64 x.from_, .int .i64 x.to_] 37) = w2 at *
        obtain ⟨qx, hqx⟩ : ∃ q, wr.heap.size = q := ⟨_, rfl⟩
        rw [hqx] at X0
        try rw [hqx]
        clear c0 c1 c2 c3 c4 c5 c6 c7 c8 c9 c10 c11 hqx hp
        obtain ⟨x0, x1, x2, x3, x4, x5, x6, x7, x8, x9, x10, x11⟩ := X0.out.at12
        have hxl := X0.out.1
        have C2 := Lib.hid (C.out w2 HGa.out)
        clear C
        go_wp2_with fail
        with_reducible refine C2.out.mono ?_
        rintro e w3 ⟨rfl, b3⟩
        have X3 := Lib.hid (X0.out.below b3)
        have HO3 := Lib.hid (own_below HOa.out b3)
        have HG3 := Lib.hid (grown_trans HGa.out (grown_of_below b3 (some g)))
        clear x0 x1 x2 x3 x4 x5 x6 x7 x8 x9 x10 x11 hxl X0 HOa HGa b3 C2
        cases b with
        | true =>
          have HS1 := Lib.hid (HSKIP.out rfl)
          clear HKEEP HSKIP HS
          go_wp2_with fail
          go_roundw
          case rel => exact ⟨i, j + 1, L, rfl, by go_num, by omega, by omega, HS1, HO3.out, HG3.out⟩
          case measure => simp [intOf]; omega
        | false =>
          have HS1 := Lib.hid (HKEEP.out rfl)
          have hin9 : i < n := by omega
          clear HKEEP HSKIP HS
          obtain ⟨x0, x1, x2, x3, x4, x5, x6, x7, x8, x9, x10, x11⟩ := X3.out.at12
          have hxl := X3.out.1
          have HOS := Lib.hid (own_sets x.cells (i * 12) HO3.out)
          have HTH := Lib.hid (own_there HO3.out (i * 12) 12 hi12)
          rw [HFS.out x] at HOS
          have HOS1 := Lib.hid HOS.out.1
          have HGS1 := Lib.hid (grown_trans HG3.out HOS.out.2)
          rw [show x.cells = (#[.string x.key, .int .i64 x.kind, .int .i64 x.a, .int .i64 x.b, .slice x.tv x.tags.length x.tc, .int .i64 x.least, .int .i64 x.most, .string x.group, .bool x.alone, .int .i64 x.order, .int .i64 x.from_, .int .i64 x.to_] : Array Value).toList from rfl] at HOS1 HGS1
          have H1C := Lib.hid (all_oneCell_toArray (ofc_one x))
          rw [show x.cells.toArray = #[.string x.key, .int .i64 x.kind, .int .i64 x.a, .int .i64 x.b, .slice x.tv x.tags.length x.tc, .int .i64 x.least, .int .i64 x.most, .string x.group, .bool x.alone, .int .i64 x.order, .int .i64 x.from_, .int .i64 x.to_] from rfl] at H1C
          clear HOS HFS HO3 HG3 X3
          go_wp2_with (first | (refine wpList_store_mid rfl 37 (.tmp 33) (.tmp 32) rfl g (i * 12) #[.string x.key, .int .i64 x.kind, .int .i64 x.a, .int .i64 x.b, .slice x.tv x.tags.length x.tc, .int .i64 x.least, .int .i64 x.most, .string x.group, .bool x.alone, .int .i64 x.order, .int .i64 x.from_, .int .i64 x.to_] ?hx ?hy ?ht ?hi ?h1 ?hk))
          case hx => rfl
          case hy => rfl
          case ht => exact HTH.out
          case hi => exact ofSz
          case h1 => exact H1C.out
          generalize w3.setCells g (i * 12) (#[.string x.key, .int .i64 x.kind, .int .i64 x.a, .int .i64 x.b, .slice x.tv x.tags.length x.tc, .int .i64 x.least, .int .i64 x.most, .string x.group, .bool x.alone, .int .i64 x.order, .int .i64 x.from_, .int .i64 x.to_] : Array Value).toList = w4 at *
          clear x0 x1 x2 x3 x4 x5 x6 x7 x8 x9 x10 x11 hxl HTH H1C
          go_wp2_with fail
          go_roundw
          case rel => exact ⟨i + 1, j + 1, _, by go_num, by go_num, by omega, by omega, HS1, HOS1.out, HGS1.out⟩
          case measure => simp [intOf]; omega
      · obtain rfl : j = n := by omega
        have HLN : Hid (L.length = j) := Lib.hid (HS.out.len.trans HN.out)
        have HPL := Lib.hid (HS.out.place HN.out.symm)
        have HDN := Lib.hid (HS.out.done HN.out.symm)
        have HFT := Lib.hid (fmK_take Of.cells 12 L i (fun x _ => x.len) (by have := HLN.out; omega))
        have HLEN := Lib.hid (fm_len Of.cells 12 L (fun x _ => x.len))
        have hnk : i * 12 + (j - i) * 12 ≤ j * 12 := by omega
        obtain ⟨vs, hvl, hrun⟩ := run_clear_rows (P := Tryz.prog) wr 26 37 0 _ Tryz.underlying26 zeroOf (by simp [Value.cells, Value.oneCell']) 12 rfl g (i * 12) (j - i) (c - i) (by omega) (own_there hO (i * 12) ((j - i) * 12) hnk)
        have HOS := Lib.hid (own_sets vs (i * 12) hO)
        have HOT := Lib.hid (own_take i (by omega) HOS.out.1)
        rw [setL_take _ _ _ (by rw [HLEN.out, HLN.out, hvl]; exact hnk), HFT.out, HDN.out] at HOT
        have HGS := Lib.hid (grown_trans hG HOS.out.2)
        clear HOS HS HLN HDN HFT HLEN hO hG hvl
        go_wp2_with fail
        go_ret
        exact ⟨i, rfl, HPL.out.symm, by omega, HOT.out, HGS.out⟩
end Go.Proofs.YtdefjnefkdemiaaGreatDoor
