/- The walk of the statement OffersFit (printed by gen_offit.py). -/
import Derived.Test.YtdnikegakcdcnaaDoorRow
import Derived.Test.YtdnikegakcdcnaaDoorRows
import Derived.Test.YtdnikegakcdcnaaDoorKp
import Derived.Test.YtdnikegakcdcnaaDoorOfs
import Derived.Test.YtdnikegakcdcnaaDoorBkMake
import Derived.Test.YtdnikegakcdcnaaDoorFitsFn
import Derived.Laws.Tables
import Derived.Test.YtdnikegakcdcnaaDoorOrErr
import Derived.LaidMore
import Derived.Deep.RegionHeld3
import Derived.StillTailTactics
import Derived.Tactics2
import Derived.Deep.RegionWith
import Derived.Deep.DeepCutAuto
import Derived.Deep.CutBlock
set_option linter.unusedVariables false
namespace Go.Proofs.YtdnikegakcdcnaaDoor
open Go.RowKit

theorem wpList_store_ob {P : Program} {ops : Array Oper} {rest : List Oper} {o : Oper} {a : Act} {Q : Exit → Act → World → Prop} (w : World) (hg : o.guard = none) (t : TypeId) (p x : Operand) (hop : o.op = Op.store t p x)
    (q : Nat) (cs vs : List Value) (t0 : TypeId) (hp : a.eval p = .pointer (some ⟨q, 0, none⟩)) (hx : a.eval x = .agg vs.toArray) (hb : OB w q cs t0) (hi : (P.info? t).map (·.size) = some vs.length) (hl : cs.length = vs.length) (h1 : vs.all (·.oneCell') = true)
    (hK : ∀ w', OB w' q vs t0 → w.grownBy w' (some q) → wpList P ops Q rest (a.put o.dst undef) w') : wpList P ops Q (o :: rest) a w := by
  refine wpList_plain hg fun K' hK' => ?_
  have hq := hb.lt
  have hrun : (Instr.storeAt t (.pointer (some ⟨q, 0, none⟩)) (.agg vs.toArray)).run P w = .ok () (w.setRow q vs.toArray) := by
    simp only [Instr.storeAt, Instr.sureAddr, Sem.run_bind, Sem.run_pure, Result.andThen]
    exact run_storeVar_row w q t0 t cs.toArray vs.toArray hb (by simpa using hi) (by simpa using hl) (by simpa using h1)
  have h2 : OB (w.setRow q vs.toArray) q vs t0 := setRow_heap w q _ _ t0 _ hb
  have h3 : w.grownBy (w.setRow q vs.toArray) (some q) := ⟨rfl, rfl, rfl, by simp [World.setRow], fun k _ hk => setRow_other w q k _ (fun e => hk (by rw [e]))⟩
  unfold Oper.wp
  simp [execOp, hop, hp, hx, hrun, Result.andThen]
  exact hK' _ _ (hK _ h2 h3)
theorem x2_below {w w' : World} {q : Nat} {v0 v1 : Value} (b : Below w.heap.size w w') (h : w.cell? ⟨q, 0, none⟩ = some v0 ∧ w.cell? ⟨q, 1, none⟩ = some v1) : w'.cell? ⟨q, 0, none⟩ = some v0 ∧ w'.cell? ⟨q, 1, none⟩ = some v1 :=
  ⟨(b.cell (p := ⟨q, 0, none⟩) (World.block_lt_of_cell? w _ h.1)).trans h.1, (b.cell (p := ⟨q, 1, none⟩) (World.block_lt_of_cell? w _ h.2)).trans h.2⟩
theorem x14_below {w w' : World} {q r : Nat} {v0 v1 v2 v3 v4 v5 v6 v7 v8 v9 v10 v11 v12 v13 : Value} (b : Below w.heap.size w w') (h : w.cell? ⟨q, 0, none⟩ = some v0 ∧ w.cell? ⟨q, 1, none⟩ = some v1 ∧ w.cell? ⟨q, 2, none⟩ = some v2 ∧ w.cell? ⟨q, 3, none⟩ = some v3 ∧ w.cell? ⟨q, 4, none⟩ = some v4 ∧ w.cell? ⟨q, 5, none⟩ = some v5 ∧ w.cell? ⟨q, 6, none⟩ = some v6 ∧ w.cell? ⟨q, 7, none⟩ = some v7 ∧ w.cell? ⟨q, 8, none⟩ = some v8 ∧ w.cell? ⟨q, 9, none⟩ = some v9 ∧ w.cell? ⟨q, 10, none⟩ = some v10 ∧ w.cell? ⟨q, 11, none⟩ = some v11 ∧ w.cell? ⟨r, 0, none⟩ = some v12 ∧ w.cell? ⟨r, 1, none⟩ = some v13) : w'.cell? ⟨q, 0, none⟩ = some v0 ∧ w'.cell? ⟨q, 1, none⟩ = some v1 ∧ w'.cell? ⟨q, 2, none⟩ = some v2 ∧ w'.cell? ⟨q, 3, none⟩ = some v3 ∧ w'.cell? ⟨q, 4, none⟩ = some v4 ∧ w'.cell? ⟨q, 5, none⟩ = some v5 ∧ w'.cell? ⟨q, 6, none⟩ = some v6 ∧ w'.cell? ⟨q, 7, none⟩ = some v7 ∧ w'.cell? ⟨q, 8, none⟩ = some v8 ∧ w'.cell? ⟨q, 9, none⟩ = some v9 ∧ w'.cell? ⟨q, 10, none⟩ = some v10 ∧ w'.cell? ⟨q, 11, none⟩ = some v11 ∧ w'.cell? ⟨r, 0, none⟩ = some v12 ∧ w'.cell? ⟨r, 1, none⟩ = some v13 := by
  have H : ∀ p v, w.cell? p = some v → w'.cell? p = some v := fun p v e => (b.cell (World.block_lt_of_cell? w _ e)).trans e
  obtain ⟨h0, h1, h2, h3, h4, h5, h6, h7, h8, h9, h10, h11, h12, h13⟩ := h
  exact ⟨H _ _ h0, H _ _ h1, H _ _ h2, H _ _ h3, H _ _ h4, H _ _ h5, H _ _ h6, H _ _ h7, H _ _ h8, H _ _ h9, H _ _ h10, H _ _ h11, H _ _ h12, H _ _ h13⟩
theorem ofSize : (Tryd.prog.info? 109).map (·.size) = some 12 := by kernel_rfl
theorem sets_below {B : Nat} {a : World} {q : Nat} (hq : B ≤ q) : ∀ (vs : List Value) (i : Nat) (w : World), Below B a w → Below B a (sets w q i vs)
  | [], _, _, h => h
  | v :: vs, i, w, h => sets_below hq vs (i + 1) _ (h.setCell (p := ⟨q, i, none⟩) hq v)
theorem or_chk (e1 e2 : Int) (b : Bool) : (orE [e1, e2] ≠ 0 → chkV e1 e2 b = orE [e1, e2]) ∧ (orE [e1, e2] = 0 → chkV e1 e2 b = if b = true then 0 else 1) := by
  unfold chkV
  simp only [orE]
  by_cases h1 : e1 = 0
  · rw [if_pos h1, if_pos h1]
    by_cases h2 : e2 = 0
    · rw [if_pos h2, if_pos h2]
      exact ⟨fun h => absurd rfl h, fun _ => rfl⟩
    · rw [if_neg h2, if_neg h2]
      exact ⟨fun _ => rfl, fun h => absurd h h2⟩
  · rw [if_neg h1, if_neg h1]
    exact ⟨fun _ => rfl, fun h => absurd h h1⟩
/-- the facts of the offers and the basket -/
structure OB2 (w0 : World) (S : SC) (a ai : Option Addr) (l : List Of) (li : List It) (w : World) : Prop where
  gr : w0.grownBy w (some S.g)
  ro : RAt w a 12 Of.cells l
  tgo : TagsAt Of.tv Of.tags w l
  ri : RAt w ai 4 It.cells li
  ti : TagsAt It.tv It.tags w li

set_option maxRecDepth 100000 in
set_option maxHeartbeats 16000000 in
theorem offersFit_walk (a0 : Option Addr) (len0 cap0 : Nat) (z0 : List Int) (w : World) (w0 : IsRow .i64 w a0 len0 cap0 z0) (ht : True) :
    Calls Tryd.prog 7 #[.slice a0 len0 cap0] w fun e w' => e = .returned (.bool true) ∧ Below w.heap.size w w' := by
  obtain ⟨S, hBS, hp, s0, g0⟩ := strm_begin w0
  clear w0 ht
  go_enter Tryd.func7, Tryd.ntmps7
  go_wp2_with fail
  clear hp
  have C : Calls Tryd.prog 70 #[S.p, .int .i64 5] _ _ := offers_make S _ 5 _ s0 (by omega) (by omega) (by omega)
  with_reducible refine C.mono ?_
  clear C
  rintro e w1 ⟨a, c, l, ⟨hl5, hlo⟩, rfl, hc, hcm, KI, KT, k1, s1⟩
  have HA1 := Lib.hid (((Kp.grown (grown_trans g0 k1)).and KI).and KT)
  have HOK := Lib.hid hlo
  clear k1 g0 s0 KI KT hlo
  obtain ⟨n, hnn⟩ : ∃ n, l.length = n := ⟨_, rfl⟩
  rw [hnn] at hl5 hc ⊢
  have HN := Lib.hid hnn
  clear hnn
  go_wp2_with fail
  with_reducible refine (basket_any S _ _ s1 (by omega)).mono ?_
  rintro e w2 ⟨ai, ci, li, ship, rfl, hl4, hoki, hsh0, hsh1, hci, hcim, KIi, KTi, k2, s2⟩
  have HA2 : Hid (Kp S (OB2 w S a ai l li) w2) := Lib.hid (((HA1.out.up k2).and (KIi.and KTi)).mp fun w' h => ⟨h.1.1.1, h.1.1.2, h.1.2, h.2.1, h.2.2⟩)
  have HOKI := Lib.hid hoki
  clear k2 s1 KIi KTi HA1 hoki
  obtain ⟨ni, hnn⟩ : ∃ n, li.length = n := ⟨_, rfl⟩
  rw [hnn] at hl4 hci ⊢
  have HNI := Lib.hid hnn
  clear hnn
  go_wp2_with fail
  with_reducible refine (at_any S _ _ s2 (by omega)).mono ?_
  rintro e w3 ⟨t, ⟨ht0, ht1⟩, rfl, k3, s3⟩
  have HA4 := Lib.hid ((HA2.out.up k3).alloc (.cells #[.slice ai ni ci, .int .i64 ship] 100))
  have s4 := strm_alloc s3 (.cells #[.slice ai ni ci, .int .i64 ship] 100)
  have HY4 := Lib.hid (XB.new w3 [.slice ai ni ci, .int .i64 ship] 100)
  simp only [List.toArray] at HY4
  have hlt3 := strm_lt s3
  have hlt3 := strm_lt s3
  clear HA2 k3 s3 s2
  obtain ⟨qb, hqb⟩ : ∃ q, w3.heap.size = q := ⟨_, rfl⟩
  have HQB := Lib.hid (show (some S.g) ≠ some qb by intro e; injection e with e; omega)
  rw [hqb] at HY4
  go_upto_region 3 with (fail)
  generalize w3.alloc (.cells #[.slice ai ni ci, .int .i64 ship] 100) = w4 at *
  clear hqb hlt3
  have CO1 := Lib.hid (fun w' (h : OB2 w S a ai l li w') => OffersFault_any a l n c w' HN.out (by omega) hc hcm h.ro h.tgo HOK.out)
  have CO2 := Lib.hid (fun w' (h : OB2 w S a ai l li w') => CheckOffers_any a l n c w' HN.out (by omega) hc hcm h.ro h.tgo HOK.out)
  have CB1 := Lib.hid (fun w' (h : OB2 w S a ai l li w') => CheckBasket_any ai li ni ci ship w' HNI.out (by omega) hci hcim h.ri h.ti HOKI.out)
  have CB2 := Lib.hid (fun w' (h : OB2 w S a ai l li w') => BasketFault_any ai li ni ci ship w' HNI.out (by omega) hci hcim h.ri h.ti HOKI.out)
  have CT1 := Lib.hid (fun w' (h : OB2 w S a ai l li w') => Together_any a l n c w' HN.out (by omega) hc hcm h.ro h.tgo HOK.out)
  have CT2 := Lib.hid (fun w' (h : OB2 w S a ai l li w') => TogetherOf_any a l n c w' HN.out (by omega) hc hcm h.ro)
  have CF := Lib.hid (fun (x : Of) (hx : x.ok) w' (h : OB2 w S a ai l li w') (hs : StrsAt w' x.tv x.tags) => Fits_any x ai li ni ci ship t w' hx hs HNI.out (by omega) hci hcim h.ri h.ti HOKI.out)
  have CR := Lib.hid (fun (x : Of) (hx : x.ok) w' (h : OB2 w S a ai l li w') (hs : StrsAt w' x.tv x.tags) (h0 : ofE [x] = 0) (h2 : bkE li ship = 0) => fitsR_any x ai li ni ci ship t w' HNI.out (by omega) hci hcim h.ri h.ti HOKI.out (bkE_its h2) hx hs (ofE_one h0))
  have CM := Lib.hid (rMoment_any t)
  generalize ofE l = E1 at *
  generalize hE2 : bkE li ship = E2 at *
  have HE2 := Lib.hid hE2
  generalize togB l = T at *
  generalize wB t 0 4321439 = bm at *
  clear hE2
  go_wp2_with fail
  with_reducible refine (CO1.out _ HA4.out.now).mono ?_
  rintro e w5 ⟨rfl, b5⟩
  have HAd := Lib.hid ((HA4.out.below b5).drew)
  have sd := strm_drew (strm_below s4 b5)
  have HYd := Lib.hid ((HY4.out.below b5).drewN 1)
  clear HA4 HY4 s4 b5
  go_upto_region 4 with (fail)
  have y0 : w5.cell? ⟨qb, 0, none⟩ = some (.slice ai ni ci) := HYd.out.at2.1
  have y1 : w5.cell? ⟨qb, 1, none⟩ = some (.int .i64 ship) := HYd.out.at2.2
  go_region_held3 (fun w' => w'.cell? ⟨qb, 0, none⟩ = some (.slice ai ni ci) ∧ w'.cell? ⟨qb, 1, none⟩ = some (.int .i64 ship))
    (first | go_keep | (refine x2_below b8 ?_ <;> first | assumption | (refine ⟨?_, ?_⟩ <;> first | assumption | (go_simp; done))) | (refine x2_below b7 ?_ <;> first | assumption | (refine ⟨?_, ?_⟩ <;> first | assumption | (go_simp; done))) | (refine x2_below b6 ?_ <;> first | assumption | (refine ⟨?_, ?_⟩ <;> first | assumption | (go_simp; done))))
    (first | (go_at_call 74; with_reducible refine (CO2.out _ HAd.out.now).mono ?_; rintro e w6 ⟨rfl, b6⟩; have HA6 := Lib.hid (HAd.out.below b6)) | (go_at_call 75; with_reducible refine (CB1.out _ HA6.out.now).mono ?_; rintro e w7 ⟨rfl, b7⟩; have HA7 := Lib.hid (HA6.out.below b7)) | (go_at_call 76; with_reducible refine (CB2.out _ HA7.out.now).mono ?_; rintro e w8 ⟨rfl, b8⟩))
  have HA8 := Lib.hid (HA7.out.below b8)
  have s8 := strm_below (strm_below (strm_below sd b6) b7) b8
  have HY8 := Lib.hid (((HYd.out.below b6).below b7).below b8)
  clear HA6 HA7 HAd HYd b6 b7 b8 sd y0 y1 CO1 CO2 CB1
  go_wp2_with fail
  with_reducible refine (CT1.out _ HA8.out.now).mono ?_
  rintro e w9 ⟨rfl, b9⟩
  have HA9 := Lib.hid (HA8.out.below b9)
  have s9 := strm_below s8 b9
  have HY9 := Lib.hid (HY8.out.below b9)
  clear HA8 HY8 b9 s8 CT1
  go_upto_region 7 with (fail)
  go_cut [52] (fun u wx => u = .bool false ∧ Below w9.heap.size w9 wx)
  case first =>
    by_cases h1 : E1 = 0
    · subst h1
      go_wp2_with fail
      with_reducible refine (CT2.out _ HA9.out.now).mono ?_
      rintro e w10 ⟨rfl, b10⟩
      have HB := Lib.hid b10
      clear b10
      cases T <;> (go_wp2_with fail; go_meet; exact ⟨rfl, HB.out⟩)
    · have e1 : (E1 == 0) = false := by simpa using h1
      clear h1
      go_wp2_with fail
      go_meet
      exact ⟨rfl, Below.refl _ _⟩
  case rest =>
  obtain ⟨rfl, bc⟩ := hcut
  have HA10 := Lib.hid (HA9.out.below bc)
  have s10 := strm_below s9 bc
  have HY10 := Lib.hid (HY9.out.below bc)
  clear HA9 HY9 bc s9 CT2
  go_wp2_with fail
  with_reducible refine (offer_any S _ ⟨#[120]⟩ _ s10 (by omega) (by decide)).mono ?_
  rintro e w11 ⟨x, -, hxok, rfl, htg, k11, s11⟩
  have HA11 := Lib.hid (HA10.out.up k11)
  have HY11 := Lib.hid (HY10.out.grown k11 HQB.out)
  have HX := Lib.hid hxok
  have HT := Lib.hid htg.strs
  clear HA10 HY10 k11 s10 hxok htg
  obtain ⟨k0, kd, ia, ib, tv, tc, tags, le, mo, gr, al, od, fr, t2⟩ := x
  rw [show (Of.cells ⟨k0, kd, ia, ib, tv, tc, tags, le, mo, gr, al, od, fr, t2⟩).toArray = #[.string k0, .int .i64 kd, .int .i64 ia, .int .i64 ib, .slice tv tags.length tc, .int .i64 le, .int .i64 mo, .string gr, .bool al, .int .i64 od, .int .i64 fr, .int .i64 t2] from rfl]
  have HO12 := Lib.hid (OB.new w11 [.string k0, .int .i64 kd, .int .i64 ia, .int .i64 ib, .slice tv tags.length tc, .int .i64 le, .int .i64 mo, .string gr, .bool al, .int .i64 od, .int .i64 fr, .int .i64 t2] 109)
  have HB12 := Lib.hid ((Below.refl w11.heap.size w11).alloc (Nat.le_refl _) (.cells #[.string k0, .int .i64 kd, .int .i64 ia, .int .i64 ib, .slice tv tags.length tc, .int .i64 le, .int .i64 mo, .string gr, .bool al, .int .i64 od, .int .i64 fr, .int .i64 t2] 109))
  simp only [List.toArray] at HO12
  go_upto_region 10 with (fail)
  generalize w11.alloc (.cells #[.string k0, .int .i64 kd, .int .i64 ia, .int .i64 ib, .slice tv tags.length tc, .int .i64 le, .int .i64 mo, .string gr, .bool al, .int .i64 od, .int .i64 fr, .int .i64 t2] 109) = w12 at *
  obtain ⟨qo, hqo⟩ : ∃ q, w11.heap.size = q := ⟨_, rfl⟩
  rw [hqo] at HO12 ⊢
  have HQO := Lib.hid hqo
  clear hqo
  have HA12 := Lib.hid (HA11.out.below HB12.out)
  go_upto_if 57 with (fail)
  go_cut [] (fun wx => ∃ x : Of, Hid x.ok ∧ StrsAt w11 x.tv x.tags ∧ OB wx qo x.cells 109 ∧ Below w11.heap.size w11 wx)
  case first =>
    by_cases hn0 : n = 0
    · subst hn0
      go_wp2_with fail
      go_meet
      exact ⟨⟨k0, kd, ia, ib, tv, tc, tags, le, mo, gr, al, od, fr, t2⟩, HX, HT.out, HO12.out, HB12.out⟩
    · have hlp : 0 < n := by omega
      have hlp2 : (0 : Int) < (n : Int) := by omega
      have hl0 : 0 < l.length := by have := HN.out; omega
      have HYO := Lib.hid (HOK.out l[0] (List.getElem_mem hl0))
      have HYT := Lib.hid (HA11.out.now.tgo l[0] (List.getElem_mem hl0))
      obtain ⟨p, off, hpa, hp, c0, c1, c2, c3, c4, c5, c6, c7, c8, c9, c10, c11⟩ := HA12.out.now.ro.at12 hl0 (v0 := .string l[0].key) (v1 := .int .i64 l[0].kind) (v2 := .int .i64 l[0].a) (v3 := .int .i64 l[0].b) (v4 := .slice l[0].tv l[0].tags.length l[0].tc) (v5 := .int .i64 l[0].least) (v6 := .int .i64 l[0].most) (v7 := .string l[0].group) (v8 := .bool l[0].alone) (v9 := .int .i64 l[0].order) (v10 := .int .i64 l[0].from_) (v11 := .int .i64 l[0].to_) rfl
      subst hpa
      simp only [Nat.zero_mul, Nat.add_zero] at c0 c1 c2 c3 c4 c5 c6 c7 c8 c9 c10 c11
      generalize l[0] = y at *
      obtain ⟨k2, kd2, ia2, ib2, tv2, tc2, tags2, le2, mo2, gr2, al2, od2, fr2, t22⟩ := y
      simp only at c0 c1 c2 c3 c4 c5 c6 c7 c8 c9 c10 c11 HYT
      have HV1 := Lib.hid (show ([.string k2, .int .i64 kd2, .int .i64 ia2, .int .i64 ib2, .slice tv2 tags2.length tc2, .int .i64 le2, .int .i64 mo2, .string gr2, .bool al2, .int .i64 od2, .int .i64 fr2, .int .i64 t22] : List Value).all (·.oneCell') = true by simp [Value.oneCell'])
      clear hn0 CF CR CB2 CM HE2 HY11 HA11 HA12 HQB s11 HOK HOKI HX HT HNI
      go_wp2_with (refine wpList_store_ob _ rfl _ _ _ rfl qo _ [.string k2, .int .i64 kd2, .int .i64 ia2, .int .i64 ib2, .slice tv2 tags2.length tc2, .int .i64 le2, .int .i64 mo2, .string gr2, .bool al2, .int .i64 od2, .int .i64 fr2, .int .i64 t22] _ rfl rfl HO12.out ofSize rfl HV1.out ?_)
      intro w13 hO13 hg13
      have HR := Lib.hid hO13
      have HB := Lib.hid (HB12.out.grown hg13 (HB12.out.size) (fun q hq => by injection hq with hq; have := HQO.out; omega))
      clear hO13 hg13 HO12 HB12
      go_wp2_with fail
      go_meet
      exact ⟨⟨k2, kd2, ia2, ib2, tv2, tc2, tags2, le2, mo2, gr2, al2, od2, fr2, t22⟩, HYO, HYT.out, HR.out, HB.out⟩
  case rest =>
  clear HO12 HB12 HA12 HX HT
  obtain ⟨x, HX, hT, hO, bc⟩ := hcut
  have HA13 := Lib.hid (HA11.out.below bc)
  have HY13 := Lib.hid (HY11.out.below bc)
  have HT13 := Lib.hid (hT.below bc)
  have HO13 := Lib.hid hO.xb
  have CFx := Lib.hid (CF.out x HX.out)
  have CRx := Lib.hid (CR.out x HX.out)
  have CX1 := Lib.hid (fun w' p (h : StrsAt w' x.tv x.tags) (hp : w'.heap[p]? = some (.cells x.cells.toArray 109 (0, 0))) => OffersFault_any (some ⟨p, 0, none⟩) [x] 1 1 w' rfl (by omega) (Nat.le_refl _) (by unfold maxLen; omega)
    (RAt.block (t := 109) (by simpa using hp) (fun y _ => y.len)) (fun y hy => by obtain rfl := List.mem_singleton.1 hy; exact h) (fun y hy => by obtain rfl := List.mem_singleton.1 hy; exact HX.out))
  have HOC := Lib.hid (or_chk (ofE [x]) E2 bm)
  have HV0 := Lib.hid (fun h => chkV_0 (e1 := ofE [x]) (e2 := E2) (b := bm) h)
  have HOR := Lib.hid (fun (w' : World) => orErr_any w'.heap.size [ofE [x], E2] 2 2 30 (w'.alloc (.cells #[.int .i64 (ofE [x]), .int .i64 E2] 30)) rfl (by omega) (heap_alloc_new _ _))
  clear hT hO bc HA11 HY11 HX CF CR s11
  generalize chkV (ofE [x]) E2 bm = V at *
  generalize fitV x li ship t = F at *
  generalize orE [ofE [x], E2] = W at *
  generalize ofE [x] = D at *
  obtain ⟨k2, kd2, ia2, ib2, tv2, tc2, tags2, le2, mo2, gr2, al2, od2, fr2, t22⟩ := x
  rw [show (Of.cells ⟨k2, kd2, ia2, ib2, tv2, tc2, tags2, le2, mo2, gr2, al2, od2, fr2, t22⟩).toArray = #[.string k2, .int .i64 kd2, .int .i64 ia2, .int .i64 ib2, .slice tv2 tags2.length tc2, .int .i64 le2, .int .i64 mo2, .string gr2, .bool al2, .int .i64 od2, .int .i64 fr2, .int .i64 t22] from rfl] at CFx CRx CX1
  rw [show Of.cells ⟨k2, kd2, ia2, ib2, tv2, tc2, tags2, le2, mo2, gr2, al2, od2, fr2, t22⟩ = [.string k2, .int .i64 kd2, .int .i64 ia2, .int .i64 ib2, .slice tv2 tags2.length tc2, .int .i64 le2, .int .i64 mo2, .string gr2, .bool al2, .int .i64 od2, .int .i64 fr2, .int .i64 t22] from rfl] at HO13
  simp only at CFx CRx CX1 HT13
  obtain ⟨FF, hFF⟩ : ∃ z, (if V = 0 then F else 0) = z := ⟨_, rfl⟩
  have HFF := Lib.hid (fun h : V = 0 => show FF = F by rw [← hFF, if_pos h])
  rw [hFF] at CFx
  clear hFF
  obtain ⟨tn, htn⟩ : ∃ n, tags2.length = n := ⟨_, rfl⟩
  rw [htn] at CFx CRx CX1 HO13
  clear htn
  obtain ⟨x0, x1, x2, x3, x4, x5, x6, x7, x8, x9, x10, x11⟩ := HO13.out.at12
  obtain ⟨y0, y1⟩ := HY13.out.at2
  have hxl := HO13.out.1
  have hyl := HY13.out.1
  go_wp2_with fail
  with_reducible refine (CFx.out _ HA13.out.now HT13.out).mono ?_
  rintro e w14 ⟨rfl, b14⟩
  have HA14 := Lib.hid (HA13.out.below b14)
  have HY14 := Lib.hid (HY13.out.below b14)
  have HO14 := Lib.hid (HO13.out.below b14)
  have HT14 := Lib.hid (HT13.out.below b14)
  clear HA13 HY13 HO13 HT13 CFx b14 x0 x1 x2 x3 x4 x5 x6 x7 x8 x9 x10 x11 y0 y1 hxl hyl
  go_upto_region 13 with (fail)
  obtain ⟨x0, x1, x2, x3, x4, x5, x6, x7, x8, x9, x10, x11⟩ := HO14.out.at12
  obtain ⟨y0, y1⟩ := HY14.out.at2
  have HAD := Lib.hid ((HA14.out.drew).alloc (.cells #[.string k2, .int .i64 kd2, .int .i64 ia2, .int .i64 ib2, .slice tv2 tn tc2, .int .i64 le2, .int .i64 mo2, .string gr2, .bool al2, .int .i64 od2, .int .i64 fr2, .int .i64 t22] 109))
  have HTD := Lib.hid (show StrsAt (w14.drew.alloc (.cells #[.string k2, .int .i64 kd2, .int .i64 ia2, .int .i64 ib2, .slice tv2 tn tc2, .int .i64 le2, .int .i64 mo2, .string gr2, .bool al2, .int .i64 od2, .int .i64 fr2, .int .i64 t22] 109)) tv2 tags2 from HT14.out.below ((Below.refl _ _).drew.alloc (Nat.le_refl _) _))
  have HND := Lib.hid (heap_alloc_new w14.drew (.cells #[.string k2, .int .i64 kd2, .int .i64 ia2, .int .i64 ib2, .slice tv2 tn tc2, .int .i64 le2, .int .i64 mo2, .string gr2, .bool al2, .int .i64 od2, .int .i64 fr2, .int .i64 t22] 109))
  go_region_held3 (fun w' => w'.cell? ⟨qo, 0, none⟩ = some (.string k2) ∧ w'.cell? ⟨qo, 1, none⟩ = some (.int .i64 kd2) ∧ w'.cell? ⟨qo, 2, none⟩ = some (.int .i64 ia2) ∧ w'.cell? ⟨qo, 3, none⟩ = some (.int .i64 ib2) ∧ w'.cell? ⟨qo, 4, none⟩ = some (.slice tv2 tn tc2) ∧ w'.cell? ⟨qo, 5, none⟩ = some (.int .i64 le2) ∧ w'.cell? ⟨qo, 6, none⟩ = some (.int .i64 mo2) ∧ w'.cell? ⟨qo, 7, none⟩ = some (.string gr2) ∧ w'.cell? ⟨qo, 8, none⟩ = some (.bool al2) ∧ w'.cell? ⟨qo, 9, none⟩ = some (.int .i64 od2) ∧ w'.cell? ⟨qo, 10, none⟩ = some (.int .i64 fr2) ∧ w'.cell? ⟨qo, 11, none⟩ = some (.int .i64 t22) ∧ w'.cell? ⟨qb, 0, none⟩ = some (.slice ai ni ci) ∧ w'.cell? ⟨qb, 1, none⟩ = some (.int .i64 ship))
    (first | go_keep | (refine x14_below b16 ?_ <;> first | assumption | (refine ⟨?_, ?_, ?_, ?_, ?_, ?_, ?_, ?_, ?_, ?_, ?_, ?_, ?_, ?_⟩ <;> first | assumption | (go_simp; done))) | (refine x14_below b15 ?_ <;> first | assumption | (refine ⟨?_, ?_, ?_, ?_, ?_, ?_, ?_, ?_, ?_, ?_, ?_, ?_, ?_, ?_⟩ <;> first | assumption | (go_simp; done))))
    (first | (go_at_call 73; refine (CX1.out _ _ HTD.out HND.out).mono ?_; rintro e w15 ⟨rfl, b15⟩; have HA15 := Lib.hid (HAD.out.below b15)) | (go_at_call 76; with_reducible refine (CB2.out _ HA15.out.now).mono ?_; rintro e w16 ⟨rfl, b16⟩; have HA16 := Lib.hid (HA15.out.below b16)) | (go_at_call 19; refine (HOR.out _).mono ?_; rintro e w17 ⟨rfl, rfl⟩))
  have HAE := Lib.hid (HA16.out.alloc (.cells #[.int .i64 D, .int .i64 E2] 30))
  have HYE := Lib.hid (((((HY14.out.drewN 1).alloc (.cells #[.string k2, .int .i64 kd2, .int .i64 ia2, .int .i64 ib2, .slice tv2 tn tc2, .int .i64 le2, .int .i64 mo2, .string gr2, .bool al2, .int .i64 od2, .int .i64 fr2, .int .i64 t22] 109)).below b15).below b16).alloc (.cells #[.int .i64 D, .int .i64 E2] 30))
  have HOE := Lib.hid (((((HO14.out.drewN 1).alloc (.cells #[.string k2, .int .i64 kd2, .int .i64 ia2, .int .i64 ib2, .slice tv2 tn tc2, .int .i64 le2, .int .i64 mo2, .string gr2, .bool al2, .int .i64 od2, .int .i64 fr2, .int .i64 t22] 109)).below b15).below b16).alloc (.cells #[.int .i64 D, .int .i64 E2] 30))
  have HTE := Lib.hid ((((HTD.out.below b15).below b16)).below ((Below.refl w16.heap.size w16).alloc (Nat.le_refl _) (.cells #[.int .i64 D, .int .i64 E2] 30)))
  clear HA14 HY14 HO14 HT14 HAD HTD HND HA15 HA16 b15 b16 x0 x1 x2 x3 x4 x5 x6 x7 x8 x9 x10 x11 y0 y1 CX1 HOR
  generalize w16.alloc (.cells #[.int .i64 D, .int .i64 E2] 30) = w17 at *
  go_upto_region 14 with (fail)
  by_cases hW0 : W = 0
  · have HVV := Lib.hid (HOC.out.2 hW0)
    clear HOC
    subst hW0
    cases bm with
    | true =>
      obtain rfl : V = 0 := HVV.out
      obtain rfl : FF = F := HFF.out rfl
      obtain ⟨hD0, hE0, -⟩ := HV0.out rfl
      have HCR := Lib.hid (CRx.out w17 HAE.out.now HTE.out hD0 hE0)
      clear hD0 hE0 HVV HV0
      go_wp2_with fail
      with_reducible refine (CM.out _).mono ?_
      rintro e w18 ⟨rfl, rfl⟩
      go_wp2_with fail
      with_reducible refine (offers_any _).mono ?_
      rintro e w18 ⟨rfl, rfl⟩
      obtain ⟨x0, x1, x2, x3, x4, x5, x6, x7, x8, x9, x10, x11⟩ := HOE.out.at12
      obtain ⟨y0, y1⟩ := HYE.out.at2
      have hxl := HOE.out.1
      have hyl := HYE.out.1
      go_wp2_with fail
      with_reducible refine HCR.out.mono ?_
      rintro e w18 ⟨rfl, b18⟩
      have HB := Lib.hid (below_of_grown (HAE.out.below b18).now.gr hBS)
      clear b18 HAE x0 x1 x2 x3 x4 x5 x6 x7 x8 x9 x10 x11 y0 y1 hxl hyl HYE HOE HTE HCR
      go_wp2_with fail
      go_ret
      exact ⟨rfl, HB.out⟩
    | false =>
      obtain rfl : V = 1 := HVV.out
      have HB := Lib.hid (below_of_grown HAE.out.now.gr hBS)
      clear HVV HV0
      go_wp2_with fail
      with_reducible refine (CM.out _).mono ?_
      rintro e w18 ⟨rfl, rfl⟩
      go_wp2_with fail
      with_reducible refine (offers_any _).mono ?_
      rintro e w18 ⟨rfl, rfl⟩
      go_wp2_with fail
      go_ret
      exact ⟨rfl, HB.out⟩
  · have eW : (W == 0) = false := by simpa using hW0
    have eW2 : (W != 0) = true := by simpa using hW0
    obtain rfl : V = W := HOC.out.1 hW0
    have HB := Lib.hid (below_of_grown HAE.out.now.gr hBS)
    clear hW0 HOC HV0
    go_wp2_with fail
    with_reducible refine (offers_any _).mono ?_
    rintro e w18 ⟨rfl, rfl⟩
    go_wp2_with fail
    go_ret
    exact ⟨rfl, HB.out⟩
theorem offersFit_tabs {P : Prop} (_ : P) : True := trivial
end Go.Proofs.YtdnikegakcdcnaaDoor
