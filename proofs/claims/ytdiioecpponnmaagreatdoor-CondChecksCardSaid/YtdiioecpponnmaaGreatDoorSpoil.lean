/- (*Stream).SpoiledCond (printed by gen_spoil.py). -/
import Derived.Test.YtdiioecpponnmaaGreatDoorCkSp
import Derived.Test.YtdiioecpponnmaaGreatDoorSgL
import Derived.Test.YtdiioecpponnmaaGreatDoorShelf
import Derived.Deep.Cut
import Derived.Deep.CutBlock
import Derived.Deep.DeepCutAuto
import Derived.Deep.MidRow
set_option linter.unusedVariables false
namespace Go.Proofs.YtdiioecpponnmaaGreatDoor
open Go.RowKit

theorem small_of_mem {l : List ByteArray} {x : ByteArray} {n : Nat} (h : x ∈ l) (hl : ∀ s ∈ l, s.size ≤ n) : x.size ≤ n := hl x h
/-- what the region that spoils one of the others keeps -/
structure JSp (d : Nat) (w : World) (S : SC) (q3 q4 : Nat) (d0 : Nat) (c0 : Cn) (n : Nd) (args : List Cn) (base g k : Nat) (x : Cn) (K kn M : Nat) (b : Msk) (v : Nat → Value) (wr : World) : Prop where
  base : SbA w S q3 q4 d0 c0 d n args base g (K + cond (b 9) kn 0) wr
  p1 : b 1 = true → v 25 = .slice (some ⟨g, 0, none⟩) args.length n.ac
  p5 : b 5 = true → v 29 = .slice (some ⟨g, 0, none⟩) args.length n.ac
  p7 : b 7 = true → v 31 = .pointer (some ⟨g, k * 9, none⟩)
  p8 : b 8 = true → v 32 = x.agg
  p9 : b 9 = true → ∃ x', v 33 = x'.agg ∧ TAt (d + 20) wr x' ∧ (∀ gg, gg ≤ q4 ∨ gg = g → FarT d x gg → FarT (d + 20) x' gg) ∧ szN (d + 20) x' ≤ M
theorem wpAny_store_last {P : Program} {md : Region.Mode} {ops : Array Oper} {Q : Exit → Act → World → Prop} {fuel i : Nat} {o : Oper} {listed : Array Bool} {a : Act} {w : World} (ty : TypeId) (x y : Operand) (hr : Region.ready md ops listed = [i]) (hi : ops[i]? = some o) (hg : o.guard = none) (ho : o.op = .store ty x y)
    (b off : Nat) (cells : List Value) (hx : a.eval x = .pointer (some ⟨b, off, none⟩)) (hy : a.eval y = .agg cells.toArray) (ht : w.there b off cells.length) (hin : (P.info? ty).map (·.size) = some cells.length) (h1 : cells.toArray.all (·.oneCell') = true)
    (h : wpAny P md ops Q fuel (listed.setIfInBounds i true) (a.put o.dst undef) (w.setCells b off cells)) : wpAny P md ops Q (fuel + 1) listed a w := by
  refine wpAny_ready hr (by simp) ?_
  intro j hj
  obtain rfl : j = i := List.mem_singleton.1 hj
  refine wpOp_calm hi hg fun K' Q' hK' => ?_
  exact wp_store_mid ty x y ho b off cells.toArray hx hy ht hin h1 (hK' _ _ h)
theorem rep_n (c : Int) (h0 : 2 ≤ c) (h1 : c ≤ 100) : ∃ r : ByteArray, r.size ≤ 100 ∧ ∀ w, Calls Tryz.prog 16 #[.string ⟨#[110]⟩, .int .i64 c] w fun e w' => e = .returned (.string r) ∧ Below w.heap.size w w' := by
  obtain ⟨m, rfl⟩ := Int.eq_ofNat_of_zero_le (show 0 ≤ c by omega)
  refine ⟨⟨(Lib.repeatL [110] m).toArray⟩, ?_, fun w => Tryz.strings_Repeat ⟨#[110]⟩ m w (by omega) (by show 1 * m ≤ _; omega)⟩
  show (Lib.repeatL [110] m).toArray.size ≤ 100
  simp [Lib.repeatL_length]
  omega
theorem szN_mem {d k : Nat} {n : Nd} {args : List Cn} (hk : k < args.length) : szN d args[k] ≤ szN (d + 1) (.mk n args) := by
  have h : ∀ (l : List Nat) (j : Nat) (hj : j < l.length), l[j] ≤ l.sum := fun l => by
    induction l with
    | nil => intro j hj; simp at hj
    | cons y r ih =>
      intro j hj
      cases j with
      | zero => simp
      | succ j =>
        have := ih j (by simpa using hj)
        simp only [List.getElem_cons_succ, List.sum_cons]
        omega
  have := h (args.map (szN d)) k (by simpa using hk)
  simp only [List.getElem_map] at this
  show _ ≤ 1 + (args.map (szN d)).sum
  omega
theorem szN_set {d d' k : Nat} {w : World} {n n' : Nd} {args : List Cn} {x' : Cn} (hT : ∀ y ∈ args, TAt d w y) (hd : d ≤ d') : szN (d' + 1) (.mk n' (args.set k x')) ≤ szN (d + 1) (.mk n args) + szN d' x' := by
  show 1 + ((args.set k x').map (szN d')).sum ≤ 1 + (args.map (szN d)).sum + szN d' x'
  have e : args.map (szN d') = args.map (szN d) := List.map_congr_left (fun y hy => szN_mono (hT y hy) hd)
  rw [List.map_set, e]
  have := sum_set_le (args.map (szN d)) k (szN d' x')
  omega
theorem SbA.at9 {w wr : World} {S : SC} {q3 q4 d0 d K base g : Nat} {c0 : Cn} {n : Nd} {args : List Cn} (h : SbA w S q3 q4 d0 c0 d n args base g K wr) (k : Nat) (hk : k < args.length) :
    g < wr.heap.size ∧ wr.cell? ⟨g, k * 9, none⟩ = some (.int .i64 args[k].nd.kind) ∧ wr.cell? ⟨g, k * 9 + 1, none⟩ = some (.string args[k].nd.name) ∧ wr.cell? ⟨g, k * 9 + 2, none⟩ = some (.string args[k].nd.field) ∧ wr.cell? ⟨g, k * 9 + 3, none⟩ = some (.string args[k].nd.sign) ∧ wr.cell? ⟨g, k * 9 + 4, none⟩ = some (.slice args[k].nd.va args[k].nd.vals.length args[k].nd.vc) ∧ wr.cell? ⟨g, k * 9 + 5, none⟩ = some (.slice args[k].nd.wa args[k].nd.whs.length args[k].nd.wc) ∧ wr.cell? ⟨g, k * 9 + 6, none⟩ = some (.int .i64 args[k].nd.within) ∧ wr.cell? ⟨g, k * 9 + 7, none⟩ = some (.int .i64 args[k].nd.number) ∧ wr.cell? ⟨g, k * 9 + 8, none⟩ = some (.slice args[k].nd.aa args[k].args.length args[k].nd.ac) := by
  obtain ⟨p, off, e, hp, c0, c1, c2, c3, c4, c5, c6, c7, c8⟩ := (own_rat h.own (fun x _ => x.len)).at9c hk
  injection e with e
  injection e with e1 e2
  subst e1 e2
  simp only [Nat.zero_add] at c0 c1 c2 c3 c4 c5 c6 c7 c8
  exact ⟨hp, c0, c1, c2, c3, c4, c5, c6, c7, c8⟩
set_option maxRecDepth 100000 in
set_option maxHeartbeats 16000000 in
theorem spoil_succ (S : SC) (d : Nat) (ih : ∀ (c : Cn) (K : Nat) (w : World), TAt d w c → FarT d c S.g → smT d c → Strm w S K → K + 3 * d ≤ 100000 → Calls Tryz.prog 6 #[S.p, c.agg] w (GenSp S (K + 3 * d + 20) w d c (d + 20) ((d + 1) * szN d c + 20)))
    (kind : Int) (name field sign : ByteArray) (va : Option Addr) (vc : Nat) (vals : List Vl) (wa : Option Addr) (wc9 : Nat) (whs : List Wh) (within number : Int) (aa : Option Addr) (ac : Nat) (args : List Cn)
    (K : Nat) (w : World) (hT : TAt (d + 1) w (.mk ⟨kind, name, field, sign, va, vc, vals, wa, wc9, whs, within, number, aa, ac⟩ args)) (hF : FarT (d + 1) (.mk ⟨kind, name, field, sign, va, vc, vals, wa, wc9, whs, within, number, aa, ac⟩ args) S.g) (hsm : smT (d + 1) (.mk ⟨kind, name, field, sign, va, vc, vals, wa, wc9, whs, within, number, aa, ac⟩ args)) (hs : Strm w S K) (hK : K + 3 * (d + 1) ≤ 100000) :
    Calls Tryz.prog 6 #[S.p, .agg #[.int .i64 kind, .string name, .string field, .string sign, .slice va vals.length vc, .slice wa whs.length wc9, .int .i64 within, .int .i64 number, .slice aa args.length ac]] w (GenSp S (K + 3 * (d + 1) + 20) w (d + 1) (.mk ⟨kind, name, field, sign, va, vc, vals, wa, wc9, whs, within, number, aa, ac⟩ args) (d + 1 + 20) ((d + 1 + 1) * szN (d + 1) (.mk ⟨kind, name, field, sign, va, vc, vals, wa, wc9, whs, within, number, aa, ac⟩ args) + 20)) := by
  have IH := Lib.hid ih
  have HSM := Lib.hid hsm
  have hok := hT.1
  have HZL : Hid (szN (d + 1) (.mk ⟨kind, name, field, sign, va, vc, vals, wa, wc9, whs, within, number, aa, ac⟩ args) + 20 ≤ (d + 1 + 1) * szN (d + 1) (.mk ⟨kind, name, field, sign, va, vc, vals, wa, wc9, whs, within, number, aa, ac⟩ args) + 20) := Lib.hid (by rw [Nat.succ_mul]; omega)
  have HB := Lib.hid (Sb.new hT hF hs)
  clear hT hF hsm hs ih
  go_enter Tryz.func6, Tryz.ntmps6
  go_upto_region 1 with (fail)
  unfold condZ at HB
  simp only [List.toArray, Cn.cells, Cn.nd, Cn.args] at HB
  generalize (w.alloc (.cells _ 30)).alloc (.cells _ 30) = w1 at *
  obtain ⟨q3, hq3⟩ : ∃ z, w.heap.size = z := ⟨_, rfl⟩
  obtain ⟨q4, hq4⟩ : ∃ z, w.heap.size + 1 = z := ⟨_, rfl⟩
  rw [hq4] at HB ⊢
  rw [hq3] at HB ⊢
  clear hq3 hq4
  have HB0 := Lib.hid (show Sb w S q3 q4 (d + 1) (.mk ⟨kind, name, field, sign, va, vc, vals, wa, wc9, whs, within, number, aa, ac⟩ args) (d + 1) (.mk ⟨kind, name, field, sign, va, vc, vals, wa, wc9, whs, within, number, aa, ac⟩ args) K w1 from HB.out)
  clear HB
  have s1 := HB0.out.mkk.st
  go_cut [14] (fun t wx => ∃ b : Bool, t = .bool b ∧ (b = true → 0 < args.length) ∧ Sb w S q3 q4 (d + 1) (.mk ⟨kind, name, field, sign, va, vc, vals, wa, wc9, whs, within, number, aa, ac⟩ args) (d + 1) (.mk ⟨kind, name, field, sign, va, vc, vals, wa, wc9, whs, within, number, aa, ac⟩ args) (K + 1) wx)
  case first =>
    --@first
    have y8 := HB0.out.bx.cell 8 (.slice aa args.length ac) rfl
    have yl := HB0.out.bx.lt
    by_cases h1 : 0 < args.length
    · have h1' : (0 : Int) < (args.length : Int) := by omega
      go_wp2_with fail
      with_reducible refine (flip_any S _ _ _ s1 (by omega) (by omega)).mono ?_
      rintro e w5 ⟨b, rfl, kk, s6⟩
      have HT5 := Lib.hid (HB0.out.draw kk s6)
      clear kk s6 s1 HB0 y8 yl
      go_wp2_with fail
      go_meet
      exact ⟨!b, rfl, fun _ => h1, HT5.out⟩
    · have h1' : ¬ (0 : Int) < (args.length : Int) := by omega
      go_wp2_with fail
      go_meet
      exact ⟨false, rfl, fun e => (by cases e), HB0.out.mono (by omega)⟩
    --@end
  case rest =>
  obtain ⟨b, rfl, hpos, hB⟩ := hcut
  have HB1 := Lib.hid hB
  clear hB HB0 s1
  have s1 := HB1.out.mkk.st
  cases b with
  | true =>
    replace hpos := hpos rfl
    have y8 := HB1.out.bx.cell 8 (.slice aa args.length ac) rfl
    have yl := HB1.out.bx.lt
    have hal : args.length ≤ 1000 := HB1.out.tr.2.1.2.2
    have CL := Lib.hid (fun n hn => cloneCn_any aa args n ac wc hn (by omega) HB1.out.tr.2.2.2.2.1)
    go_wp2_with fail
    with_reducible refine (CL.out _ rfl).mono ?_
    rintro e w3 ⟨v, rfl, own, hb⟩
    obtain ⟨g, cap, rfl, f1, f2, f3, hA⟩ := (HB1.out.clone own hb).kids hpos
    have HA := Lib.hid hA
    clear own hb CL HB1 s1 y8 yl hA
    go_upto_region 3 with (fail)
    clear f1 f2 f3
    generalize w3.setCell _ _ = w4 at *
    have y8 := HA.out.sb.bx.cell 8 (.slice (some ⟨g, 0, none⟩) args.length cap) rfl
    have yl := HA.out.sb.bx.lt
    have s3 := HA.out.sb.mkk.st
    go_wp2_with fail
    with_reducible refine (next_any S _ _ _ s3 (by omega) (by omega)).mono ?_
    rintro e wq ⟨z, ⟨hz0', hz1', -⟩, rfl, kk, s4⟩
    have hz2' := hz1' (by omega)
    obtain ⟨k, rfl⟩ := Int.eq_ofNat_of_zero_le hz0'
    have hk : k < args.length := by omega
    have HAq := Lib.hid (HA.out.draw kk s4)
    clear kk s3 HA hz0' hz1' hz2' y8 yl s4
    obtain ⟨x, hx0⟩ : ∃ z, args[k] = z := ⟨_, rfl⟩
    obtain ⟨bs, hbs⟩ : ∃ z, wc.heap.size = z := ⟨_, rfl⟩
    rw [hbs] at HAq
    clear hbs
    go_upto_region 4 with (fail)
    refine wp_region_any (by kernel_rfl) ?_
    change wpAny _ _ _ _ _ _ _ (World.drew _)
    have HTd := Lib.hid HAq.out.drew
    clear HAq
    generalize World.drew _ = wd at *
    refine wpAny_take (i := 0) (oi := ⟨some 24, _, _, _, _, _⟩) (v := (.pointer (some ⟨q3, 8, none⟩))) rfl (by kernel_rfl) (by kernel_rfl) (by kernel_rfl) (fun _ _ _ h => h) (Or.inl ⟨by rfl, fun w => by go_simp⟩) ?_
    refine wpAny_take (i := 2) (oi := ⟨some 26, _, _, _, _, _⟩) (v := (.int .i64 (k : Int))) rfl (by kernel_rfl) (by kernel_rfl) (by kernel_rfl) (fun _ _ _ h => h) (Or.inl ⟨by rfl, fun w => by go_simp⟩) ?_
    refine wpAny_take (i := 3) (oi := ⟨some 27, _, _, _, _, _⟩) (v := S.p) rfl (by kernel_rfl) (by kernel_rfl) (by kernel_rfl) (fun _ _ _ h => h) (Or.inl ⟨by rfl, fun w => by go_simp⟩) ?_
    refine wpAny_take (i := 4) (oi := ⟨some 28, _, _, _, _, _⟩) (v := (.pointer (some ⟨q3, 8, none⟩))) rfl (by kernel_rfl) (by kernel_rfl) (by kernel_rfl) (fun _ _ _ h => h) (Or.inl ⟨by rfl, fun w => by go_simp⟩) ?_
    refine wpAny_take (i := 6) (oi := ⟨some 30, _, _, _, _, _⟩) (v := (.int .i64 (k : Int))) rfl (by kernel_rfl) (by kernel_rfl) (by kernel_rfl) (fun _ _ _ h => h) (Or.inl ⟨by rfl, fun w => by go_simp⟩) ?_
    refine wpAny_mask (n := 2) (m := 7) #[true, false, true, true, true, false, true, false, false, false, false, false] [1, 5, 7, 8, 9] (fun i => if i = 7 then [5] else if i = 8 then [7] else if i = 9 then [8] else []) [25, 29, 31, 32, 33] (fun d => if d = 25 then u25 else if d = 29 then u29 else if d = 31 then u31 else if d = 32 then u32 else u33) (JSp d w S q3 q4 (d + 1) (.mk ⟨kind, name, field, sign, va, vc, vals, wa, wc9, whs, within, number, aa, ac⟩ args) ⟨kind, name, field, sign, va, vc, vals, wa, wc9, whs, within, number, (some ⟨g, 0, none⟩), cap⟩ args bs g k x (K + 2) (3 * d + 20) ((d + 1) * szN d x + 20)) rfl (by decide) (by kernel_rfl) (by kernel_rfl) ?st4 ?hs4 ?he4
    case st4 => exact ⟨HTd.out, fun e => (by cases e), fun e => (by cases e), fun e => (by cases e), fun e => (by cases e), fun e => (by cases e)⟩
    case hs4 =>
      intro i hi b u wx hbi hD hJ
      simp only [List.mem_cons, List.mem_nil_iff, or_false] at hi
      have HJ := Lib.hid hJ
      rcases hi with rfl | rfl | rfl | rfl | rfl
      · --@ka
        refine wpOp_calm (o := ⟨some 25, ?ap1, ?ap2, ?ap3, ?ap4, ?ap5⟩) ?api ?apg ?_
        case api => exact rfl
        case apg => exact rfl
        intro K' Q' hK'
        have HK := Lib.hid hK'
        clear hK'
        have y1 := hJ.base.sb.bx.cell 8 (.slice (some ⟨g, 0, none⟩) args.length cap) rfl
        have yl := hJ.base.sb.bx.lt
        clear hJ
        simp only [setAll, List.foldl]
        go_simp
        exact HK.out _ _ ⟨upd u 25 (.slice (some ⟨g, 0, none⟩) args.length cap), by kernel_rfl, ⟨HJ.out.base, fun _ => rfl, fun e => HJ.out.p5 e, fun e => HJ.out.p7 e, fun e => HJ.out.p8 e, fun e => HJ.out.p9 e⟩⟩
        --@end
      · --@kb
        refine wpOp_calm (o := ⟨some 29, ?bp1, ?bp2, ?bp3, ?bp4, ?bp5⟩) ?bpi ?bpg ?_
        case bpi => exact rfl
        case bpg => exact rfl
        intro K' Q' hK'
        have HK := Lib.hid hK'
        clear hK'
        have y1 := hJ.base.sb.bx.cell 8 (.slice (some ⟨g, 0, none⟩) args.length cap) rfl
        have yl := hJ.base.sb.bx.lt
        clear hJ
        simp only [setAll, List.foldl]
        go_simp
        exact HK.out _ _ ⟨upd u 29 (.slice (some ⟨g, 0, none⟩) args.length cap), by kernel_rfl, ⟨HJ.out.base, fun e => HJ.out.p1 e, fun _ => rfl, fun e => HJ.out.p7 e, fun e => HJ.out.p8 e, fun e => HJ.out.p9 e⟩⟩
        --@end
      · --@kc
        refine wpOp_calm (o := ⟨some 31, ?cp1, ?cp2, ?cp3, ?cp4, ?cp5⟩) ?cpi ?cpg ?_
        case cpi => exact rfl
        case cpg => exact rfl
        intro K' Q' hK'
        have HK := Lib.hid hK'
        clear hK'
        have h5 := HJ.out.p5 (hD 5 (by simp))
        simp only [] at h5
        clear hJ
        simp only [setAll, List.foldl, h5]
        go_simp
        exact HK.out _ _ ⟨upd (upd u 29 (.slice (some ⟨g, 0, none⟩) args.length cap)) 31 (.pointer (some ⟨g, k * 9, none⟩)), by kernel_rfl, by
          rw [upd_same h5]
          exact ⟨HJ.out.base, fun e => HJ.out.p1 e, fun e => HJ.out.p5 e, fun _ => rfl, fun e => HJ.out.p8 e, fun e => HJ.out.p9 e⟩⟩
        --@end
      · --@kd
        refine wpOp_calm (o := ⟨some 32, ?dp1, ?dp2, ?dp3, ?dp4, ?dp5⟩) ?dpi ?dpg ?_
        case dpi => exact rfl
        case dpg => exact rfl
        intro K' Q' hK'
        have HK := Lib.hid hK'
        clear hK'
        have h7 := HJ.out.p7 (hD 7 (by simp))
        have AT := Lib.hid (HJ.out.base.at9 k hk)
        rw [hx0] at AT
        have gl := AT.out.1
        have c0 := AT.out.2.1
        have c1 := AT.out.2.2.1
        have c2 := AT.out.2.2.2.1
        have c3 := AT.out.2.2.2.2.1
        have c4 := AT.out.2.2.2.2.2.1
        have c5 := AT.out.2.2.2.2.2.2.1
        have c6 := AT.out.2.2.2.2.2.2.2.1
        have c7 := AT.out.2.2.2.2.2.2.2.2.1
        have c8 := AT.out.2.2.2.2.2.2.2.2.2
        clear AT
        clear hJ
        simp only [setAll, List.foldl, h7]
        go_simp
        exact HK.out _ _ ⟨upd (upd u 31 (.pointer (some ⟨g, k * 9, none⟩))) 32 x.agg, by unfold Cn.agg; kernel_rfl, by
          rw [upd_same h7]
          exact ⟨HJ.out.base, fun e => HJ.out.p1 e, fun e => HJ.out.p5 e, fun e => HJ.out.p7 e, fun _ => rfl, fun e => HJ.out.p9 e⟩⟩
        --@end
      · --@ke
        refine wpOp_calm (o := ⟨some 33, ?ep1, ?ep2, ?ep3, ?ep4, ?ep5⟩) ?epi ?epg ?_
        case epi => exact rfl
        case epg => exact rfl
        intro K' Q' hK'
        have HK := Lib.hid hK'
        clear hK'
        have h8 := HJ.out.p8 (hD 8 (by simp))
        have hxm : x ∈ args := hx0 ▸ List.getElem_mem hk
        have C := IH.out x (K + 2) wx (hJ.base.sb.tr.2.2.2.2.2 x hxm) (hJ.base.sb.fs.2.2.2 x hxm) (HSM.out.2.2 x hxm) (strm_mono hJ.base.sb.mkk.st (by rw [hbi]; exact Nat.le_refl _)) (by omega)
        have HC := Lib.hid C
        clear C
        clear hJ
        simp only [setAll, List.foldl, h8]
        go_simp
        refine HC.out.mono ?_
        rintro e w' ⟨x', rfl, hT, hF, hsz, k', st⟩
        exact HK.out _ _ ⟨upd (upd u 32 x.agg) 33 x'.agg, by unfold Cn.agg; kernel_rfl, by
          rw [upd_same h8]
          exact ⟨HJ.out.base.draw k' (strm_mono st (show K + 2 + 3 * d + 20 ≤ K + 2 + (3 * d + 20) by omega)), fun e => HJ.out.p1 e, fun e => HJ.out.p5 e, fun e => HJ.out.p7 e, fun e => HJ.out.p8 e, fun _ => ⟨x', rfl, hT, fun gg hg => hF gg (HJ.out.base.near hg), hsz⟩⟩⟩
        --@end
    case he4 =>
      --@kh
      intro b u wx hb hJ
      obtain ⟨x', h9, hT, hF, hsz⟩ := hJ.p9 (hb 9 (by simp))
      have h1 := hJ.p1 (hb 1 (by simp))
      simp only [] at h1
      have HW := Lib.hid (hJ.base.mono (show K + 2 + cond (b 9) (3 * d + 20) 0 ≤ K + 2 + (3 * d + 20) by cases b 9 <;> simp only [cond] <;> omega))
      obtain ⟨u29', hu29⟩ : ∃ z, u 29 = z := ⟨_, rfl⟩
      obtain ⟨u31', hu31⟩ : ∃ z, u 31 = z := ⟨_, rfl⟩
      obtain ⟨u32', hu32⟩ : ∃ z, u 32 = z := ⟨_, rfl⟩
      simp only [setAll, List.foldl, h1, h9, hu29, hu31, hu32]
      clear h1 h9 hb hJ hu29 hu31 hu32
      refine wpAny_take (i := 10) (oi := ⟨some 34, _, _, _, _, _⟩) (v := (.pointer (some ⟨g, k * 9, none⟩))) rfl (by kernel_rfl) (by kernel_rfl) (by kernel_rfl) (fun _ _ _ h => h) (Or.inl ⟨by rfl, fun w => by go_simp⟩) ?_
      have hth : wx.there g (k * 9) x'.cells.length := own_thereC HW.out.own (k * 9) 9 (by omega)
      have hone : x'.cells.toArray.all (·.oneCell') = true := by simp [Cn.cells, Value.oneCell']
      refine wpAny_store_last (i := 11) (o := ⟨none, _, _, _, _, _⟩) 30 (.tmp 34) (.tmp 33) (by kernel_rfl) rfl rfl rfl g (k * 9) x'.cells (by kernel_rfl) (by kernel_rfl) hth sizeCond hone ?_
      clear hth hone
      have HS := Lib.hid (HW.out.set k hk (Nat.le_add_right d 20) hT (by rw [hx0]; exact hF))
      rw [Nat.mul_comm 9 k] at HS
      have hsl := szN_set (n := ⟨kind, name, field, sign, va, vc, vals, wa, wc9, whs, within, number, aa, ac⟩) (n' := ⟨kind, name, field, sign, va, vc, vals, wa, wc9, whs, within, number, (some ⟨g, 0, none⟩), cap⟩) (args := args) (k := k) (x' := x') HW.out.sb.tr.2.2.2.2.2 (Nat.le_add_right d 20)
      have hxl : szN d x ≤ szN (d + 1) (.mk ⟨kind, name, field, sign, va, vc, vals, wa, wc9, whs, within, number, aa, ac⟩ args) := by rw [← hx0]; exact szN_mem hk
      have hml := Nat.mul_le_mul_left (d + 1) hxl
      have hsm : (d + 1 + 1) * szN (d + 1) (.mk ⟨kind, name, field, sign, va, vc, vals, wa, wc9, whs, within, number, aa, ac⟩ args) = (d + 1) * szN (d + 1) (.mk ⟨kind, name, field, sign, va, vc, vals, wa, wc9, whs, within, number, aa, ac⟩ args) + szN (d + 1) (.mk ⟨kind, name, field, sign, va, vc, vals, wa, wc9, whs, within, number, aa, ac⟩ args) := Nat.succ_mul _ _
      have HMS : Hid (szN (d + 20 + 1) (.mk ⟨kind, name, field, sign, va, vc, vals, wa, wc9, whs, within, number, (some ⟨g, 0, none⟩), cap⟩ (args.set k x')) ≤ (d + 1 + 1) * szN (d + 1) (.mk ⟨kind, name, field, sign, va, vc, vals, wa, wc9, whs, within, number, aa, ac⟩ args) + 20) := Lib.hid (by omega)
      clear hsl hxl hml hsm hT hF hsz HW
      refine wpAny_done (by kernel_rfl) ?_ _
      generalize wx.setCells g (k * 9) x'.cells = wk at *
      have y0 := HS.out.bx.cell 0 (.int .i64 kind) rfl
      have y1 := HS.out.bx.cell 1 (.string name) rfl
      have y2 := HS.out.bx.cell 2 (.string field) rfl
      have y3 := HS.out.bx.cell 3 (.string sign) rfl
      have y4 := HS.out.bx.cell 4 (.slice va vals.length vc) rfl
      have y5 := HS.out.bx.cell 5 (.slice wa whs.length wc9) rfl
      have y6 := HS.out.bx.cell 6 (.int .i64 within) rfl
      have y7 := HS.out.bx.cell 7 (.int .i64 number) rfl
      have y8 := HS.out.bx.cell 8 (.slice (some ⟨g, 0, none⟩) args.length cap) (by simp [Cn.cells, Cn.nd, Cn.args])
      have yl := HS.out.bx.lt
      go_wp2_with (refine wpList_store_oc _ rfl _ _ _ rfl q4 _ [.int .i64 kind, .string name, .string field, .string sign, .slice va vals.length vc, .slice wa whs.length wc9, .int .i64 within, .int .i64 number, .slice (some ⟨g, 0, none⟩) args.length cap] _ rfl rfl HS.out.mkk.ob sizeCond rfl rfl ?_)
      intro wz oz kz
      have r0 := oz.cell 0 _ rfl
      have r1 := oz.cell 1 _ rfl
      have r2 := oz.cell 2 _ rfl
      have r3 := oz.cell 3 _ rfl
      have r4 := oz.cell 4 _ rfl
      have r5 := oz.cell 5 _ rfl
      have r6 := oz.cell 6 _ rfl
      have r7 := oz.cell 7 _ rfl
      have r8 := oz.cell 8 _ rfl
      have HOz := Lib.hid oz
      have HKz := Lib.hid kz
      clear oz kz y0 y1 y2 y3 y4 y5 y6 y7 y8 yl
      go_wp2_with fail
      refine bodyPost_ret (v := .agg #[.int .i64 kind, .string name, .string field, .string sign, .slice va vals.length vc, .slice wa whs.length wc9, .int .i64 within, .int .i64 number, .slice (some ⟨g, 0, none⟩) args.length cap]) (by simp [results, Tryz.results6, go_sem, r0, r1, r2, r3, r4, r5, r6, r7, r8]) rfl ?_
      have hcs : (Cn.mk ⟨kind, name, field, sign, va, vc, vals, wa, wc9, whs, within, number, (some ⟨g, 0, none⟩), cap⟩ (args.set k x')).cells = [.int .i64 kind, .string name, .string field, .string sign, .slice va vals.length vc, .slice wa whs.length wc9, .int .i64 within, .int .i64 number, .slice (some ⟨g, 0, none⟩) args.length cap] := by simp [Cn.cells, Cn.nd, Cn.args]
      have R := HS.out.gen (K' := K + 3 * (d + 1) + 20) (M := (d + 1 + 1) * szN (d + 1) (.mk ⟨kind, name, field, sign, va, vc, vals, wa, wc9, whs, within, number, aa, ac⟩ args) + 20) HKz.out (by rw [hcs]; exact HOz.out) (by omega) HMS.out
      rw [hcs, show d + 20 + 1 = d + 1 + 20 by omega] at R
      exact R
      --@end
  | false =>
    clear hpos
    go_wp2_with fail
    with_reducible refine (next_any S _ _ _ s1 (by omega) (by omega)).mono ?_
    rintro e wq ⟨z, ⟨hz0', hz1', -⟩, rfl, kk, s2⟩
    have hz2' := hz1' (by omega)
    have HA := Lib.hid (HB1.out.draw kk s2)
    clear kk s1 HB1 hz1'
    go_upto_block 0 with (fail)
    go_cut [] (fun wx => ∃ (d1 : Nat) (c1 : Cn), d1 ≤ d + 1 + 20 ∧ szN d1 c1 ≤ szN (d + 1) (.mk ⟨kind, name, field, sign, va, vc, vals, wa, wc9, whs, within, number, aa, ac⟩ args) + 20 ∧ Sb w S q3 q4 (d + 1) (.mk ⟨kind, name, field, sign, va, vc, vals, wa, wc9, whs, within, number, aa, ac⟩ args) d1 c1 (K + 10) wx)
    case first =>
      have hz : z = 0 ∨ z = 1 ∨ z = 2 ∨ z = 3 ∨ z = 4 ∨ z = 5 ∨ z = 6 ∨ z = 7 ∨ z = 8 := by omega
      clear hz0' hz2'
      rcases hz with rfl | rfl | rfl | rfl | rfl | rfl | rfl | rfl | rfl
      · --@c0
        go_wp2_with fail
        with_reducible refine (range_any S _ 0 15 _ s2 (by omega) (by omega) (by omega) (by omega)).mono ?_
        rintro e w3 ⟨r, ⟨hr0, hr1⟩, rfl, kk, s3⟩
        have HL := Lib.hid (HA.out.draw kk s3)
        clear kk HA s2
        have f1 := HL.out.bx.cell 0 (.int .i64 kind) rfl
        have f2 := HL.out.bx.free 0
        have f3 := HL.out.bx.lt
        go_wp2_with fail
        go_meet
        exact ⟨d + 1, .mk ⟨r, name, field, sign, va, vc, vals, wa, wc9, whs, within, number, aa, ac⟩ args, by omega, Nat.le_trans (Nat.le_of_eq szN_sc) (Nat.le_add_right _ _), (HL.out.scal (n' := ⟨r, name, field, sign, va, vc, vals, wa, wc9, whs, within, number, aa, ac⟩) 0 (.int .i64 r) ⟨rfl, rfl, rfl, rfl, rfl, rfl⟩ (⟨by unfold i64B; simp only; omega, hok.2.1, hok.2.2.1, hok.2.2.2.1, hok.2.2.2.2.1, hok.2.2.2.2.2.1, hok.2.2.2.2.2.2.1, hok.2.2.2.2.2.2.2.1, hok.2.2.2.2.2.2.2.2.1, hok.2.2.2.2.2.2.2.2.2⟩) rfl).mono (by omega)⟩
        --@end
      · --@c1
        obtain ⟨r40, h40, c40⟩ := rep_n 40 (by omega) (by omega)
        obtain ⟨r41, h41, c41⟩ := rep_n 41 (by omega) (by omega)
        have C40 := Lib.hid c40
        have C41 := Lib.hid c41
        clear c40 c41
        go_wp2_with fail
        with_reducible refine (C40.out _).mono ?_
        rintro e w3 ⟨rfl, hb⟩
        have HB := Lib.hid (HA.out.draw (grown_of_below hb _) (strm_below s2 hb))
        clear hb HA s2
        have s3 := HB.out.mkk.st
        go_wp2_with fail
        with_reducible refine (C41.out _).mono ?_
        rintro e w4 ⟨rfl, hb⟩
        have HC := Lib.hid (HB.out.draw (grown_of_below hb _) (strm_below s3 hb))
        clear hb HB s3
        have s4 := HC.out.mkk.st
        go_wp2_with fail
        with_reducible refine (one_at S _ [⟨#[]⟩, ⟨#[65, 103, 101]⟩, ⟨#[97, 110, 100]⟩, ⟨#[119, 105, 116, 104, 105, 110]⟩, r40, r41] 6 _ _ _ _ s4 (by omega) rfl (by omega) (by omega) (by simp) (by simp)).mono ?_
        rintro e w5 ⟨x, hm, rfl, kk, s5⟩
        have hx : x.size ≤ 1000 := by
          simp only [List.mem_cons, List.mem_nil_iff, or_false] at hm
          rcases hm with rfl | rfl | rfl | rfl | rfl | rfl
          · decide
          · decide
          · decide
          · decide
          · omega
          · omega
        clear hm
        have HL := Lib.hid (HC.out.draw kk s5)
        clear kk HC s4
        have f1 := HL.out.bx.cell 1 (.string name) rfl
        have f2 := HL.out.bx.free 1
        have f3 := HL.out.bx.lt
        go_wp2_with fail
        go_meet
        exact ⟨d + 1, .mk ⟨kind, x, field, sign, va, vc, vals, wa, wc9, whs, within, number, aa, ac⟩ args, by omega, Nat.le_trans (Nat.le_of_eq szN_sc) (Nat.le_add_right _ _), (HL.out.scal (n' := ⟨kind, x, field, sign, va, vc, vals, wa, wc9, whs, within, number, aa, ac⟩) 1 (.string x) ⟨rfl, rfl, rfl, rfl, rfl, rfl⟩ (⟨hok.1, hx, hok.2.2.1, hok.2.2.2.1, hok.2.2.2.2.1, hok.2.2.2.2.2.1, hok.2.2.2.2.2.2.1, hok.2.2.2.2.2.2.2.1, hok.2.2.2.2.2.2.2.2.1, hok.2.2.2.2.2.2.2.2.2⟩) rfl).mono (by omega)⟩
        --@end
      · --@c2
        go_wp2_with fail
        with_reducible refine (one_at S _ [⟨#[]⟩, ⟨#[120]⟩, ⟨#[110, 111]⟩] 3 _ _ _ _ s2 (by omega) rfl (by omega) (by omega) (by simp) (by simp)).mono ?_
        rintro e w3 ⟨x, hm, rfl, kk, s3⟩
        have hx : x.size ≤ 1000 := mem_size hm (by decide)
        clear hm
        have HL := Lib.hid (HA.out.draw kk s3)
        clear kk HA s2
        have f1 := HL.out.bx.cell 2 (.string field) rfl
        have f2 := HL.out.bx.free 2
        have f3 := HL.out.bx.lt
        go_wp2_with fail
        go_meet
        exact ⟨d + 1, .mk ⟨kind, name, x, sign, va, vc, vals, wa, wc9, whs, within, number, aa, ac⟩ args, by omega, Nat.le_trans (Nat.le_of_eq szN_sc) (Nat.le_add_right _ _), (HL.out.scal (n' := ⟨kind, name, x, sign, va, vc, vals, wa, wc9, whs, within, number, aa, ac⟩) 2 (.string x) ⟨rfl, rfl, rfl, rfl, rfl, rfl⟩ (⟨hok.1, hok.2.1, hx, hok.2.2.2.1, hok.2.2.2.2.1, hok.2.2.2.2.2.1, hok.2.2.2.2.2.2.1, hok.2.2.2.2.2.2.2.1, hok.2.2.2.2.2.2.2.2.1, hok.2.2.2.2.2.2.2.2.2⟩) rfl).mono (by omega)⟩
        --@end
      · --@c3
        go_wp2_with fail
        with_reducible refine (one_at S _ [⟨#[]⟩, ⟨#[61, 61]⟩, ⟨#[60]⟩] 3 _ _ _ _ s2 (by omega) rfl (by omega) (by omega) (by simp) (by simp)).mono ?_
        rintro e w3 ⟨x, hm, rfl, kk, s3⟩
        have hx : x.size ≤ 1000 := mem_size hm (by decide)
        clear hm
        have HL := Lib.hid (HA.out.draw kk s3)
        clear kk HA s2
        have f1 := HL.out.bx.cell 3 (.string sign) rfl
        have f2 := HL.out.bx.free 3
        have f3 := HL.out.bx.lt
        go_wp2_with fail
        go_meet
        exact ⟨d + 1, .mk ⟨kind, name, field, x, va, vc, vals, wa, wc9, whs, within, number, aa, ac⟩ args, by omega, Nat.le_trans (Nat.le_of_eq szN_sc) (Nat.le_add_right _ _), (HL.out.scal (n' := ⟨kind, name, field, x, va, vc, vals, wa, wc9, whs, within, number, aa, ac⟩) 3 (.string x) ⟨rfl, rfl, rfl, rfl, rfl, rfl⟩ (⟨hok.1, hok.2.1, hok.2.2.1, hx, hok.2.2.2.2.1, hok.2.2.2.2.2.1, hok.2.2.2.2.2.2.1, hok.2.2.2.2.2.2.2.1, hok.2.2.2.2.2.2.2.2.1, hok.2.2.2.2.2.2.2.2.2⟩) rfl).mono (by omega)⟩
        --@end
      · --@c4
        obtain ⟨i0, hi, hz0, hz1, hz2⟩ := info_parts infoValue
        have h1000 : vals.length ≤ 1000 := hok.2.2.2.2.1.2.2
        have y4 := HA.out.bx.cell 4 (.slice va vals.length vc) rfl
        have yl := HA.out.bx.lt
        have CL := Lib.hid (fun n hn => cloneVl_any va vals n vc wq hn (by omega) HA.out.tr.2.2.1)
        go_wp2_with fail
        with_reducible refine (CL.out _ rfl).mono ?_
        rintro e w3 ⟨v, rfl, own, hb⟩
        have HL3 := Lib.hid (HA.out.clone own hb)
        clear own hb CL HA s2 y4 yl
        have s3 := HL3.out.sb.mkk.st
        have hvl : vals.length ≤ 100 := HSM.out.1
        have HLEN := Lib.hid hvl
        go_wp2_with fail
        with_reducible refine (range_any S _ 0 5 _ s3 (by omega) (by omega) (by omega) (by omega)).mono ?_
        rintro e w4 ⟨r, ⟨hr0, hr1⟩, rfl, kk, s4⟩
        have HL4 := Lib.hid (HL3.out.draw kk s4)
        clear kk HL3 s3
        go_wp2_with fail
        with_reducible refine (one_at S _ [⟨#[]⟩, ⟨#[120]⟩] 2 _ _ _ _ s4 (by omega) rfl (by omega) (by omega) (by simp) (by simp)).mono ?_
        rintro e w5 ⟨x, hm, rfl, kk, s5⟩
        have hx : x.size ≤ 1000 := mem_size hm (by decide)
        clear hm
        have HL5 := Lib.hid (HL4.out.draw kk s5)
        clear kk HL4 s4
        go_wp2_with fail
        with_reducible refine (next_any S _ _ _ s5 (by omega) (by omega)).mono ?_
        rintro e w6 ⟨t, ⟨ht0, ht1, -⟩, rfl, kk, s6⟩
        have ht2 := ht1 (by omega)
        clear ht1
        have HL6 := Lib.hid (HL5.out.draw kk s6)
        clear kk HL5 s5
        have own5 := HL6.out.own
        have hbs5 := HL6.out.bs
        go_wp2_with (at_builtin; refine wpList_append_own _ rfl _ _ 26 rfl wq.heap.size 47 i0 _ 3 32 Tryz.underlying26 hi hz0 hz1 hz2 rfl (by decide) _ _ _ rfl (own5.alloc _) ⟨w6.heap.size, 0, none⟩ 1 1 [.int .i64 r, .string x, .int .i64 t] rfl rfl ?k1 ?k2 ?k3 ?k4 ?k5 ?_)
        case k1 => exact cells_new w6 #[.int .i64 r, .string x, .int .i64 t] 47
        case k2 => simp [Value.oneCell']
        case k3 => unfold maxLen; omega
        case k4 => omega
        case k5 => simp; omega
        intro v2 wy owny hgrowy hney
        obtain ⟨a2, cap2, rfl, f1, f2, f3, hS⟩ := (HL6.out.alloc _).vals (x := ⟨r, x, t⟩) ⟨by unfold i64B; simp only; omega, hx, by unfold i64B; simp only; omega⟩ HLEN.out owny hgrowy
        have HS := Lib.hid hS
        clear hS hney owny hgrowy own5 hbs5 HL6
        go_wp2_with fail
        go_meet
        exact ⟨d + 1, .mk ⟨kind, name, field, sign, a2, cap2, (vals ++ [⟨r, x, t⟩]), wa, wc9, whs, within, number, aa, ac⟩ args, by omega, Nat.le_trans (Nat.le_of_eq szN_sc) (Nat.le_add_right _ _), (HS.out.mono (by omega))⟩
        --@end
      · --@c5
        go_wp2_with fail
        with_reducible refine (pick_at S _ [-1, 4321440, 4321441, 5] 4 _ _ _ _ s2 (by omega) rfl (by omega) (by omega) (by simp) (by simp)).mono ?_
        rintro e w3 ⟨r, hm, rfl, kk, s3⟩
        have hr : -1 ≤ r ∧ r ≤ 4321441 := by
          simp only [List.mem_cons, List.mem_nil_iff, or_false] at hm
          omega
        clear hm
        have HL := Lib.hid (HA.out.draw kk s3)
        clear kk HA s2
        have f1 := HL.out.bx.cell 6 (.int .i64 within) rfl
        have f2 := HL.out.bx.free 6
        have f3 := HL.out.bx.lt
        go_wp2_with fail
        go_meet
        exact ⟨d + 1, .mk ⟨kind, name, field, sign, va, vc, vals, wa, wc9, whs, r, number, aa, ac⟩ args, by omega, Nat.le_trans (Nat.le_of_eq szN_sc) (Nat.le_add_right _ _), (HL.out.scal (n' := ⟨kind, name, field, sign, va, vc, vals, wa, wc9, whs, r, number, aa, ac⟩) 6 (.int .i64 r) ⟨rfl, rfl, rfl, rfl, rfl, rfl⟩ (⟨hok.1, hok.2.1, hok.2.2.1, hok.2.2.2.1, hok.2.2.2.2.1, hok.2.2.2.2.2.1, by unfold i64B; simp only; omega, hok.2.2.2.2.2.2.2.1, hok.2.2.2.2.2.2.2.2.1, hok.2.2.2.2.2.2.2.2.2⟩) rfl).mono (by omega)⟩
        --@end
      · --@c6
        go_wp2_with fail
        with_reducible refine (pick_at S _ [-1, 4321440, 4321441, 5000000000000000, 5000000000000001] 5 _ _ _ _ s2 (by omega) rfl (by omega) (by omega) (by simp) (by simp)).mono ?_
        rintro e w3 ⟨r, hm, rfl, kk, s3⟩
        have hr : -1 ≤ r ∧ r ≤ 5000000000000001 := by
          simp only [List.mem_cons, List.mem_nil_iff, or_false] at hm
          omega
        clear hm
        have HL := Lib.hid (HA.out.draw kk s3)
        clear kk HA s2
        have f1 := HL.out.bx.cell 7 (.int .i64 number) rfl
        have f2 := HL.out.bx.free 7
        have f3 := HL.out.bx.lt
        go_wp2_with fail
        go_meet
        exact ⟨d + 1, .mk ⟨kind, name, field, sign, va, vc, vals, wa, wc9, whs, within, r, aa, ac⟩ args, by omega, Nat.le_trans (Nat.le_of_eq szN_sc) (Nat.le_add_right _ _), (HL.out.scal (n' := ⟨kind, name, field, sign, va, vc, vals, wa, wc9, whs, within, r, aa, ac⟩) 7 (.int .i64 r) ⟨rfl, rfl, rfl, rfl, rfl, rfl⟩ (⟨hok.1, hok.2.1, hok.2.2.1, hok.2.2.2.1, hok.2.2.2.2.1, hok.2.2.2.2.2.1, hok.2.2.2.2.2.2.1, by unfold i64B; simp only; omega, hok.2.2.2.2.2.2.2.2.1, hok.2.2.2.2.2.2.2.2.2⟩) rfl).mono (by omega)⟩
        --@end
      · --@c7
        obtain ⟨i0, hi, hz0, hz1, hz2⟩ := info_parts infoWhere
        have h1000 : whs.length ≤ 1000 := hok.2.2.2.2.2.1.2.2
        have y5 := HA.out.bx.cell 5 (.slice wa whs.length wc9) rfl
        have yl := HA.out.bx.lt
        have CL := Lib.hid (fun n hn => cloneWh_any wa whs n wc9 wq hn (by omega) HA.out.tr.2.2.2.1)
        go_wp2_with fail
        with_reducible refine (CL.out _ rfl).mono ?_
        rintro e w3 ⟨v, rfl, own, hb⟩
        have HL3 := Lib.hid (HA.out.clone own hb)
        clear own hb CL HA s2 y5 yl
        have s3 := HL3.out.sb.mkk.st
        have hvl : whs.length ≤ 100 := HSM.out.2.1
        have HLEN := Lib.hid hvl
        go_wp2_with fail
        with_reducible refine (one_at S _ [⟨#[99, 101, 110, 116, 115]⟩, ⟨#[]⟩, ⟨#[105, 110]⟩] 3 _ _ _ _ s3 (by omega) rfl (by omega) (by omega) (by simp) (by simp)).mono ?_
        rintro e w4 ⟨x, hm, rfl, kk, s4⟩
        have hx : x.size ≤ 1000 := mem_size hm (by decide)
        clear hm
        have HL4 := Lib.hid (HL3.out.draw kk s4)
        clear kk HL3 s3
        go_wp2_with fail
        with_reducible refine (one_at S _ [⟨#[61]⟩, ⟨#[126]⟩] 2 _ _ _ _ s4 (by omega) rfl (by omega) (by omega) (by simp) (by simp)).mono ?_
        rintro e w5 ⟨sg, hm, rfl, kk, s5⟩
        have hsg : sg.size ≤ 1000 := mem_size hm (by decide)
        clear hm
        have HL5 := Lib.hid (HL4.out.draw kk s5)
        clear kk HL4 s4
        go_wp2_with fail
        with_reducible refine (range_any S _ 0 3 _ s5 (by omega) (by omega) (by omega) (by omega)).mono ?_
        rintro e w6 ⟨r, ⟨hr0, hr1⟩, rfl, kk, s6⟩
        have HL6 := Lib.hid (HL5.out.draw kk s6)
        clear kk HL5 s5
        have own5 := HL6.out.own
        have hbs5 := HL6.out.bs
        go_wp2_with (at_builtin; refine wpList_append_own _ rfl _ _ 27 rfl wq.heap.size 50 i0 _ 5 64 Tryz.underlying27 hi hz0 hz1 hz2 rfl (by decide) _ _ _ rfl (own5.alloc _) ⟨w6.heap.size, 0, none⟩ 1 1 [.string x, .string sg, .int .i64 r, .string ⟨#[]⟩, .int .i64 0] rfl rfl ?k1 ?k2 ?k3 ?k4 ?k5 ?_)
        case k1 => exact cells_new w6 #[.string x, .string sg, .int .i64 r, .string ⟨#[]⟩, .int .i64 0] 50
        case k2 => simp [Value.oneCell']
        case k3 => unfold maxLen; omega
        case k4 => omega
        case k5 => simp; omega
        intro v2 wy owny hgrowy hney
        obtain ⟨a2, cap2, rfl, f1, f2, f3, hS⟩ := (HL6.out.alloc _).whs (x := ⟨x, sg, ⟨r, ⟨#[]⟩, 0⟩⟩) ⟨hx, hsg, by unfold i64B; simp only; omega, (by decide : (⟨#[]⟩ : ByteArray).size ≤ 1000), by unfold i64B; simp only; omega⟩ HLEN.out owny hgrowy
        have HS := Lib.hid hS
        clear hS hney owny hgrowy own5 hbs5 HL6
        go_wp2_with fail
        go_meet
        exact ⟨d + 1, .mk ⟨kind, name, field, sign, va, vc, vals, a2, cap2, (whs ++ [⟨x, sg, ⟨r, ⟨#[]⟩, 0⟩⟩]), within, number, aa, ac⟩ args, by omega, Nat.le_trans (Nat.le_of_eq szN_sc) (Nat.le_add_right _ _), (HS.out.mono (by omega))⟩
        --@end
      · --@c8
        go_wp2_with fail
        with_reducible refine (pick_at S _ [1, 19, 20] 3 _ _ _ _ s2 (by omega) rfl (by omega) (by omega) (by simp) (by simp)).mono ?_
        rintro e w3 ⟨r, hm, rfl, kk, s3⟩
        have hr : 1 ≤ r ∧ r ≤ 20 := by
          simp only [List.mem_cons, List.mem_nil_iff, or_false] at hm
          omega
        clear hm
        have HL := Lib.hid (HA.out.draw kk s3)
        clear kk HA s2
        obtain ⟨m, rfl⟩ := Int.eq_ofNat_of_zero_le (show 0 ≤ r by omega)
        have hm20 : m ≤ 20 := by omega
        clear hr s3
        go_wp2_with fail
        go_loopw [41] (fun i wr => ∃ (k : Nat) (c1 : Cn), k ≤ m ∧ i = .int .i64 k ∧ szN (d + 1 + k) c1 ≤ szN (d + 1) (.mk ⟨kind, name, field, sign, va, vc, vals, wa, wc9, whs, within, number, aa, ac⟩ args) + k ∧ Sb w S q3 q4 (d + 1) (.mk ⟨kind, name, field, sign, va, vc, vals, wa, wc9, whs, within, number, aa, ac⟩ args) (d + 1 + k) c1 (K + 10) wr) (fun i _ => m - (intOf i).toNat)
        case atStart => exact ⟨0, (.mk ⟨kind, name, field, sign, va, vc, vals, wa, wc9, whs, within, number, aa, ac⟩ args), Nat.zero_le _, rfl, Nat.le_refl _, HL.out.mono (by omega)⟩
        case round =>
          obtain ⟨k, c1, hk, rfl, hsz, hS⟩ := hrel
          have HS := Lib.hid hS
          clear hS HL
          by_cases hlt : k < m
          · have hsl : szN (d + 1 + (k + 1)) (notC c1 wr.heap.size) ≤ szN (d + 1) (.mk ⟨kind, name, field, sign, va, vc, vals, wa, wc9, whs, within, number, aa, ac⟩ args) + (k + 1) := by
              rw [show d + 1 + (k + 1) = (d + 1 + k) + 1 from rfl, notC_szN]
              omega
            have HSZ := Lib.hid hsl
            clear hsl hsz
            have y0 := HS.out.bx.cell 0 (.int .i64 c1.nd.kind) rfl
            have y1 := HS.out.bx.cell 1 (.string c1.nd.name) rfl
            have y2 := HS.out.bx.cell 2 (.string c1.nd.field) rfl
            have y3 := HS.out.bx.cell 3 (.string c1.nd.sign) rfl
            have y4 := HS.out.bx.cell 4 (.slice c1.nd.va c1.nd.vals.length c1.nd.vc) rfl
            have y5 := HS.out.bx.cell 5 (.slice c1.nd.wa c1.nd.whs.length c1.nd.wc) rfl
            have y6 := HS.out.bx.cell 6 (.int .i64 c1.nd.within) rfl
            have y7 := HS.out.bx.cell 7 (.int .i64 c1.nd.number) rfl
            have y8 := HS.out.bx.cell 8 (.slice c1.nd.aa c1.args.length c1.nd.ac) rfl
            have yl := HS.out.bx.lt
            go_wp2_with (refine wpList_store_oc _ rfl _ _ _ rfl q3 _ [.int .i64 5, .string ⟨#[]⟩, .string ⟨#[]⟩, .string ⟨#[]⟩, .slice none 0 0, .slice none 0 0, .int .i64 0, .int .i64 0, .slice (some ⟨wr.heap.size, 0, none⟩) 1 1] _ rfl rfl (HS.out.bx.alloc _) sizeCond rfl rfl ?_)
            intro w9 o9 k9
            have HW := Lib.hid ((HS.out.alloc (.cells c1.cells.toArray 30)).wrap (OB.new wr c1.cells 30) HS.out.mkk.ob.lt o9 k9)
            clear o9 k9 y0 y1 y2 y3 y4 y5 y6 y7 y8 yl HS
            go_wp2_with fail
            go_roundw
            case rel => exact ⟨k + 1, _, by omega, by go_num, HSZ.out, HW.out⟩
            case measure => simp [intOf]; omega
          · obtain rfl : k = m := by omega
            go_wp2_with fail
            go_meet
            exact ⟨_, c1, by omega, by omega, HS.out⟩
        --@end
    case rest =>
    obtain ⟨d1, c1, hd1, hsz1, hS⟩ := hcut
    have HS := Lib.hid hS
    clear hS s2 HA hz0' hz2'
    have y0 := HS.out.bx.cell 0 (.int .i64 c1.nd.kind) rfl
    have y1 := HS.out.bx.cell 1 (.string c1.nd.name) rfl
    have y2 := HS.out.bx.cell 2 (.string c1.nd.field) rfl
    have y3 := HS.out.bx.cell 3 (.string c1.nd.sign) rfl
    have y4 := HS.out.bx.cell 4 (.slice c1.nd.va c1.nd.vals.length c1.nd.vc) rfl
    have y5 := HS.out.bx.cell 5 (.slice c1.nd.wa c1.nd.whs.length c1.nd.wc) rfl
    have y6 := HS.out.bx.cell 6 (.int .i64 c1.nd.within) rfl
    have y7 := HS.out.bx.cell 7 (.int .i64 c1.nd.number) rfl
    have y8 := HS.out.bx.cell 8 (.slice c1.nd.aa c1.args.length c1.nd.ac) rfl
    have yl := HS.out.bx.lt
    go_wp2_with (refine wpList_store_oc _ rfl _ _ _ rfl q4 _ [.int .i64 c1.nd.kind, .string c1.nd.name, .string c1.nd.field, .string c1.nd.sign, .slice c1.nd.va c1.nd.vals.length c1.nd.vc, .slice c1.nd.wa c1.nd.whs.length c1.nd.wc, .int .i64 c1.nd.within, .int .i64 c1.nd.number, .slice c1.nd.aa c1.args.length c1.nd.ac] _ rfl rfl HS.out.mkk.ob sizeCond rfl rfl ?_)
    intro wz oz kz
    have r0 := oz.cell 0 _ rfl
    have r1 := oz.cell 1 _ rfl
    have r2 := oz.cell 2 _ rfl
    have r3 := oz.cell 3 _ rfl
    have r4 := oz.cell 4 _ rfl
    have r5 := oz.cell 5 _ rfl
    have r6 := oz.cell 6 _ rfl
    have r7 := oz.cell 7 _ rfl
    have r8 := oz.cell 8 _ rfl
    have HOz := Lib.hid oz
    have HKz := Lib.hid kz
    clear oz kz y0 y1 y2 y3 y4 y5 y6 y7 y8 yl
    go_wp2_with fail
    refine bodyPost_ret (v := .agg #[.int .i64 c1.nd.kind, .string c1.nd.name, .string c1.nd.field, .string c1.nd.sign, .slice c1.nd.va c1.nd.vals.length c1.nd.vc, .slice c1.nd.wa c1.nd.whs.length c1.nd.wc, .int .i64 c1.nd.within, .int .i64 c1.nd.number, .slice c1.nd.aa c1.args.length c1.nd.ac]) (by simp [results, Tryz.results6, go_sem, r0, r1, r2, r3, r4, r5, r6, r7, r8]) rfl ?_
    exact (HS.out.up hd1).gen HKz.out HOz.out (by omega) (by rw [szN_mono HS.out.tr hd1]; have := HZL.out; omega)
theorem spoil_any (S : SC) : ∀ (d : Nat) (c : Cn) (K : Nat) (w : World), TAt d w c → FarT d c S.g → smT d c → Strm w S K → K + 3 * d ≤ 100000 → Calls Tryz.prog 6 #[S.p, c.agg] w (GenSp S (K + 3 * d + 20) w d c (d + 20) ((d + 1) * szN d c + 20))
  | 0, _, _, _, h, _, _, _, _ => h.elim
  | d + 1, .mk ⟨kind, name, field, sign, va, vc, vals, wa, wc, whs, within, number, aa, ac⟩ args, K, w, h1, h2, h3, h4, h5 =>
    spoil_succ S d (fun c K w => spoil_any S d c K w) kind name field sign va vc vals wa wc whs within number aa ac args K w h1 h2 h3 h4 h5
end Go.Proofs.YtdiioecpponnmaaGreatDoor
