/- What a condition costs: segment.cost, segment.Cost, handref1.CostOf (printed by gen_cost.py). -/
import Derived.Test.YtfdpfkdfglombaaGreatDoorCnNm
import Derived.Deep.Cut
import Derived.Deep.CutBlock
import Derived.Deep.DeepCutAuto
import Derived.Test.YtfdpfkdfglombaaGreatDoorCnO
import Derived.Test.YtfdpfkdfglombaaGreatDoorCompare
import Derived.Test.YtfdpfkdfglombaaGreatDoorCkRf
import Derived.Test.YtfdpfkdfglombaaGreatDoorShelf
import Derived.Deep.RegionHeld3
import Derived.StillTailTactics
import Derived.Deep.QuietTactic
import Derived.Shelf.SlSortCmp.InsertionK
import Derived.Test.YtfdpfkdfglombaaGreatDoorSgL
import Derived.Laws.EntriesVeiled
set_option linter.unusedVariables false
namespace Go.Proofs.YtfdpfkdfglombaaGreatDoor
open Go.RowKit Go.Sort

/-- only new blocks, and draws -/
def Gw (w w' : World) : Prop := ∃ n os, w' = grow (w.drewN n) os
theorem Gw.refl (w : World) : Gw w w := ⟨0, #[], by rw [World.drewN_zero]; unfold grow; simp⟩
theorem Gw.trans {a b c : World} (h : Gw a b) (h' : Gw b c) : Gw a c := by
  obtain ⟨n, os, rfl⟩ := h
  obtain ⟨m, os', rfl⟩ := h'
  refine ⟨n + m, os ++ os', ?_⟩
  show grow (grow ((a.drewN n).drewN m) os) os' = _
  rw [grow_grow, World.drewN_drewN]
theorem Gw.alloc {a b : World} (h : Gw a b) (o : Obj) : Gw a (b.alloc o) := h.trans ⟨0, #[o], by rw [World.drewN_zero, alloc_eq_grow]⟩
theorem Gw.drew {a b : World} (h : Gw a b) : Gw a b.drew := h.trans ⟨1, #[], by unfold grow; simp; rfl⟩
theorem Gw.below {a b : World} (h : Gw a b) : Below a.heap.size a b := by
  obtain ⟨n, os, rfl⟩ := h
  refine ⟨rfl, rfl, rfl, ?_, fun k hk => ?_⟩
  · show a.heap.size ≤ (a.heap ++ os).size
    simp
  · show (a.heap ++ os)[k]? = _
    rw [Array.getElem?_append_left hk]
def GwO (w : World) (r : Int) (e : Ending) (w' : World) : Prop := e = .returned (.int .i64 r) ∧ Gw w w'
theorem isum_take (d : Nat) (f : Cn → Int) (l : List Cn) (M : Int) (h0 : 0 ≤ M) (h : ∀ x ∈ l, 0 ≤ f x ∧ f x ≤ M) : ∀ j, j ≤ l.length → 0 ≤ ((l.take j).map f).sum ∧ ((l.take j).map f).sum ≤ M * j
  | 0, _ => by simp
  | j + 1, hj => by
    have ih := isum_take d f l M h0 h j (by omega)
    have hx := h l[j] (List.getElem_mem (by omega))
    rw [List.take_succ_eq_append_getElem (by omega), List.map_append, List.sum_append, Int.natCast_add, Int.mul_add]
    simp only [List.map_cons, List.map_nil, List.sum_cons, List.sum_nil]
    omega
theorem isum_succ (f : Cn → Int) (l : List Cn) (j : Nat) (h : j < l.length) : ((l.take (j + 1)).map f).sum = ((l.take j).map f).sum + f l[j] := by
  rw [List.take_succ_eq_append_getElem h, List.map_append, List.sum_append]
  simp
theorem szN_le {d : Nat} {l : List Cn} {x : Cn} (h : x ∈ l) : szN d x ≤ (l.map (szN d)).sum := by
  induction l with
  | nil => cases h
  | cons y r ih =>
    rw [List.map_cons, List.sum_cons]
    rcases List.mem_cons.1 h with rfl | h
    · omega
    · have := ih h; omega
set_option maxRecDepth 100000 in
set_option maxHeartbeats 4000000 in
theorem cost_any : ∀ (d : Nat) (c : Cn) (w : World), TAt d w c → szN d c ≤ 300 → Calls Tryz.prog 57 #[c.agg] w (GwO w (csP d c))
  | 0, _, _, h, _ => h.elim
  | d + 1, c, w, ⟨hok, ⟨ha1, ha2, ha3'⟩, hV, hW, hA, hC⟩, hs => by
    have ha3 := wdM_le ha3'
    have hz : szN (d + 1) c = 1 + (c.args.map (szN d)).sum := rfl
    have hsx : ∀ x ∈ c.args, szN d x ≤ 300 := fun x hx => by have := szN_le (d := d) hx; omega
    have HI := Lib.hid (fun c w => cost_any d c w)
    have HBD := Lib.hid (fun j (hj : j ≤ c.args.length) => isum_take d (csP d) c.args 330000 (by omega) (fun x hx => by have h1 := csP_bd d x (hC x hx); have h2 := hsx x hx; omega) j hj)
    have HBX := Lib.hid (fun x (hx : x ∈ c.args) => (show 0 ≤ csP d x ∧ csP d x ≤ 330000 by have h1 := csP_bd d x (hC x hx); have h2 := hsx x hx; omega))
    have HSU := Lib.hid (fun j (hj : j < c.args.length) => isum_succ (csP d) c.args j hj)
    have HSX := Lib.hid hsx
    have HA := Lib.hid hA
    have HC := Lib.hid hC
    have hnv := hok.2.2.2.2.1.2.2
    have hnw := hok.2.2.2.2.2.1.2.2
    have HR : Hid (csP (d + 1) c = if 6 ≤ c.nd.kind ∧ c.nd.kind ≤ 14 then csN c.nd else (c.args.map (csP d)).sum) := Lib.hid rfl
    have q6 : c.nd.kind = 6 → csP (d + 1) c = 1 := fun h => by rw [HR.out, if_pos (by omega)]; unfold csN; simp [h]
    have q7 : c.nd.kind = 7 → csP (d + 1) c = 2 := fun h => by rw [HR.out, if_pos (by omega)]; unfold csN; simp [h]
    have q9 : c.nd.kind = 9 → csP (d + 1) c = 2 := fun h => by rw [HR.out, if_pos (by omega)]; unfold csN; simp [h]
    have q8 : c.nd.kind = 8 → csP (d + 1) c = 2 + (c.nd.vals.length : Int) := fun h => by rw [HR.out, if_pos (by omega)]; unfold csN; simp [h]
    have q10 : c.nd.kind = 10 → csP (d + 1) c = 5 := fun h => by rw [HR.out, if_pos (by omega)]; unfold csN; simp [h]
    have q13 : c.nd.kind = 13 → csP (d + 1) c = 10 + (c.nd.whs.length : Int) := fun h => by rw [HR.out, if_pos (by omega)]; unfold csN; simp [h]
    have q11 : c.nd.kind = 11 → csP (d + 1) c = 20 + (c.nd.whs.length : Int) := fun h => by rw [HR.out, if_pos (by omega)]; unfold csN; simp [h]
    have q12 : c.nd.kind = 12 → csP (d + 1) c = 25 + (c.nd.whs.length : Int) := fun h => by rw [HR.out, if_pos (by omega)]; unfold csN; simp [h]
    have q14 : c.nd.kind = 14 → csP (d + 1) c = 60 := fun h => by rw [HR.out, if_pos (by omega)]; unfold csN; simp [h]
    have q0 : ¬ c.nd.kind = 6 → ¬ c.nd.kind = 7 → ¬ c.nd.kind = 9 → ¬ c.nd.kind = 8 → ¬ c.nd.kind = 10 → ¬ c.nd.kind = 13 → ¬ c.nd.kind = 11 → ¬ c.nd.kind = 12 → ¬ c.nd.kind = 14 → csP (d + 1) c = (c.args.map (csP d)).sum := fun a b c d e f g h i => by rw [HR.out, if_neg (by omega)]
    obtain ⟨R, hR⟩ : ∃ z, csP (d + 1) c = z := ⟨_, rfl⟩
    rw [hR] at q6 q7 q9 q8 q10 q13 q11 q12 q14 q0 ⊢
    have Q6 := Lib.hid q6
    have Q7 := Lib.hid q7
    have Q9 := Lib.hid q9
    have Q8 := Lib.hid q8
    have Q10 := Lib.hid q10
    have Q13 := Lib.hid q13
    have Q11 := Lib.hid q11
    have Q12 := Lib.hid q12
    have Q14 := Lib.hid q14
    have Q0 := Lib.hid q0
    clear HR hR hz hok hs hV hW hA hC hsx ha1 ha2 ha3' q6 q7 q9 q8 q10 q13 q11 q12 q14 q0
    unfold Cn.agg
    obtain ⟨nd, args⟩ := c
    obtain ⟨kind, name, field, sign, va, vc, vals, wa, wcp, whs, within, number, aa, ac⟩ := nd
    simp only [Cn.nd, Cn.args] at *
    obtain ⟨nv, hv⟩ : ∃ z, vals.length = z := ⟨_, rfl⟩
    obtain ⟨nw, hw⟩ : ∃ z, whs.length = z := ⟨_, rfl⟩
    obtain ⟨na, hna⟩ : ∃ z, args.length = z := ⟨_, rfl⟩
    rw [hv] at hnv
    rw [hw] at hnw
    rw [hna] at ha3
    rw [hv, hw, hna]
    rw [hv] at Q8
    rw [hw] at Q13 Q11 Q12
    have HNA := Lib.hid hna
    clear hv hw hna
    have HX := Lib.hid (XB.new w [.int .i64 kind, .string name, .string field, .string sign, .slice va nv vc, .slice wa nw wcp, .int .i64 within, .int .i64 number, .slice aa na ac] 30)
    have x8 := HX.out.2 8 _ rfl
    have xl := HX.out.1
    simp only [List.toArray] at x8 xl
    go_enter Tryz.func57, Tryz.ntmps57
    go_wp2_with fail
    clear x8 xl
    have HG0 := Lib.hid ((Gw.refl w).alloc (.cells #[.int .i64 kind, .string name, .string field, .string sign, .slice va nv vc, .slice wa nw wcp, .int .i64 within, .int .i64 number, .slice aa na ac] 30))
    have HA1 := Lib.hid (HA.out.below HG0.out.below)
    have HC1 := Lib.hid (fun x hx => (HC.out x hx).below HG0.out.below)
    clear HA HC
    generalize w.alloc (.cells #[.int .i64 kind, .string name, .string field, .string sign, .slice va nv vc, .slice wa nw wcp, .int .i64 within, .int .i64 number, .slice aa na ac] 30) = w1 at *
    go_loopw [3, 9] (fun s i wr => ∃ (j : Nat), j ≤ na ∧ i = .int .i64 j ∧ s = .int .i64 (((args.take j).map (csP d)).sum) ∧ Gw w1 wr) (fun _ i _ => na - (intOf i).toNat)
    case atStart => exact ⟨0, Nat.zero_le _, rfl, by simp, Gw.refl _⟩
    case round =>
      obtain ⟨j, hj, rfl, rfl, hG⟩ := hrel
      have HG := Lib.hid hG
      clear hG
      by_cases hlt : j < na
      · have hjl : j < args.length := by have := HNA.out; omega
        have hm := List.getElem_mem hjl
        obtain ⟨p, off, rfl, hp, c0, c1, c2, c3, c4, c5, c6, c7, c8⟩ := (HA1.out.below HG.out.below).at9c hjl
        have HD := Lib.hid (HSU.out j hjl)
        have hb1 := HBD.out j (by omega)
        have hb2 := HBX.out _ hm
        have HTx := Lib.hid ((HC1.out _ hm).below HG.out.below)
        
        have C1 := Lib.hid (fun w h => HI.out (args[j]'hjl) w h (by have := HSX.out _ hm; omega))
        obtain ⟨S, hS⟩ : ∃ z, ((args.take j).map (csP d)).sum = z := ⟨_, rfl⟩
        obtain ⟨r, hr⟩ : ∃ z, csP d args[j] = z := ⟨_, rfl⟩
        rw [hS] at hb1 HD ⊢
        rw [hr] at hb2 HD C1
        clear hS hr
        have e1 : IntKind.i64.wrap (S + r) = S + r := IntWalk.i64_in _ (by omega)
        clear hb1 hb2 hm
        generalize args[j] = x at *
        obtain ⟨xn, xargs⟩ := x
        obtain ⟨xkind, xname, xfield, xsign, xva, xvc, xvals, xwa, xwc, xwhs, xwithin, xnumber, xaa, xac⟩ := xn
        unfold Cn.agg at C1
        simp only [Cn.nd, Cn.args] at *
        obtain ⟨xnv, hxnv⟩ : ∃ z, xvals.length = z := ⟨_, rfl⟩
        obtain ⟨xnw, hxnw⟩ : ∃ z, xwhs.length = z := ⟨_, rfl⟩
        obtain ⟨xna, hxna⟩ : ∃ z, xargs.length = z := ⟨_, rfl⟩
        rw [hxnv] at c4 C1
        rw [hxnw] at c5 C1
        rw [hxna] at c8 C1
        clear hxnv hxnw hxna
        have HTa := Lib.hid (HTx.out.alloc (.cells #[.int .i64 xkind, .string xname, .string xfield, .string xsign, .slice xva xnv xvc, .slice xwa xnw xwc, .int .i64 xwithin, .int .i64 xnumber, .slice xaa xna xac] 30))
        have HGa := Lib.hid (HG.out.alloc (.cells #[.int .i64 xkind, .string xname, .string xfield, .string xsign, .slice xva xnv xvc, .slice xwa xnw xwc, .int .i64 xwithin, .int .i64 xnumber, .slice xaa xna xac] 30))
        clear HTx HG
        go_wp2_with fail
        ((with_reducible refine (C1.out _ HTa.out).mono ?_); rintro e w5 ⟨rfl, g5⟩)
        have HG5 := Lib.hid (HGa.out.trans g5)
        clear g5 HTa HGa c0 c1 c2 c3 c4 c5 c6 c7 c8 hp C1
        go_wp2_with fail
        go_roundw
        case rel => exact ⟨j + 1, by omega, by go_num, by rw [HD.out], HG5.out⟩
        case measure => simp [intOf]; omega
      · have e1 : args.take j = args := List.take_of_length_le (by have := HNA.out; omega)
        rw [e1]
        clear e1 HBD HBX HSU HSX HI
        have HXr := Lib.hid (HX.out.below HG.out.below)
        have HGG := Lib.hid (HG0.out.trans HG.out)
        have x0 := HXr.out.2 0 _ rfl
        have x4 := HXr.out.2 4 _ rfl
        have x5 := HXr.out.2 5 _ rfl
        have xl := HXr.out.1
        clear HA1 HC1 HG HG0 HX HXr HNA
        by_cases h6 : kind = 6
        · have e6 : (kind == 6) = true := by simpa using h6
          have hR := Q6.out h6
          subst hR
          clear Q6 Q7 Q9 Q8 Q10 Q13 Q11 Q12 Q14 Q0 h6
          go_wp2_with fail
          go_ret
          exact ⟨rfl, HGG.out⟩
        · have e6 : (kind == 6) = false := by simpa using h6
          by_cases h7 : kind = 7
          · have e7 : (kind == 7) = true := by simpa using h7
            have hR := Q7.out h7
            subst hR
            clear Q6 Q7 Q9 Q8 Q10 Q13 Q11 Q12 Q14 Q0 h7
            go_wp2_with fail
            go_ret
            exact ⟨rfl, HGG.out⟩
          · have e7 : (kind == 7) = false := by simpa using h7
            by_cases h9 : kind = 9
            · have e9 : (kind == 9) = true := by simpa using h9
              have hR := Q9.out h9
              subst hR
              clear Q6 Q7 Q9 Q8 Q10 Q13 Q11 Q12 Q14 Q0 h9
              go_wp2_with fail
              go_ret
              exact ⟨rfl, HGG.out⟩
            · have e9 : (kind == 9) = false := by simpa using h9
              by_cases h8 : kind = 8
              · have e8 : (kind == 8) = true := by simpa using h8
                have hR := Q8.out h8
                have ew : IntKind.i64.wrap (2 + (nv : Int)) = 2 + (nv : Int) := IntWalk.i64_in _ (by omega)
                subst hR
                clear Q6 Q7 Q9 Q8 Q10 Q13 Q11 Q12 Q14 Q0 h8
                go_wp2_with fail
                go_ret
                exact ⟨rfl, HGG.out⟩
              · have e8 : (kind == 8) = false := by simpa using h8
                by_cases h10 : kind = 10
                · have e10 : (kind == 10) = true := by simpa using h10
                  have hR := Q10.out h10
                  subst hR
                  clear Q6 Q7 Q9 Q8 Q10 Q13 Q11 Q12 Q14 Q0 h10
                  go_wp2_with fail
                  go_ret
                  exact ⟨rfl, HGG.out⟩
                · have e10 : (kind == 10) = false := by simpa using h10
                  by_cases h13 : kind = 13
                  · have e13 : (kind == 13) = true := by simpa using h13
                    have hR := Q13.out h13
                    have ew : IntKind.i64.wrap (10 + (nw : Int)) = 10 + (nw : Int) := IntWalk.i64_in _ (by omega)
                    subst hR
                    clear Q6 Q7 Q9 Q8 Q10 Q13 Q11 Q12 Q14 Q0 h13
                    go_wp2_with fail
                    go_ret
                    exact ⟨rfl, HGG.out⟩
                  · have e13 : (kind == 13) = false := by simpa using h13
                    by_cases h11 : kind = 11
                    · have e11 : (kind == 11) = true := by simpa using h11
                      have hR := Q11.out h11
                      have ew : IntKind.i64.wrap (20 + (nw : Int)) = 20 + (nw : Int) := IntWalk.i64_in _ (by omega)
                      subst hR
                      clear Q6 Q7 Q9 Q8 Q10 Q13 Q11 Q12 Q14 Q0 h11
                      go_wp2_with fail
                      go_ret
                      exact ⟨rfl, HGG.out⟩
                    · have e11 : (kind == 11) = false := by simpa using h11
                      by_cases h12 : kind = 12
                      · have e12 : (kind == 12) = true := by simpa using h12
                        have hR := Q12.out h12
                        have ew : IntKind.i64.wrap (25 + (nw : Int)) = 25 + (nw : Int) := IntWalk.i64_in _ (by omega)
                        subst hR
                        clear Q6 Q7 Q9 Q8 Q10 Q13 Q11 Q12 Q14 Q0 h12
                        go_wp2_with fail
                        go_ret
                        exact ⟨rfl, HGG.out⟩
                      · have e12 : (kind == 12) = false := by simpa using h12
                        by_cases h14 : kind = 14
                        · have e14 : (kind == 14) = true := by simpa using h14
                          have hR := Q14.out h14
                          subst hR
                          clear Q6 Q7 Q9 Q8 Q10 Q13 Q11 Q12 Q14 Q0 h14
                          go_wp2_with fail
                          go_ret
                          exact ⟨rfl, HGG.out⟩
                        · have e14 : (kind == 14) = false := by simpa using h14
                          have hR := Q0.out h6 h7 h9 h8 h10 h13 h11 h12 h14
                          subst hR
                          clear Q6 Q7 Q9 Q8 Q10 Q13 Q11 Q12 Q14 Q0 h6 h7 h9 h8 h10 h13 h11 h12 h14
                          go_wp2_with fail
                          go_ret
                          exact ⟨rfl, HGG.out⟩
set_option maxRecDepth 100000 in
set_option maxHeartbeats 4000000 in
theorem Cost_any (d : Nat) (c : Cn) (w : World) (hT : TAt d w c) (hB : Tbs w) :
    Calls Tryz.prog 17 #[c.agg] w fun e w' => e = .returned (.tuple #[.int .i64 (if cnE d c = 0 then csP d c else 0), .int .i64 (cnE d c)]) ∧ Below w.heap.size w w' := by
  have CC := Lib.hid (fun w h1 h2 => checkCond_any d c w h1 h2)
  have CW := Lib.hid (fun w (h : cnE d c = 0) h1 => cost_any d c w h1 (right_of h).2)
  have HT := Lib.hid hT
  have HB := Lib.hid hB
  obtain ⟨E, hE⟩ : ∃ z, cnE d c = z := ⟨_, rfl⟩
  obtain ⟨M, hM⟩ : ∃ z, csP d c = z := ⟨_, rfl⟩
  rw [hE] at CC CW ⊢
  rw [hM] at CW ⊢
  obtain ⟨R, hR⟩ : ∃ z, (if E = 0 then M else 0) = z := ⟨_, rfl⟩
  have HR := Lib.hid hR
  rw [hR]
  clear hE hM hR hT hB
  unfold Cn.agg at *
  obtain ⟨nd, args⟩ := c
  obtain ⟨kind, name, field, sign, va, vc, vals, wa, wcp, whs, within, number, aa, ac⟩ := nd
  simp only [Cn.nd, Cn.args] at *
  obtain ⟨nv, hnv⟩ : ∃ z, vals.length = z := ⟨_, rfl⟩
  obtain ⟨nw, hnw⟩ : ∃ z, whs.length = z := ⟨_, rfl⟩
  obtain ⟨na, hna⟩ : ∃ z, args.length = z := ⟨_, rfl⟩
  rw [hnv, hnw, hna] at CC CW ⊢
  clear hnv hnw hna
  have HX := Lib.hid (XB.new w [.int .i64 kind, .string name, .string field, .string sign, .slice va nv vc, .slice wa nw wcp, .int .i64 within, .int .i64 number, .slice aa na ac] 30)
  have HB1 := Lib.hid ((Below.refl w.heap.size w).alloc (Nat.le_refl _) (.cells #[.int .i64 kind, .string name, .string field, .string sign, .slice va nv vc, .slice wa nw wcp, .int .i64 within, .int .i64 number, .slice aa na ac] 30))
  have HTb := Lib.hid (HB.out.alloc (.cells #[.int .i64 kind, .string name, .string field, .string sign, .slice va nv vc, .slice wa nw wcp, .int .i64 within, .int .i64 number, .slice aa na ac] 30))
  have HTa := Lib.hid (HT.out.alloc (.cells #[.int .i64 kind, .string name, .string field, .string sign, .slice va nv vc, .slice wa nw wcp, .int .i64 within, .int .i64 number, .slice aa na ac] 30))
  clear HB HT
  go_enter Tryz.func17, Tryz.ntmps17
  go_wp2_with fail
  ((with_reducible refine (CC.out _ HTa.out HTb.out).mono ?_); rintro e w1 ⟨rfl, hb1⟩)
  have HX1 := Lib.hid (HX.out.below hb1)
  have HT1 := Lib.hid (HTa.out.below hb1)
  have HBw := Lib.hid (HB1.out.trans (hb1.mono HB1.out.size))
  clear hb1 HX HTa HTb HB1 CC
  by_cases h0 : E = 0
  · subst h0
    obtain rfl : M = R := HR.out
    have C := Lib.hid (fun w h => CW.out w rfl h)
    clear CW HR
    have y0 := HX1.out.2 0 _ rfl
    have y1 := HX1.out.2 1 _ rfl
    have y2 := HX1.out.2 2 _ rfl
    have y3 := HX1.out.2 3 _ rfl
    have y4 := HX1.out.2 4 _ rfl
    have y5 := HX1.out.2 5 _ rfl
    have y6 := HX1.out.2 6 _ rfl
    have y7 := HX1.out.2 7 _ rfl
    have y8 := HX1.out.2 8 _ rfl
    have yl := HX1.out.1
    go_wp2_with fail
    ((with_reducible refine (C.out _ HT1.out).mono ?_); rintro e w3 ⟨rfl, g3⟩)
    have HB3 := Lib.hid (HBw.out.trans (g3.below.mono HBw.out.size))
    clear g3 C HT1 HBw HX1
    go_wp2_with fail
    go_ret2
    exact ⟨rfl, HB3.out⟩
  · have h4 : (E != 0) = true := by simpa using h0
    obtain rfl : 0 = R := by have h := HR.out; rw [if_neg h0] at h; exact h
    clear h0 HR CW
    go_wp2_with fail
    go_ret2
    exact ⟨rfl, HBw.out⟩
set_option maxRecDepth 100000 in
set_option maxHeartbeats 8000000 in
theorem CostOf_any : ∀ (d : Nat) (c : Cn) (w : World), TAt d w c → szN d c ≤ 300 → Fm d c → Calls Tryz.prog 22 #[c.agg] w (GwO w (csR d c))
  | 0, _, _, h, _, _ => h.elim
  | d + 1, c, w, ⟨hok, ⟨ha1, ha2, ha3'⟩, hV, hW, hA, hC⟩, hs, ⟨hk, hf2, hf3, hf4⟩ => by
    have ha3 := wdM_le ha3'
    have hz : szN (d + 1) c = 1 + (c.args.map (szN d)).sum := rfl
    have hsx : ∀ x ∈ c.args, szN d x ≤ 300 := fun x hx => by have := szN_le (d := d) hx; omega
    have HI := Lib.hid (fun c w => CostOf_any d c w)
    have HBD := Lib.hid (fun j (hj : j ≤ c.args.length) => isum_take d (csR d) c.args 330000 (by omega) (fun x hx => by have h1 := csR_bd d x (hC x hx); have h2 := hsx x hx; omega) j hj)
    have HBX := Lib.hid (fun x (hx : x ∈ c.args) => (show 0 ≤ csR d x ∧ csR d x ≤ 330000 by have h1 := csR_bd d x (hC x hx); have h2 := hsx x hx; omega))
    have HSU := Lib.hid (fun j (hj : j < c.args.length) => isum_succ (csR d) c.args j hj)
    have HSX := Lib.hid hsx
    have HA := Lib.hid hA
    have HC := Lib.hid hC
    have hnv := hok.2.2.2.2.1.2.2
    have hnw := hok.2.2.2.2.2.1.2.2
    have HF := Lib.hid hf4
    have HR : csR (d + 1) c = csN c.nd + (c.args.map (csR d)).sum := rfl
    have hcb := csN_bd c.nd hnv hnw
    have q1 : c.nd.kind = 1 → csN c.nd = 0 := fun h => by unfold csN; simp [h]
    have q2 : c.nd.kind = 2 → csN c.nd = 0 := fun h => by unfold csN; simp [h]
    have q3 : c.nd.kind = 3 → csN c.nd = 0 := fun h => by unfold csN; simp [h]
    have q4 : c.nd.kind = 4 → csN c.nd = 0 := fun h => by unfold csN; simp [h]
    have q5 : c.nd.kind = 5 → csN c.nd = 0 := fun h => by unfold csN; simp [h]
    have q6 : c.nd.kind = 6 → csN c.nd = 1 := fun h => by unfold csN; simp [h]
    have q7 : c.nd.kind = 7 → csN c.nd = 2 := fun h => by unfold csN; simp [h]
    have q8 : c.nd.kind = 8 → csN c.nd = 2 + (c.nd.vals.length : Int) := fun h => by unfold csN; simp [h]
    have q9 : c.nd.kind = 9 → csN c.nd = 2 := fun h => by unfold csN; simp [h]
    have q10 : c.nd.kind = 10 → csN c.nd = 5 := fun h => by unfold csN; simp [h]
    have q11 : c.nd.kind = 11 → csN c.nd = 20 + (c.nd.whs.length : Int) := fun h => by unfold csN; simp [h]
    have q12 : c.nd.kind = 12 → csN c.nd = 25 + (c.nd.whs.length : Int) := fun h => by unfold csN; simp [h]
    have q13 : c.nd.kind = 13 → csN c.nd = 10 + (c.nd.whs.length : Int) := fun h => by unfold csN; simp [h]
    have q14 : c.nd.kind = 14 → csN c.nd = 60 := fun h => by unfold csN; simp [h]
    obtain ⟨N, hN⟩ : ∃ z, csN c.nd = z := ⟨_, rfl⟩
    rw [hN] at q1 q2 q3 q4 q5 q6 q7 q8 q9 q10 q11 q12 q13 q14 HR hcb
    rw [HR]
    have Q1 := Lib.hid q1
    have Q2 := Lib.hid q2
    have Q3 := Lib.hid q3
    have Q4 := Lib.hid q4
    have Q5 := Lib.hid q5
    have Q6 := Lib.hid q6
    have Q7 := Lib.hid q7
    have Q8 := Lib.hid q8
    have Q9 := Lib.hid q9
    have Q10 := Lib.hid q10
    have Q11 := Lib.hid q11
    have Q12 := Lib.hid q12
    have Q13 := Lib.hid q13
    have Q14 := Lib.hid q14
    clear HR hN hz hok hs hV hW hA hC hsx ha1 ha2 ha3' hf2 hf3 hf4 q1 q2 q3 q4 q5 q6 q7 q8 q9 q10 q11 q12 q13 q14
    unfold Cn.agg
    obtain ⟨nd, args⟩ := c
    obtain ⟨kind, name, field, sign, va, vc, vals, wa, wcp, whs, within, number, aa, ac⟩ := nd
    simp only [Cn.nd, Cn.args] at *
    obtain ⟨nv, hv⟩ : ∃ z, vals.length = z := ⟨_, rfl⟩
    obtain ⟨nw, hw⟩ : ∃ z, whs.length = z := ⟨_, rfl⟩
    obtain ⟨na, hna⟩ : ∃ z, args.length = z := ⟨_, rfl⟩
    rw [hv] at hnv
    rw [hw] at hnw
    rw [hna] at ha3
    rw [hv, hw, hna]
    obtain ⟨SS, hSS⟩ : ∃ z, (args.map (csR d)).sum = z := ⟨_, rfl⟩
    have HSS := Lib.hid hSS
    rw [hSS]
    rw [hv] at Q8
    rw [hw] at Q13 Q11 Q12
    have HNA := Lib.hid hna
    clear hv hw hna hSS
    have HX := Lib.hid (XB.new w [.int .i64 kind, .string name, .string field, .string sign, .slice va nv vc, .slice wa nw wcp, .int .i64 within, .int .i64 number, .slice aa na ac] 30)
    simp only [List.toArray] at HX
    go_enter Tryz.func22, Tryz.ntmps22
    go_upto_region 1 with (fail)
    have HG0 := Lib.hid ((Gw.refl w).alloc (.cells #[.int .i64 kind, .string name, .string field, .string sign, .slice va nv vc, .slice wa nw wcp, .int .i64 within, .int .i64 number, .slice aa na ac] 30))
    have HA1 := Lib.hid (HA.out.below HG0.out.below)
    have HC1 := Lib.hid (fun x hx => (HC.out x hx).below HG0.out.below)
    clear HA HC
    generalize w.alloc (.cells #[.int .i64 kind, .string name, .string field, .string sign, .slice va nv vc, .slice wa nw wcp, .int .i64 within, .int .i64 number, .slice aa na ac] 30) = w1 at *
    go_cut [3] (fun v wx => v = .int .i64 N ∧ w1 = wx)
    case first =>
      have x0 := HX.out.2 0 _ rfl
      have x4 := HX.out.2 4 _ rfl
      have x5 := HX.out.2 5 _ rfl
      have xl := HX.out.1
      have w2 : IntKind.i64.wrap (2 + (nv : Int)) = 2 + (nv : Int) := IntWalk.i64_in _ (by omega)
      have w10 : IntKind.i64.wrap (10 + (nw : Int)) = 10 + (nw : Int) := IntWalk.i64_in _ (by omega)
      have w20 : IntKind.i64.wrap (20 + (nw : Int)) = 20 + (nw : Int) := IntWalk.i64_in _ (by omega)
      have w25 : IntKind.i64.wrap (25 + (nw : Int)) = 25 + (nw : Int) := IntWalk.i64_in _ (by omega)
      have hcs : kind = 1 ∨ kind = 2 ∨ kind = 3 ∨ kind = 4 ∨ kind = 5 ∨ kind = 6 ∨ kind = 7 ∨ kind = 8 ∨ kind = 9 ∨ kind = 10 ∨ kind = 11 ∨ kind = 12 ∨ kind = 13 ∨ kind = 14 := by omega
      have HQ := Lib.hid hcs
      clear HBD HBX HSU HSX HI HF HA1 HC1 HG0 HX hk hcs hcb
      rcases HQ.out with h | h | h | h | h | h | h | h | h | h | h | h | h | h
      · have e := Q1.out h
        subst e
        subst h
        clear Q1 Q2 Q3 Q4 Q5 Q6 Q7 Q8 Q9 Q10 Q11 Q12 Q13 Q14 HQ
        have i1 : ∀ wx, (Instr.index 89 (.agg #[.int .i64 0, .int .i64 0, .int .i64 0, .int .i64 0, .int .i64 0, .int .i64 0, .int .i64 1, .int .i64 2, .int .i64 (2 + (nv : Int)), .int .i64 2, .int .i64 5, .int .i64 (20 + (nw : Int)), .int .i64 (25 + (nw : Int)), .int .i64 (10 + (nw : Int)), .int .i64 60]) (.int .i64 1)).run Tryz.prog wx = .ok (.int .i64 (0)) wx := fun wx => by kernel_rfl
        go_wp2_with fail
        go_meet
        exact ⟨rfl, rfl⟩
      · have e := Q2.out h
        subst e
        subst h
        clear Q1 Q2 Q3 Q4 Q5 Q6 Q7 Q8 Q9 Q10 Q11 Q12 Q13 Q14 HQ
        have i1 : ∀ wx, (Instr.index 89 (.agg #[.int .i64 0, .int .i64 0, .int .i64 0, .int .i64 0, .int .i64 0, .int .i64 0, .int .i64 1, .int .i64 2, .int .i64 (2 + (nv : Int)), .int .i64 2, .int .i64 5, .int .i64 (20 + (nw : Int)), .int .i64 (25 + (nw : Int)), .int .i64 (10 + (nw : Int)), .int .i64 60]) (.int .i64 2)).run Tryz.prog wx = .ok (.int .i64 (0)) wx := fun wx => by kernel_rfl
        go_wp2_with fail
        go_meet
        exact ⟨rfl, rfl⟩
      · have e := Q3.out h
        subst e
        subst h
        clear Q1 Q2 Q3 Q4 Q5 Q6 Q7 Q8 Q9 Q10 Q11 Q12 Q13 Q14 HQ
        have i1 : ∀ wx, (Instr.index 89 (.agg #[.int .i64 0, .int .i64 0, .int .i64 0, .int .i64 0, .int .i64 0, .int .i64 0, .int .i64 1, .int .i64 2, .int .i64 (2 + (nv : Int)), .int .i64 2, .int .i64 5, .int .i64 (20 + (nw : Int)), .int .i64 (25 + (nw : Int)), .int .i64 (10 + (nw : Int)), .int .i64 60]) (.int .i64 3)).run Tryz.prog wx = .ok (.int .i64 (0)) wx := fun wx => by kernel_rfl
        go_wp2_with fail
        go_meet
        exact ⟨rfl, rfl⟩
      · have e := Q4.out h
        subst e
        subst h
        clear Q1 Q2 Q3 Q4 Q5 Q6 Q7 Q8 Q9 Q10 Q11 Q12 Q13 Q14 HQ
        have i1 : ∀ wx, (Instr.index 89 (.agg #[.int .i64 0, .int .i64 0, .int .i64 0, .int .i64 0, .int .i64 0, .int .i64 0, .int .i64 1, .int .i64 2, .int .i64 (2 + (nv : Int)), .int .i64 2, .int .i64 5, .int .i64 (20 + (nw : Int)), .int .i64 (25 + (nw : Int)), .int .i64 (10 + (nw : Int)), .int .i64 60]) (.int .i64 4)).run Tryz.prog wx = .ok (.int .i64 (0)) wx := fun wx => by kernel_rfl
        go_wp2_with fail
        go_meet
        exact ⟨rfl, rfl⟩
      · have e := Q5.out h
        subst e
        subst h
        clear Q1 Q2 Q3 Q4 Q5 Q6 Q7 Q8 Q9 Q10 Q11 Q12 Q13 Q14 HQ
        have i1 : ∀ wx, (Instr.index 89 (.agg #[.int .i64 0, .int .i64 0, .int .i64 0, .int .i64 0, .int .i64 0, .int .i64 0, .int .i64 1, .int .i64 2, .int .i64 (2 + (nv : Int)), .int .i64 2, .int .i64 5, .int .i64 (20 + (nw : Int)), .int .i64 (25 + (nw : Int)), .int .i64 (10 + (nw : Int)), .int .i64 60]) (.int .i64 5)).run Tryz.prog wx = .ok (.int .i64 (0)) wx := fun wx => by kernel_rfl
        go_wp2_with fail
        go_meet
        exact ⟨rfl, rfl⟩
      · have e := Q6.out h
        subst e
        subst h
        clear Q1 Q2 Q3 Q4 Q5 Q6 Q7 Q8 Q9 Q10 Q11 Q12 Q13 Q14 HQ
        have i1 : ∀ wx, (Instr.index 89 (.agg #[.int .i64 0, .int .i64 0, .int .i64 0, .int .i64 0, .int .i64 0, .int .i64 0, .int .i64 1, .int .i64 2, .int .i64 (2 + (nv : Int)), .int .i64 2, .int .i64 5, .int .i64 (20 + (nw : Int)), .int .i64 (25 + (nw : Int)), .int .i64 (10 + (nw : Int)), .int .i64 60]) (.int .i64 6)).run Tryz.prog wx = .ok (.int .i64 (1)) wx := fun wx => by kernel_rfl
        go_wp2_with fail
        go_meet
        exact ⟨rfl, rfl⟩
      · have e := Q7.out h
        subst e
        subst h
        clear Q1 Q2 Q3 Q4 Q5 Q6 Q7 Q8 Q9 Q10 Q11 Q12 Q13 Q14 HQ
        have i1 : ∀ wx, (Instr.index 89 (.agg #[.int .i64 0, .int .i64 0, .int .i64 0, .int .i64 0, .int .i64 0, .int .i64 0, .int .i64 1, .int .i64 2, .int .i64 (2 + (nv : Int)), .int .i64 2, .int .i64 5, .int .i64 (20 + (nw : Int)), .int .i64 (25 + (nw : Int)), .int .i64 (10 + (nw : Int)), .int .i64 60]) (.int .i64 7)).run Tryz.prog wx = .ok (.int .i64 (2)) wx := fun wx => by kernel_rfl
        go_wp2_with fail
        go_meet
        exact ⟨rfl, rfl⟩
      · have e := Q8.out h
        subst e
        subst h
        clear Q1 Q2 Q3 Q4 Q5 Q6 Q7 Q8 Q9 Q10 Q11 Q12 Q13 Q14 HQ
        have i1 : ∀ wx, (Instr.index 89 (.agg #[.int .i64 0, .int .i64 0, .int .i64 0, .int .i64 0, .int .i64 0, .int .i64 0, .int .i64 1, .int .i64 2, .int .i64 (2 + (nv : Int)), .int .i64 2, .int .i64 5, .int .i64 (20 + (nw : Int)), .int .i64 (25 + (nw : Int)), .int .i64 (10 + (nw : Int)), .int .i64 60]) (.int .i64 8)).run Tryz.prog wx = .ok (.int .i64 (2 + (nv : Int))) wx := fun wx => by kernel_rfl
        go_wp2_with fail
        go_meet
        exact ⟨rfl, rfl⟩
      · have e := Q9.out h
        subst e
        subst h
        clear Q1 Q2 Q3 Q4 Q5 Q6 Q7 Q8 Q9 Q10 Q11 Q12 Q13 Q14 HQ
        have i1 : ∀ wx, (Instr.index 89 (.agg #[.int .i64 0, .int .i64 0, .int .i64 0, .int .i64 0, .int .i64 0, .int .i64 0, .int .i64 1, .int .i64 2, .int .i64 (2 + (nv : Int)), .int .i64 2, .int .i64 5, .int .i64 (20 + (nw : Int)), .int .i64 (25 + (nw : Int)), .int .i64 (10 + (nw : Int)), .int .i64 60]) (.int .i64 9)).run Tryz.prog wx = .ok (.int .i64 (2)) wx := fun wx => by kernel_rfl
        go_wp2_with fail
        go_meet
        exact ⟨rfl, rfl⟩
      · have e := Q10.out h
        subst e
        subst h
        clear Q1 Q2 Q3 Q4 Q5 Q6 Q7 Q8 Q9 Q10 Q11 Q12 Q13 Q14 HQ
        have i1 : ∀ wx, (Instr.index 89 (.agg #[.int .i64 0, .int .i64 0, .int .i64 0, .int .i64 0, .int .i64 0, .int .i64 0, .int .i64 1, .int .i64 2, .int .i64 (2 + (nv : Int)), .int .i64 2, .int .i64 5, .int .i64 (20 + (nw : Int)), .int .i64 (25 + (nw : Int)), .int .i64 (10 + (nw : Int)), .int .i64 60]) (.int .i64 10)).run Tryz.prog wx = .ok (.int .i64 (5)) wx := fun wx => by kernel_rfl
        go_wp2_with fail
        go_meet
        exact ⟨rfl, rfl⟩
      · have e := Q11.out h
        subst e
        subst h
        clear Q1 Q2 Q3 Q4 Q5 Q6 Q7 Q8 Q9 Q10 Q11 Q12 Q13 Q14 HQ
        have i1 : ∀ wx, (Instr.index 89 (.agg #[.int .i64 0, .int .i64 0, .int .i64 0, .int .i64 0, .int .i64 0, .int .i64 0, .int .i64 1, .int .i64 2, .int .i64 (2 + (nv : Int)), .int .i64 2, .int .i64 5, .int .i64 (20 + (nw : Int)), .int .i64 (25 + (nw : Int)), .int .i64 (10 + (nw : Int)), .int .i64 60]) (.int .i64 11)).run Tryz.prog wx = .ok (.int .i64 (20 + (nw : Int))) wx := fun wx => by kernel_rfl
        go_wp2_with fail
        go_meet
        exact ⟨rfl, rfl⟩
      · have e := Q12.out h
        subst e
        subst h
        clear Q1 Q2 Q3 Q4 Q5 Q6 Q7 Q8 Q9 Q10 Q11 Q12 Q13 Q14 HQ
        have i1 : ∀ wx, (Instr.index 89 (.agg #[.int .i64 0, .int .i64 0, .int .i64 0, .int .i64 0, .int .i64 0, .int .i64 0, .int .i64 1, .int .i64 2, .int .i64 (2 + (nv : Int)), .int .i64 2, .int .i64 5, .int .i64 (20 + (nw : Int)), .int .i64 (25 + (nw : Int)), .int .i64 (10 + (nw : Int)), .int .i64 60]) (.int .i64 12)).run Tryz.prog wx = .ok (.int .i64 (25 + (nw : Int))) wx := fun wx => by kernel_rfl
        go_wp2_with fail
        go_meet
        exact ⟨rfl, rfl⟩
      · have e := Q13.out h
        subst e
        subst h
        clear Q1 Q2 Q3 Q4 Q5 Q6 Q7 Q8 Q9 Q10 Q11 Q12 Q13 Q14 HQ
        have i1 : ∀ wx, (Instr.index 89 (.agg #[.int .i64 0, .int .i64 0, .int .i64 0, .int .i64 0, .int .i64 0, .int .i64 0, .int .i64 1, .int .i64 2, .int .i64 (2 + (nv : Int)), .int .i64 2, .int .i64 5, .int .i64 (20 + (nw : Int)), .int .i64 (25 + (nw : Int)), .int .i64 (10 + (nw : Int)), .int .i64 60]) (.int .i64 13)).run Tryz.prog wx = .ok (.int .i64 (10 + (nw : Int))) wx := fun wx => by kernel_rfl
        go_wp2_with fail
        go_meet
        exact ⟨rfl, rfl⟩
      · have e := Q14.out h
        subst e
        subst h
        clear Q1 Q2 Q3 Q4 Q5 Q6 Q7 Q8 Q9 Q10 Q11 Q12 Q13 Q14 HQ
        have i1 : ∀ wx, (Instr.index 89 (.agg #[.int .i64 0, .int .i64 0, .int .i64 0, .int .i64 0, .int .i64 0, .int .i64 0, .int .i64 1, .int .i64 2, .int .i64 (2 + (nv : Int)), .int .i64 2, .int .i64 5, .int .i64 (20 + (nw : Int)), .int .i64 (25 + (nw : Int)), .int .i64 (10 + (nw : Int)), .int .i64 60]) (.int .i64 14)).run Tryz.prog wx = .ok (.int .i64 (60)) wx := fun wx => by kernel_rfl
        go_wp2_with fail
        go_meet
        exact ⟨rfl, rfl⟩
    case rest =>
    obtain ⟨rfl, rfl⟩ := hcut
    clear Q1 Q2 Q3 Q4 Q5 Q6 Q7 Q8 Q9 Q10 Q11 Q12 Q13 Q14
    have x8 := HX.out.2 8 _ rfl
    have xl := HX.out.1
    go_wp2_with fail
    clear x8 xl
    go_loopw [3, 29] (fun s i wr => ∃ (j : Nat), j ≤ na ∧ i = .int .i64 j ∧ s = .int .i64 (N + ((args.take j).map (csR d)).sum) ∧ Gw w1 wr) (fun _ i _ => na - (intOf i).toNat)
    case atStart => exact ⟨0, Nat.zero_le _, rfl, by simp, Gw.refl _⟩
    case round =>
      obtain ⟨j, hj, rfl, rfl, hG⟩ := hrel
      have HG := Lib.hid hG
      clear hG
      by_cases hlt : j < na
      · have hjl : j < args.length := by have := HNA.out; omega
        have hm := List.getElem_mem hjl
        obtain ⟨p, off, rfl, hp, c0, c1, c2, c3, c4, c5, c6, c7, c8⟩ := (HA1.out.below HG.out.below).at9c hjl
        have HD := Lib.hid (HSU.out j hjl)
        have hb1 := HBD.out j (by omega)
        have hb2 := HBX.out _ hm
        have HTx := Lib.hid ((HC1.out _ hm).below HG.out.below)
        have HFx := Lib.hid (HF.out _ hm)
        have C1 := Lib.hid (fun w h => HI.out (args[j]'hjl) w h (by have := HSX.out _ hm; omega) HFx.out)
        obtain ⟨S, hS⟩ : ∃ z, ((args.take j).map (csR d)).sum = z := ⟨_, rfl⟩
        obtain ⟨r, hr⟩ : ∃ z, csR d args[j] = z := ⟨_, rfl⟩
        rw [hS] at hb1 HD ⊢
        rw [hr] at hb2 HD C1
        clear hS hr
        have e1 : IntKind.i64.wrap ((N + S) + r) = (N + S) + r := IntWalk.i64_in _ (by omega)
        clear hb1 hb2 hm
        generalize args[j] = x at *
        obtain ⟨xn, xargs⟩ := x
        obtain ⟨xkind, xname, xfield, xsign, xva, xvc, xvals, xwa, xwc, xwhs, xwithin, xnumber, xaa, xac⟩ := xn
        unfold Cn.agg at C1
        simp only [Cn.nd, Cn.args] at *
        obtain ⟨xnv, hxnv⟩ : ∃ z, xvals.length = z := ⟨_, rfl⟩
        obtain ⟨xnw, hxnw⟩ : ∃ z, xwhs.length = z := ⟨_, rfl⟩
        obtain ⟨xna, hxna⟩ : ∃ z, xargs.length = z := ⟨_, rfl⟩
        rw [hxnv] at c4 C1
        rw [hxnw] at c5 C1
        rw [hxna] at c8 C1
        clear hxnv hxnw hxna
        have HTa := Lib.hid (HTx.out.alloc (.cells #[.int .i64 xkind, .string xname, .string xfield, .string xsign, .slice xva xnv xvc, .slice xwa xnw xwc, .int .i64 xwithin, .int .i64 xnumber, .slice xaa xna xac] 30))
        have HGa := Lib.hid (HG.out.alloc (.cells #[.int .i64 xkind, .string xname, .string xfield, .string xsign, .slice xva xnv xvc, .slice xwa xnw xwc, .int .i64 xwithin, .int .i64 xnumber, .slice xaa xna xac] 30))
        clear HTx HG
        go_wp2_with fail
        ((with_reducible refine (C1.out _ HTa.out).mono ?_); rintro e w5 ⟨rfl, g5⟩)
        have HG5 := Lib.hid (HGa.out.trans g5)
        clear g5 HTa HGa c0 c1 c2 c3 c4 c5 c6 c7 c8 hp C1
        go_wp2_with fail
        go_roundw
        case rel => exact ⟨j + 1, by omega, by go_num, by rw [HD.out]; rw [Int.add_assoc], HG5.out⟩
        case measure => simp [intOf]; omega
      · have e1 : args.take j = args := List.take_of_length_le (by have := HNA.out; omega)
        rw [e1]
        clear e1 HBD HBX HSU HSX HI
        have HGG := Lib.hid (HG0.out.trans HG.out)
        rw [HSS.out]
        clear HA1 HC1 HG HG0 HX HNA
        go_wp2_with fail
        go_ret
        exact ⟨rfl, HGG.out⟩
end Go.Proofs.YtfdpfkdfglombaaGreatDoor
/- The order of values and of comparisons in the reference: strings.Compare, compareValues, OrderOf$1, OrderOf$2. -/
set_option linter.unusedVariables false
namespace Go.Proofs.YtfdpfkdfglombaaGreatDoor
open Go.RowKit

theorem compareBytes_cmpBN (a b : ByteArray) : Lib.compareBytes a.data.toList b.data.toList = cmpB a b := by
  rw [← Lib.toList_data, ← Lib.toList_data]
  unfold cmpB
  generalize a.toList = x
  generalize b.toList = y
  induction x generalizing y with
  | nil => cases y <;> simp [Lib.compareBytes, lexC]
  | cons c x ih =>
    cases y with
    | nil => simp [Lib.compareBytes, lexC]
    | cons e y =>
      simp only [Lib.compareBytes, lexC, ih]
      unfold cmpU
      by_cases h1 : c < e
      · simp [h1]
      · by_cases h2 : e < c
        · have h3 : ¬ c = e := by intro e3; subst e3; exact h1 h2
          simp [h1, h2, h3]
        · have h3 : c = e := UInt8.le_antisymm (UInt8.not_lt.1 h2) (UInt8.not_lt.1 h1)
          subst h3
          simp [h1]
theorem strCompareN (a b : ByteArray) (w : World) : Calls Tryz.prog 114 #[.string a, .string b] w fun e w' => e = .returned (.int .i64 (cmpB a b)) ∧ w = w' := by
  rw [← compareBytes_cmpBN]
  refine (Tryz.strings_Compare a b w).mono ?_
  rintro e w' ⟨rfl, rfl⟩
  exact ⟨rfl, rfl⟩
theorem cmpIntN (x y : Int) (w : World) : Calls Tryz.prog 66 #[.int .i64 x, .int .i64 y] w fun e w' => e = .returned (.int .i64 (Frac.cmpI x y)) ∧ w = w' := compare_int x y w

set_option maxRecDepth 100000 in
set_option maxHeartbeats 4000000 in
theorem cmpValR_any (x y : Vl) (w : World) :
    Calls Tryz.prog 115 #[.agg #[.int .i64 x.kind, .string x.text, .int .i64 x.num], .agg #[.int .i64 y.kind, .string y.text, .int .i64 y.num]] w (IntO w (vlC x y)) := by
  obtain ⟨xk, xt, xn⟩ := x
  obtain ⟨yk, yt, yn⟩ := y
  simp only
  have HOR := Lib.hid (fun (w' : World) => or_any w'.heap.size [Frac.cmpI xk yk, Frac.cmpI xn yn, cmpB xt yt] 3 3 (w'.alloc (.cells #[.int .i64 (Frac.cmpI xk yk), .int .i64 (Frac.cmpI xn yn), .int .i64 (cmpB xt yt)] 3)) rfl (by omega) (heap_alloc_new w' _))
  have HR := Lib.hid (show orF [Frac.cmpI xk yk, Frac.cmpI xn yn, cmpB xt yt] = vlC ⟨xk, xt, xn⟩ ⟨yk, yt, yn⟩ from rfl)
  rw [← HR.out]
  generalize orF [Frac.cmpI xk yk, Frac.cmpI xn yn, cmpB xt yt] = R at *
  clear HR
  obtain ⟨w1, hw1⟩ : ∃ z, w.alloc (.cells #[.int .i64 xk, .string xt, .int .i64 xn] 72) = z := ⟨_, rfl⟩
  obtain ⟨w2, hw2⟩ : ∃ z, w1.alloc (.cells #[.int .i64 yk, .string yt, .int .i64 yn] 72) = z := ⟨_, rfl⟩
  have hz1 : w1.heap.size = w.heap.size + 1 := by rw [← hw1]; exact World.size_alloc _ _
  have HB := Lib.hid (show Below w.heap.size w w2 by rw [← hw2, ← hw1]; exact ((Below.refl _ _).alloc (Nat.le_refl _) _).alloc (by simp) _)
  have X := Lib.hid (show XB w2 w.heap.size [.int .i64 xk, .string xt, .int .i64 xn] by rw [← hw2, ← hw1]; exact (XB.new w [.int .i64 xk, .string xt, .int .i64 xn] 72).alloc _)
  have Y := Lib.hid (show XB w2 (w.heap.size + 1) [.int .i64 yk, .string yt, .int .i64 yn] by rw [← hw2, ← hz1]; exact XB.new w1 [.int .i64 yk, .string yt, .int .i64 yn] 72)
  have x0 := X.out.2 0 _ rfl
  have x1 := X.out.2 1 _ rfl
  have x2 := X.out.2 2 _ rfl
  have y0 := Y.out.2 0 _ rfl
  have y1 := Y.out.2 1 _ rfl
  have y2 := Y.out.2 2 _ rfl
  have HW1 := Lib.hid hw1
  have HW2 := Lib.hid hw2
  clear hw1 hw2 hz1 X Y
  go_enter Tryz.func115, Tryz.ntmps115
  go_upto_region 1 with (fail)
  rw [HW1.out, HW2.out]
  clear HW1 HW2 w1
  obtain ⟨q, hq⟩ : ∃ z, w.heap.size = z := ⟨_, rfl⟩
  rw [hq] at x0 x1 x2 y0 y1 y2 ⊢
  clear hq
  refine wp_region_still_tail 15 (by kernel_rfl) (by kernel_rfl) ?_
  simp only [List.take_succ_cons, List.take_zero, List.drop_succ_cons, List.drop_zero]
  iterate 4 still_step
  still_call ((cmpIntN _ _ _).mono fun e w' h => ⟨h.1, h.2.symm⟩)
  iterate 4 still_step
  still_call ((cmpIntN _ _ _).mono fun e w' h => ⟨h.1, h.2.symm⟩)
  iterate 4 still_step
  still_call ((strCompareN _ _ _).mono fun e w' h => ⟨h.1, h.2.symm⟩)
  refine wpStill_nil ?_
  change wpList _ _ _ _ _ w2.drew
  have HB3 := Lib.hid (HB.out.drew.alloc (by have := HB.out.size; exact this) (.cells #[.int .i64 (Frac.cmpI xk yk), .int .i64 (Frac.cmpI xn yn), .int .i64 (cmpB xt yt)] 3))
  clear HB x0 x1 x2 y0 y1 y2
  generalize w2.drew = w3 at *
  go_wp2_with fail
  with_reducible refine (HOR.out w3).mono ?_
  rintro e w' ⟨rfl, rfl⟩
  go_wp2_with fail
  go_ret
  exact ⟨rfl, HB3.out⟩
theorem placeR_any (s : ByteArray) (w : World) : Calls Tryz.prog 110 #[.string s] w (IntO w (idxS sgnL s)) := by
  go_enter Tryz.func110, Tryz.ntmps110
  go_wp2_with fail
  with_reducible refine (signs_any' _).mono ?_
  rintro e w1 ⟨rfl, rfl⟩
  go_wp2_with fail
  with_reducible refine (index_any _ sgnL sgnL.length _ s _ rfl (by decide) (strs_new w sgnL _ 9 rfl)).mono ?_
  rintro e w1 ⟨rfl, rfl⟩
  go_wp2
  go_ret
  exact ⟨rfl, (Below.refl _ _).alloc (Nat.le_refl _) _⟩
set_option maxRecDepth 100000 in
set_option maxHeartbeats 8000000 in
theorem cmpWhR_any (x y : Wh) (q : Nat) (w : World) (hq : XB w q [.func (.func 110) #[] #[]]) :
    Calls Tryz.prog 112 #[.agg #[.string x.field, .string x.sign, .int .i64 x.val.kind, .string x.val.text, .int .i64 x.val.num], .agg #[.string y.field, .string y.sign, .int .i64 y.val.kind, .string y.val.text, .int .i64 y.val.num], .pointer (some ⟨q, 0, none⟩)] w (IntO w (whC x y)) := by
  obtain ⟨xf, xs, ⟨xk, xt, xn⟩⟩ := x
  obtain ⟨yf, ys, ⟨yk, yt, yn⟩⟩ := y
  simp only
  obtain ⟨V, hV⟩ : ∃ z, vlC ⟨xk, xt, xn⟩ ⟨yk, yt, yn⟩ = z := ⟨_, rfl⟩
  obtain ⟨I, hI⟩ : ∃ z, idxS sgnL xs = z := ⟨_, rfl⟩
  obtain ⟨J, hJ⟩ : ∃ z, idxS sgnL ys = z := ⟨_, rfl⟩
  have CV := Lib.hid (fun w => cmpValR_any ⟨xk, xt, xn⟩ ⟨yk, yt, yn⟩ w)
  have CI := Lib.hid (fun w => placeR_any xs w)
  have CJ := Lib.hid (fun w => placeR_any ys w)
  rw [hV] at CV
  rw [hI] at CI
  rw [hJ] at CJ
  have HR := Lib.hid (show whC ⟨xf, xs, ⟨xk, xt, xn⟩⟩ ⟨yf, ys, ⟨yk, yt, yn⟩⟩ = orF [cmpB xf yf, Frac.cmpI I J, V] by rw [← hV, ← hI, ← hJ]; rfl)
  rw [HR.out]
  have HOR := Lib.hid (fun (w' : World) => or_any w'.heap.size [cmpB xf yf, Frac.cmpI I J, V] 3 3 (w'.alloc (.cells #[.int .i64 (cmpB xf yf), .int .i64 (Frac.cmpI I J), .int .i64 V] 3)) rfl (by omega) (heap_alloc_new w' _))
  generalize orF [cmpB xf yf, Frac.cmpI I J, V] = R at *
  clear HR hV hI hJ
  simp only at CV
  have HQ := Lib.hid hq
  clear hq
  obtain ⟨w1, hw1⟩ : ∃ z, w.alloc (.cells #[.string xf, .string xs, .int .i64 xk, .string xt, .int .i64 xn] 98) = z := ⟨_, rfl⟩
  obtain ⟨w2, hw2⟩ : ∃ z, w1.alloc (.cells #[.string yf, .string ys, .int .i64 yk, .string yt, .int .i64 yn] 98) = z := ⟨_, rfl⟩
  have hz1 : w1.heap.size = w.heap.size + 1 := by rw [← hw1]; exact World.size_alloc _ _
  have HB := Lib.hid (show Below w.heap.size w w2 by rw [← hw2, ← hw1]; exact ((Below.refl _ _).alloc (Nat.le_refl _) _).alloc (by simp) _)
  have X := Lib.hid (show XB w2 w.heap.size [.string xf, .string xs, .int .i64 xk, .string xt, .int .i64 xn] by rw [← hw2, ← hw1]; exact (XB.new w [.string xf, .string xs, .int .i64 xk, .string xt, .int .i64 xn] 98).alloc _)
  have Y := Lib.hid (show XB w2 (w.heap.size + 1) [.string yf, .string ys, .int .i64 yk, .string yt, .int .i64 yn] by rw [← hw2, ← hz1]; exact XB.new w1 [.string yf, .string ys, .int .i64 yk, .string yt, .int .i64 yn] 98)
  have Z := Lib.hid (HQ.out.below HB.out)
  have HW1 := Lib.hid hw1
  have HW2 := Lib.hid hw2
  clear hw1 hw2 hz1 HQ
  go_enter Tryz.func112, Tryz.ntmps112
  go_upto_region 1 with (fail)
  rw [HW1.out, HW2.out]
  clear HW1 HW2 w1
  obtain ⟨q3, hq3⟩ : ∃ z, w.heap.size = z := ⟨_, rfl⟩
  rw [hq3] at X Y ⊢
  clear hq3
  have K0 := Lib.hid (fun w' (hb : Below w2.heap.size w2 w') => (show (w'.cell? ⟨q3, 0, none⟩ = some (.string xf) ∧ w'.cell? ⟨q3, 1, none⟩ = some (.string xs) ∧ w'.cell? ⟨q3, 2, none⟩ = some (.int .i64 xk) ∧ w'.cell? ⟨q3, 3, none⟩ = some (.string xt) ∧ w'.cell? ⟨q3, 4, none⟩ = some (.int .i64 xn) ∧ w'.cell? ⟨q3 + 1, 0, none⟩ = some (.string yf) ∧ w'.cell? ⟨q3 + 1, 1, none⟩ = some (.string ys) ∧ w'.cell? ⟨q3 + 1, 2, none⟩ = some (.int .i64 yk) ∧ w'.cell? ⟨q3 + 1, 3, none⟩ = some (.string yt) ∧ w'.cell? ⟨q3 + 1, 4, none⟩ = some (.int .i64 yn) ∧ w'.cell? ⟨q, 0, none⟩ = some (.func (.func 110) #[] #[])) ∧ Below w2.heap.size w2 w' from
    ⟨⟨(X.out.below hb).2 0 _ rfl, (X.out.below hb).2 1 _ rfl, (X.out.below hb).2 2 _ rfl, (X.out.below hb).2 3 _ rfl, (X.out.below hb).2 4 _ rfl, (Y.out.below hb).2 0 _ rfl, (Y.out.below hb).2 1 _ rfl, (Y.out.below hb).2 2 _ rfl, (Y.out.below hb).2 3 _ rfl, (Y.out.below hb).2 4 _ rfl, (Z.out.below hb).2 0 _ rfl⟩, hb⟩))
  go_region_held3 (fun w' => (w'.cell? ⟨q3, 0, none⟩ = some (.string xf) ∧ w'.cell? ⟨q3, 1, none⟩ = some (.string xs) ∧ w'.cell? ⟨q3, 2, none⟩ = some (.int .i64 xk) ∧ w'.cell? ⟨q3, 3, none⟩ = some (.string xt) ∧ w'.cell? ⟨q3, 4, none⟩ = some (.int .i64 xn) ∧ w'.cell? ⟨q3 + 1, 0, none⟩ = some (.string yf) ∧ w'.cell? ⟨q3 + 1, 1, none⟩ = some (.string ys) ∧ w'.cell? ⟨q3 + 1, 2, none⟩ = some (.int .i64 yk) ∧ w'.cell? ⟨q3 + 1, 3, none⟩ = some (.string yt) ∧ w'.cell? ⟨q3 + 1, 4, none⟩ = some (.int .i64 yn) ∧ w'.cell? ⟨q, 0, none⟩ = some (.func (.func 110) #[] #[])) ∧ Below w2.heap.size w2 w')
    (first | assumption | (exact K0.out _ (Below.refl _ _).drew) | (refine K0.out _ (Below.trans (And.right (by assumption)) (hb.mono ?_)); exact (And.right (by assumption) : Below _ _ _).size) | (refine K0.out _ (Below.alloc (And.right (by assumption)) ?_ _); exact (And.right (by assumption) : Below _ _ _).size))
    (first | (go_at_call 113; refine (HOR.out _).mono ?_; rintro e w' ⟨rfl, rfl⟩) | (go_at_call 114; refine (strCompareN _ _ _).mono ?_; rintro e w' ⟨rfl, rfl⟩) | (go_at_call 66; refine (cmpIntN _ _ _).mono ?_; rintro e w' ⟨rfl, rfl⟩) | (go_at_call 110; first | (refine (CI.out _).mono ?_; rintro e w' ⟨rfl, hb⟩) | (refine (CJ.out _).mono ?_; rintro e w' ⟨rfl, hb⟩)) | (go_at_call 115; refine (CV.out _).mono ?_; rintro e w' ⟨rfl, hb⟩))
  all_goals
    have hE : Below w2.heap.size w2 _ := And.right (by assumption)
    have HE := Lib.hid (HB.out.trans (hE.mono HB.out.size))
    clear K0
    go_wp2_with fail
    go_ret
    exact ⟨rfl, HE.out⟩
end Go.Proofs.YtfdpfkdfglombaaGreatDoor
/- slices.SortStableFunc at fewer than 20 conditions, by their costs (printed by gen_sortc.py). -/
set_option linter.unusedVariables false
namespace Go.Proofs.YtfdpfkdfglombaaGreatDoor
open Go.RowKit Go.Shelf Go.Lib Go.Sort

theorem flatK_listC {α : Type} [Inhabited α] (enc : α → List Value) (k : Nat) (hk : ∀ x, (enc x).length = k) (hk0 : 0 < k) (d : Array α) : (flatK enc k d).toList = d.toList.flatMap enc := by
  apply List.ext_getElem?
  intro t
  by_cases ht : t < d.size * k
  · have hq : t / k < d.size := Nat.div_lt_of_lt_mul (by rwa [Nat.mul_comm] at ht)
    have h1 := fm_get k enc d.toList (fun x _ => hk x) (t / k) (t % k) (by simpa using hq) (Nat.mod_lt _ hk0)
    rw [Nat.div_add_mod' t k] at h1
    rw [h1]
    have h2 := get_flatK enc k d t ht
    have hs : t < (flatK enc k d).size := by simpa using ht
    rw [getElem!_pos _ t hs] at h2
    rw [Array.getElem?_toList, Array.getElem?_eq_getElem hs, h2]
    have h3 : t % k < (enc d[t / k]!).length := by rw [hk]; exact Nat.mod_lt _ hk0
    rw [getElem!_pos (enc d[t / k]!) (t % k) h3]
    have h4 : d[t / k]! = d[t / k] := getElem!_pos d _ hq
    simp only [Array.getElem_toList]
    rw [List.getElem?_eq_getElem (show t % k < (enc d[t / k]).length by rw [hk]; exact Nat.mod_lt _ hk0)]
    simp only [h4]
  · rw [List.getElem?_eq_none (by simp; omega), List.getElem?_eq_none (by rw [fm_length k enc d.toList (fun x _ => hk x)]; simp; omega)]
section
variable {α : Type} [Inhabited α] (enc : α → List Value) (k : Nat) (w : World) (g m : Nat) (d : Array α) (os : Array Obj)
theorem sortK_blockC {p : Nat} (hp : p < w.heap.size) (hne : p ≠ g) : (sortWorldK enc k w g 0 m d os).heap[p]? = w.heap[p]? := by
  unfold sortWorldK putRowK putRow mapBlock grow Sort.ahead
  simp only
  rw [Array.getElem?_append_left (by simpa using hp), Array.getElem?_modify, if_neg (fun e => hne e.symm)]
theorem sortK_sizeC : (sortWorldK enc k w g 0 m d os).heap.size = w.heap.size + os.size := by
  unfold sortWorldK putRowK putRow mapBlock grow Sort.ahead
  simp
theorem sortK_grownC : w.grownBy (sortWorldK enc k w g 0 m d os) (some g) :=
  ⟨rfl, rfl, rfl, by rw [sortK_sizeC]; omega, fun p hp hne => sortK_blockC enc k w g m d os hp (fun e => hne (by rw [e]))⟩
theorem sortK_rowC {b0 n cap : Nat} {t : TypeId} {xs : List Value} (h : w.ownsRow b0 t k (.slice (some ⟨g, 0, none⟩) n cap) n xs) (hk : ∀ x, (enc x).length = k) (hk0 : 0 < k) (hd : d.size = n) :
    (sortWorldK enc k w g 0 m d os).ownsRow b0 t k (.slice (some ⟨g, 0, none⟩) n cap) n (d.toList.flatMap enc) := by
  subst hd
  refine ⟨by rw [fm_length k enc d.toList (fun x _ => hk x)]; simp, .inr ?_⟩
  rcases h.2 with ⟨e, _⟩ | ⟨g', cap', cur, e, hb, hg, hnc, hcm, hs, ht⟩
  · cases e
  · injection e with e1 e2 e3
    injection e1 with e1
    injection e1 with e1
    subst e1 e3
    have hlt := (Array.getElem?_eq_some_iff.1 hg).1
    refine ⟨g, cap, putCells id 0 (flatK enc k d) cur, rfl, hb, ?_, hnc, hcm, by unfold putCells; simpa using hs, ?_⟩
    · unfold sortWorldK putRowK putRow mapBlock grow Sort.ahead
      simp only
      rw [Array.getElem?_append_left (by simpa using hlt), Array.getElem?_modify, if_pos rfl, hg]
      rfl
    · rw [← flatK_listC enc k hk hk0 d]
      have hle : d.size * k ≤ cap * k := Nat.mul_le_mul_right _ hnc
      apply List.ext_getElem?
      intro i
      by_cases hi : i < d.size * k
      · rw [List.getElem?_take_of_lt hi]
        unfold putCells
        have hi2 : i < (flatK enc k d).size := by simpa using hi
        simp only [Array.getElem?_toList, Array.getElem?_mapIdx, size_flatK, Nat.zero_le, true_and, Nat.zero_add, id, Nat.sub_zero]
        rw [Array.getElem?_eq_getElem (by omega), Array.getElem?_eq_getElem hi2]
        simp only [Option.map_some, if_pos hi]
        rw [getElem!_pos _ i hi2]
      · rw [List.getElem?_eq_none (by simp; omega), List.getElem?_eq_none (by simp; omega)]
theorem rowK_holdsC {b0 n cap : Nat} {t : TypeId} (h : w.ownsRow b0 t k (.slice (some ⟨g, 0, none⟩) n cap) n (d.toList.flatMap enc)) (hk : ∀ x, (enc x).length = k) (hk0 : 0 < k) (hd : d.size = n) : HoldsK enc k w g 0 d := by
  subst hd
  intro j hj
  rw [size_flatK] at hj
  rw [Nat.zero_add]
  refine ⟨?_, h.frozenAt _⟩
  rw [h.cellAt j hj, ← flatK_listC enc k hk hk0 d, Array.getElem?_toList]
  have hj2 : j < (flatK enc k d).size := by simpa using hj
  rw [Array.getElem?_eq_getElem hj2, getElem!_pos _ j hj2]
  rfl
end
set_option maxRecDepth 100000 in
set_option maxHeartbeats 8000000 in
theorem cmpCP_any (d : Nat) (x y : Cn) (w : World) (hx : TAt d w x) (hy : TAt d w y) (sx : szN d x ≤ 300) (sy : szN d y ≤ 300) :
    Calls Tryz.prog 108 #[x.agg, y.agg] w (GwO w (Frac.cmpI (csP d x) (csP d y))) := by
  have CX := Lib.hid (fun w h => cost_any d x w h sx)
  have CY := Lib.hid (fun w h => cost_any d y w h sy)
  have HX := Lib.hid hx
  have HY := Lib.hid hy
  obtain ⟨R1, hR1⟩ : ∃ z, csP d x = z := ⟨_, rfl⟩
  obtain ⟨R2, hR2⟩ : ∃ z, csP d y = z := ⟨_, rfl⟩
  rw [hR1] at CX ⊢
  rw [hR2] at CY ⊢
  clear hR1 hR2 hx hy sx sy
  unfold Cn.agg at *
  obtain ⟨⟨xkind, xname, xfield, xsign, xva, xvc, xvals, xwa, xwc, xwhs, xwithin, xnumber, xaa, xac⟩, xargs⟩ := x
  obtain ⟨⟨ykind, yname, yfield, ysign, yva, yvc, yvals, ywa, ywc, ywhs, ywithin, ynumber, yaa, yac⟩, yargs⟩ := y
  simp only [Cn.nd, Cn.args] at *
  obtain ⟨xnv, h1⟩ : ∃ z, xvals.length = z := ⟨_, rfl⟩
  obtain ⟨xnw, h2⟩ : ∃ z, xwhs.length = z := ⟨_, rfl⟩
  obtain ⟨xna, h3⟩ : ∃ z, xargs.length = z := ⟨_, rfl⟩
  obtain ⟨ynv, h4⟩ : ∃ z, yvals.length = z := ⟨_, rfl⟩
  obtain ⟨ynw, h5⟩ : ∃ z, ywhs.length = z := ⟨_, rfl⟩
  obtain ⟨yna, h6⟩ : ∃ z, yargs.length = z := ⟨_, rfl⟩
  rw [h1, h2, h3] at CX ⊢
  rw [h4, h5, h6] at CY ⊢
  clear h1 h2 h3 h4 h5 h6
  obtain ⟨w1, hw1⟩ : ∃ z, w.alloc (.cells #[.int .i64 xkind, .string xname, .string xfield, .string xsign, .slice xva xnv xvc, .slice xwa xnw xwc, .int .i64 xwithin, .int .i64 xnumber, .slice xaa xna xac] 30) = z := ⟨_, rfl⟩
  obtain ⟨w3, hw3⟩ : ∃ z, w1.alloc (.cells #[.int .i64 ykind, .string yname, .string yfield, .string ysign, .slice yva ynv yvc, .slice ywa ynw ywc, .int .i64 ywithin, .int .i64 ynumber, .slice yaa yna yac] 30) = z := ⟨_, rfl⟩
  have hz1 : w1.heap.size = w.heap.size + 1 := by rw [← hw1]; exact World.size_alloc _ _
  have HG := Lib.hid (show Gw w w3 by rw [← hw3, ← hw1]; exact ((Gw.refl w).alloc _).alloc _)
  have X := Lib.hid (show XB w3 w.heap.size [.int .i64 xkind, .string xname, .string xfield, .string xsign, .slice xva xnv xvc, .slice xwa xnw xwc, .int .i64 xwithin, .int .i64 xnumber, .slice xaa xna xac] by rw [← hw3, ← hw1]; exact (XB.new w [.int .i64 xkind, .string xname, .string xfield, .string xsign, .slice xva xnv xvc, .slice xwa xnw xwc, .int .i64 xwithin, .int .i64 xnumber, .slice xaa xna xac] 30).alloc _)
  have Y := Lib.hid (show XB w3 (w.heap.size + 1) [.int .i64 ykind, .string yname, .string yfield, .string ysign, .slice yva ynv yvc, .slice ywa ynw ywc, .int .i64 ywithin, .int .i64 ynumber, .slice yaa yna yac] by rw [← hw3, ← hz1]; exact XB.new w1 [.int .i64 ykind, .string yname, .string yfield, .string ysign, .slice yva ynv yvc, .slice ywa ynw ywc, .int .i64 ywithin, .int .i64 ynumber, .slice yaa yna yac] 30)
  have HX3 := Lib.hid (HX.out.below HG.out.below)
  have HY3 := Lib.hid (HY.out.below HG.out.below)
  have HW1 := Lib.hid hw1
  have HW3 := Lib.hid hw3
  clear hw1 hw3 hz1 HX HY
  go_enter Tryz.func108, Tryz.ntmps108
  go_upto_region 1 with (fail)
  rw [HW1.out, HW3.out]
  clear HW1 HW3 w1
  obtain ⟨q3, hq3⟩ : ∃ z, w.heap.size = z := ⟨_, rfl⟩
  rw [hq3] at X Y ⊢
  clear hq3
  have K0 := Lib.hid (fun w' (hb : Gw w3 w') => (show (w'.cell? ⟨q3, 0, none⟩ = some (.int .i64 xkind) ∧ w'.cell? ⟨q3, 1, none⟩ = some (.string xname) ∧ w'.cell? ⟨q3, 2, none⟩ = some (.string xfield) ∧ w'.cell? ⟨q3, 3, none⟩ = some (.string xsign) ∧ w'.cell? ⟨q3, 4, none⟩ = some (.slice xva xnv xvc) ∧ w'.cell? ⟨q3, 5, none⟩ = some (.slice xwa xnw xwc) ∧ w'.cell? ⟨q3, 6, none⟩ = some (.int .i64 xwithin) ∧ w'.cell? ⟨q3, 7, none⟩ = some (.int .i64 xnumber) ∧ w'.cell? ⟨q3, 8, none⟩ = some (.slice xaa xna xac) ∧ w'.cell? ⟨q3 + 1, 0, none⟩ = some (.int .i64 ykind) ∧ w'.cell? ⟨q3 + 1, 1, none⟩ = some (.string yname) ∧ w'.cell? ⟨q3 + 1, 2, none⟩ = some (.string yfield) ∧ w'.cell? ⟨q3 + 1, 3, none⟩ = some (.string ysign) ∧ w'.cell? ⟨q3 + 1, 4, none⟩ = some (.slice yva ynv yvc) ∧ w'.cell? ⟨q3 + 1, 5, none⟩ = some (.slice ywa ynw ywc) ∧ w'.cell? ⟨q3 + 1, 6, none⟩ = some (.int .i64 ywithin) ∧ w'.cell? ⟨q3 + 1, 7, none⟩ = some (.int .i64 ynumber) ∧ w'.cell? ⟨q3 + 1, 8, none⟩ = some (.slice yaa yna yac)) ∧ Gw w3 w' from ⟨⟨(X.out.below hb.below).2 0 _ rfl, (X.out.below hb.below).2 1 _ rfl, (X.out.below hb.below).2 2 _ rfl, (X.out.below hb.below).2 3 _ rfl, (X.out.below hb.below).2 4 _ rfl, (X.out.below hb.below).2 5 _ rfl, (X.out.below hb.below).2 6 _ rfl, (X.out.below hb.below).2 7 _ rfl, (X.out.below hb.below).2 8 _ rfl, (Y.out.below hb.below).2 0 _ rfl, (Y.out.below hb.below).2 1 _ rfl, (Y.out.below hb.below).2 2 _ rfl, (Y.out.below hb.below).2 3 _ rfl, (Y.out.below hb.below).2 4 _ rfl, (Y.out.below hb.below).2 5 _ rfl, (Y.out.below hb.below).2 6 _ rfl, (Y.out.below hb.below).2 7 _ rfl, (Y.out.below hb.below).2 8 _ rfl⟩, hb⟩))
  go_region_held3 (fun w' => (w'.cell? ⟨q3, 0, none⟩ = some (.int .i64 xkind) ∧ w'.cell? ⟨q3, 1, none⟩ = some (.string xname) ∧ w'.cell? ⟨q3, 2, none⟩ = some (.string xfield) ∧ w'.cell? ⟨q3, 3, none⟩ = some (.string xsign) ∧ w'.cell? ⟨q3, 4, none⟩ = some (.slice xva xnv xvc) ∧ w'.cell? ⟨q3, 5, none⟩ = some (.slice xwa xnw xwc) ∧ w'.cell? ⟨q3, 6, none⟩ = some (.int .i64 xwithin) ∧ w'.cell? ⟨q3, 7, none⟩ = some (.int .i64 xnumber) ∧ w'.cell? ⟨q3, 8, none⟩ = some (.slice xaa xna xac) ∧ w'.cell? ⟨q3 + 1, 0, none⟩ = some (.int .i64 ykind) ∧ w'.cell? ⟨q3 + 1, 1, none⟩ = some (.string yname) ∧ w'.cell? ⟨q3 + 1, 2, none⟩ = some (.string yfield) ∧ w'.cell? ⟨q3 + 1, 3, none⟩ = some (.string ysign) ∧ w'.cell? ⟨q3 + 1, 4, none⟩ = some (.slice yva ynv yvc) ∧ w'.cell? ⟨q3 + 1, 5, none⟩ = some (.slice ywa ynw ywc) ∧ w'.cell? ⟨q3 + 1, 6, none⟩ = some (.int .i64 ywithin) ∧ w'.cell? ⟨q3 + 1, 7, none⟩ = some (.int .i64 ynumber) ∧ w'.cell? ⟨q3 + 1, 8, none⟩ = some (.slice yaa yna yac)) ∧ Gw w3 w')
    (first | assumption | (exact K0.out _ (Gw.refl _).drew) | (exact K0.out _ (Gw.trans (And.right (by assumption)) hb)))
    (first | (go_at_call 66; refine (cmpIntN _ _ _).mono ?_; rintro e w' ⟨rfl, rfl⟩) | (go_at_call 57; first | ((with_reducible refine (CX.out _ (HX3.out.below (Gw.below (And.right (by assumption))))).mono ?_); rintro e w' ⟨rfl, hb⟩) | ((with_reducible refine (CY.out _ (HY3.out.below (Gw.below (And.right (by assumption))))).mono ?_); rintro e w' ⟨rfl, hb⟩)))
  all_goals
    have hE : Gw w3 _ := And.right (by assumption)
    have HE := Lib.hid (HG.out.trans hE)
    clear K0
    go_wp2_with fail
    go_ret
    exact ⟨rfl, HE.out⟩
set_option maxRecDepth 100000 in
set_option maxHeartbeats 8000000 in
theorem cmpCR_any (d : Nat) (x y : Cn) (w : World) (hx : TAt d w x) (hy : TAt d w y) (sx : szN d x ≤ 300) (sy : szN d y ≤ 300) (fx : Fm d x) (fy : Fm d y) :
    Calls Tryz.prog 65 #[x.agg, y.agg] w (GwO w (Frac.cmpI (csR d x) (csR d y))) := by
  have CX := Lib.hid (fun w h => CostOf_any d x w h sx fx)
  have CY := Lib.hid (fun w h => CostOf_any d y w h sy fy)
  have HX := Lib.hid hx
  have HY := Lib.hid hy
  obtain ⟨R1, hR1⟩ : ∃ z, csR d x = z := ⟨_, rfl⟩
  obtain ⟨R2, hR2⟩ : ∃ z, csR d y = z := ⟨_, rfl⟩
  rw [hR1] at CX ⊢
  rw [hR2] at CY ⊢
  clear hR1 hR2 hx hy sx sy fx fy
  unfold Cn.agg at *
  obtain ⟨⟨xkind, xname, xfield, xsign, xva, xvc, xvals, xwa, xwc, xwhs, xwithin, xnumber, xaa, xac⟩, xargs⟩ := x
  obtain ⟨⟨ykind, yname, yfield, ysign, yva, yvc, yvals, ywa, ywc, ywhs, ywithin, ynumber, yaa, yac⟩, yargs⟩ := y
  simp only [Cn.nd, Cn.args] at *
  obtain ⟨xnv, h1⟩ : ∃ z, xvals.length = z := ⟨_, rfl⟩
  obtain ⟨xnw, h2⟩ : ∃ z, xwhs.length = z := ⟨_, rfl⟩
  obtain ⟨xna, h3⟩ : ∃ z, xargs.length = z := ⟨_, rfl⟩
  obtain ⟨ynv, h4⟩ : ∃ z, yvals.length = z := ⟨_, rfl⟩
  obtain ⟨ynw, h5⟩ : ∃ z, ywhs.length = z := ⟨_, rfl⟩
  obtain ⟨yna, h6⟩ : ∃ z, yargs.length = z := ⟨_, rfl⟩
  rw [h1, h2, h3] at CX ⊢
  rw [h4, h5, h6] at CY ⊢
  clear h1 h2 h3 h4 h5 h6
  obtain ⟨w1, hw1⟩ : ∃ z, w.alloc (.cells #[.int .i64 xkind, .string xname, .string xfield, .string xsign, .slice xva xnv xvc, .slice xwa xnw xwc, .int .i64 xwithin, .int .i64 xnumber, .slice xaa xna xac] 30) = z := ⟨_, rfl⟩
  obtain ⟨w3, hw3⟩ : ∃ z, w1.alloc (.cells #[.int .i64 ykind, .string yname, .string yfield, .string ysign, .slice yva ynv yvc, .slice ywa ynw ywc, .int .i64 ywithin, .int .i64 ynumber, .slice yaa yna yac] 30) = z := ⟨_, rfl⟩
  have hz1 : w1.heap.size = w.heap.size + 1 := by rw [← hw1]; exact World.size_alloc _ _
  have HG := Lib.hid (show Gw w w3 by rw [← hw3, ← hw1]; exact ((Gw.refl w).alloc _).alloc _)
  have X := Lib.hid (show XB w3 w.heap.size [.int .i64 xkind, .string xname, .string xfield, .string xsign, .slice xva xnv xvc, .slice xwa xnw xwc, .int .i64 xwithin, .int .i64 xnumber, .slice xaa xna xac] by rw [← hw3, ← hw1]; exact (XB.new w [.int .i64 xkind, .string xname, .string xfield, .string xsign, .slice xva xnv xvc, .slice xwa xnw xwc, .int .i64 xwithin, .int .i64 xnumber, .slice xaa xna xac] 30).alloc _)
  have Y := Lib.hid (show XB w3 (w.heap.size + 1) [.int .i64 ykind, .string yname, .string yfield, .string ysign, .slice yva ynv yvc, .slice ywa ynw ywc, .int .i64 ywithin, .int .i64 ynumber, .slice yaa yna yac] by rw [← hw3, ← hz1]; exact XB.new w1 [.int .i64 ykind, .string yname, .string yfield, .string ysign, .slice yva ynv yvc, .slice ywa ynw ywc, .int .i64 ywithin, .int .i64 ynumber, .slice yaa yna yac] 30)
  have HX3 := Lib.hid (HX.out.below HG.out.below)
  have HY3 := Lib.hid (HY.out.below HG.out.below)
  have HW1 := Lib.hid hw1
  have HW3 := Lib.hid hw3
  clear hw1 hw3 hz1 HX HY
  go_enter Tryz.func65, Tryz.ntmps65
  go_upto_region 1 with (fail)
  rw [HW1.out, HW3.out]
  clear HW1 HW3 w1
  obtain ⟨q3, hq3⟩ : ∃ z, w.heap.size = z := ⟨_, rfl⟩
  rw [hq3] at X Y ⊢
  clear hq3
  have K0 := Lib.hid (fun w' (hb : Gw w3 w') => (show (w'.cell? ⟨q3, 0, none⟩ = some (.int .i64 xkind) ∧ w'.cell? ⟨q3, 1, none⟩ = some (.string xname) ∧ w'.cell? ⟨q3, 2, none⟩ = some (.string xfield) ∧ w'.cell? ⟨q3, 3, none⟩ = some (.string xsign) ∧ w'.cell? ⟨q3, 4, none⟩ = some (.slice xva xnv xvc) ∧ w'.cell? ⟨q3, 5, none⟩ = some (.slice xwa xnw xwc) ∧ w'.cell? ⟨q3, 6, none⟩ = some (.int .i64 xwithin) ∧ w'.cell? ⟨q3, 7, none⟩ = some (.int .i64 xnumber) ∧ w'.cell? ⟨q3, 8, none⟩ = some (.slice xaa xna xac) ∧ w'.cell? ⟨q3 + 1, 0, none⟩ = some (.int .i64 ykind) ∧ w'.cell? ⟨q3 + 1, 1, none⟩ = some (.string yname) ∧ w'.cell? ⟨q3 + 1, 2, none⟩ = some (.string yfield) ∧ w'.cell? ⟨q3 + 1, 3, none⟩ = some (.string ysign) ∧ w'.cell? ⟨q3 + 1, 4, none⟩ = some (.slice yva ynv yvc) ∧ w'.cell? ⟨q3 + 1, 5, none⟩ = some (.slice ywa ynw ywc) ∧ w'.cell? ⟨q3 + 1, 6, none⟩ = some (.int .i64 ywithin) ∧ w'.cell? ⟨q3 + 1, 7, none⟩ = some (.int .i64 ynumber) ∧ w'.cell? ⟨q3 + 1, 8, none⟩ = some (.slice yaa yna yac)) ∧ Gw w3 w' from ⟨⟨(X.out.below hb.below).2 0 _ rfl, (X.out.below hb.below).2 1 _ rfl, (X.out.below hb.below).2 2 _ rfl, (X.out.below hb.below).2 3 _ rfl, (X.out.below hb.below).2 4 _ rfl, (X.out.below hb.below).2 5 _ rfl, (X.out.below hb.below).2 6 _ rfl, (X.out.below hb.below).2 7 _ rfl, (X.out.below hb.below).2 8 _ rfl, (Y.out.below hb.below).2 0 _ rfl, (Y.out.below hb.below).2 1 _ rfl, (Y.out.below hb.below).2 2 _ rfl, (Y.out.below hb.below).2 3 _ rfl, (Y.out.below hb.below).2 4 _ rfl, (Y.out.below hb.below).2 5 _ rfl, (Y.out.below hb.below).2 6 _ rfl, (Y.out.below hb.below).2 7 _ rfl, (Y.out.below hb.below).2 8 _ rfl⟩, hb⟩))
  go_region_held3 (fun w' => (w'.cell? ⟨q3, 0, none⟩ = some (.int .i64 xkind) ∧ w'.cell? ⟨q3, 1, none⟩ = some (.string xname) ∧ w'.cell? ⟨q3, 2, none⟩ = some (.string xfield) ∧ w'.cell? ⟨q3, 3, none⟩ = some (.string xsign) ∧ w'.cell? ⟨q3, 4, none⟩ = some (.slice xva xnv xvc) ∧ w'.cell? ⟨q3, 5, none⟩ = some (.slice xwa xnw xwc) ∧ w'.cell? ⟨q3, 6, none⟩ = some (.int .i64 xwithin) ∧ w'.cell? ⟨q3, 7, none⟩ = some (.int .i64 xnumber) ∧ w'.cell? ⟨q3, 8, none⟩ = some (.slice xaa xna xac) ∧ w'.cell? ⟨q3 + 1, 0, none⟩ = some (.int .i64 ykind) ∧ w'.cell? ⟨q3 + 1, 1, none⟩ = some (.string yname) ∧ w'.cell? ⟨q3 + 1, 2, none⟩ = some (.string yfield) ∧ w'.cell? ⟨q3 + 1, 3, none⟩ = some (.string ysign) ∧ w'.cell? ⟨q3 + 1, 4, none⟩ = some (.slice yva ynv yvc) ∧ w'.cell? ⟨q3 + 1, 5, none⟩ = some (.slice ywa ynw ywc) ∧ w'.cell? ⟨q3 + 1, 6, none⟩ = some (.int .i64 ywithin) ∧ w'.cell? ⟨q3 + 1, 7, none⟩ = some (.int .i64 ynumber) ∧ w'.cell? ⟨q3 + 1, 8, none⟩ = some (.slice yaa yna yac)) ∧ Gw w3 w')
    (first | assumption | (exact K0.out _ (Gw.refl _).drew) | (exact K0.out _ (Gw.trans (And.right (by assumption)) hb)))
    (first | (go_at_call 66; refine (cmpIntN _ _ _).mono ?_; rintro e w' ⟨rfl, rfl⟩) | (go_at_call 22; first | ((with_reducible refine (CX.out _ (HX3.out.below (Gw.below (And.right (by assumption))))).mono ?_); rintro e w' ⟨rfl, hb⟩) | ((with_reducible refine (CY.out _ (HY3.out.below (Gw.below (And.right (by assumption))))).mono ?_); rintro e w' ⟨rfl, hb⟩)))
  all_goals
    have hE : Gw w3 _ := And.right (by assumption)
    have HE := Lib.hid (HG.out.trans hE)
    clear K0
    go_wp2_with fail
    go_ret
    exact ⟨rfl, HE.out⟩
def cnRen : Go.Shelf.Ren := ⟨fun | 20 => 169 | n => n, fun | 22 => 28 | 24 => 30 | 25 => 90 | n => n, fun | n => n⟩
theorem lays_cn : Go.Proofs.SlLaysF0.n20 Tryz.prog cnRen := {
  mixed := by kernel_rfl
  f20 := ⟨"slices.insertionSortCmpFunc[handbill/api.Cond]", by decide, Tryz.func169.trans (congrArg some (by kernel_rfl))⟩
  t0 := Tryz.underlying0
  a0 := Tryz.isAgg0
  z0 := Tryz.sizeOf0
  v0 := Tryz.zeroValue0
  t3 := Tryz.underlying3
  a3 := Tryz.isAgg3
  z3 := Tryz.sizeOf3
  v3 := Tryz.zeroValue3
  t4 := Tryz.underlying4
  a4 := Tryz.isAgg4
  z4 := Tryz.sizeOf4
  v4 := Tryz.zeroValue4
  t22 := Tryz.underlying28
  a22 := Tryz.isAgg28
  z22 := Tryz.sizeOf28
  v22 := Tryz.zeroValue28
  t25 := Tryz.underlying90
  a25 := Tryz.isAgg90
  z25 := Tryz.sizeOf90
  v25 := Tryz.zeroValue90 }
/-- conditions that lie in this world, and not in block g -/
def CnP (d : Nat) (w : World) (g : Nat) (x : Cn) : Prop := TAt d w x ∧ szN d x ≤ 300 ∧ Fm d x ∧ FarT d x g
abbrev CnW (d : Nat) (w : World) (g : Nat) : Type := { x : Cn // CnP d w g x }
def CnW.enc {d : Nat} {w : World} {g : Nat} (x : CnW d w g) : List Value := x.1.cells
theorem map_cnw {d : Nat} {w : World} {g : Nat} (l : List (CnW d w g)) : l.flatMap CnW.enc = (l.map (·.1)).flatMap Cn.cells := by
  induction l with
  | nil => rfl
  | cons x l ih => rw [List.flatMap_cons, ih, List.map_cons, List.flatMap_cons]; rfl
theorem cnw_of {d : Nat} {w : World} {g : Nat} : ∀ (l : List Cn), (∀ x ∈ l, CnP d w g x) → ∃ ls : List (CnW d w g), ls.map (·.1) = l
  | [], _ => ⟨[], rfl⟩
  | x :: l, h => by
    obtain ⟨ls, e⟩ := cnw_of l (fun y hy => h y (by simp [hy]))
    exact ⟨⟨x, h x (by simp)⟩ :: ls, by rw [List.map_cons, e]⟩
/-- a list of conditions of one's own -/
structure LCn (d b0 : Nat) (w : World) (v : Value) (l : List Cn) : Prop where
  own : w.ownsRow b0 30 9 v l.length (l.flatMap Cn.cells)
  el : ∀ x ∈ l, ∀ g, v.ownBlock = some g → CnP d w g x
def SrtCO (d b0 : Nat) (w : World) (v : Value) (l : List Cn) (e : Ending) (w' : World) : Prop :=
  e = .returned (.tuple #[]) ∧ ∃ s, s.map (er d) = insL d (l.map (er d)) ∧ s.length = l.length ∧ (∀ x ∈ s, x ∈ l) ∧ LCn d b0 w' v s ∧ w.grownBy w' v.ownBlock
theorem insCn_nil (F : FuncId) (w : World) : Calls Tryz.prog 169 #[.slice none 0 0, .int .i64 0, .int .i64 0, .func (.func F) #[] #[]] w fun e w' => e = .returned (.tuple #[]) ∧ w = w' := by
  go_enter Tryz.func169, Tryz.ntmps169
  go_wp2_with fail
  refine wp_loop_rounds 1 ?_
  rw [rounds_succ]
  go_wp2
  go_end0
  exact ⟨rfl, rfl⟩
theorem insL_nil (d : Nat) : insL d [] = [] := insL_one d [] (by simp)
theorem insCn_P (d b0 : Nat) (w : World) (a : Option Addr) (n c : Nat) (l : List Cn) (h : LCn d b0 w (.slice a n c) l) (hn : l.length = n) (hn1 : n < 1000) :
    Calls Tryz.prog 169 #[.slice a n c, .int .i64 0, .int .i64 n, .func (.func 108) #[] #[]] w (SrtCO d b0 w (.slice a n c) l) := by
  subst hn
  rcases h.own.2 with ⟨e, h0⟩ | ⟨g, cap, cur, e, hb, hg, hnc, hcm, hs, ht⟩
  · injection e with e1 e2 e3
    subst e1 e3
    obtain rfl := List.eq_nil_of_length_eq_zero h0
    refine (insCn_nil _ w).mono ?_
    rintro e w' ⟨rfl, rfl⟩
    exact ⟨rfl, [], (by rw [List.map_nil, insL_nil]), rfl, (fun x hx => hx), h, ⟨rfl, rfl, rfl, Nat.le_refl _, fun _ _ _ => rfl⟩⟩
  · injection e with e1 e2 e3
    subst e1 e3
    obtain ⟨ls, hls⟩ : ∃ ls : List (CnW d w g), ls.map (·.1) = l := cnw_of l (fun x hx => h.el x hx g rfl)
    have hlen : ls.length = l.length := by rw [← hls]; simp
    by_cases hz : l.length = 0
    · obtain rfl := List.eq_nil_of_length_eq_zero hz
      have h9 : Calls Tryz.prog 169 #[.slice (some ⟨g, 0, none⟩) 0 c, .int .i64 0, .int .i64 0, .func (.func 108) #[] #[]] w fun e w' => e = .returned (.tuple #[]) ∧ w = w' := by
        clear h ht hs hcm hnc hg hb hls hlen ls hz hn1
        go_enter Tryz.func169, Tryz.ntmps169
        go_wp2_with fail
        refine wp_loop_rounds 1 ?_
        rw [rounds_succ]
        go_wp2
        go_end0
        exact ⟨rfl, rfl⟩
      refine h9.mono ?_
      rintro e w' ⟨rfl, rfl⟩
      exact ⟨rfl, [], (by rw [List.map_nil, insL_nil]), rfl, (fun x hx => hx), h, ⟨rfl, rfl, rfl, Nat.le_refl _, fun _ _ _ => rfl⟩⟩
    · haveI : Inhabited (CnW d w g) := ⟨ls[0]'(by omega)⟩
      have own := h.own
      rw [← hls, ← map_cnw] at own
      have hlt := (Array.getElem?_eq_some_iff.1 hg).1
      have hH := rowK_holdsC CnW.enc 9 w g ls.toArray (n := (ls.map (·.1)).length) (t := 30) (b0 := b0) (cap := c) (by simpa using own) (fun _ => rfl) (by omega) (by simp)
      have h9 := AnyQ.insertionSortCmpFunc lays_cn 9 (fun w => by kernel_rfl) (fun w => by kernel_rfl) (CnW.enc (d := d) (w := w) (g := g)) (fun x => rfl) (fun x v hv => by
        simp only [CnW.enc, Cn.cells, List.mem_cons, List.mem_nil_iff, or_false] at hv
        rcases hv with rfl | rfl | rfl | rfl | rfl | rfl | rfl | rfl | rfl <;> rfl) (fun x y : CnW d w g => Frac.cmpI (csP d x.1) (csP d y.1)) 108 #[] g 0 c 0 ls.toArray.size ls.toArray w (enters_of Tryz.func108 (by kernel_rfl) rfl) (by
        intro m os dk hdk x y
        have gr := sortK_grownC CnW.enc 9 w g m dk os
        have hx := x.2.1.kept gr (fun g' e => by obtain rfl := Option.some.inj e; exact x.2.2.2.2)
        have hy := y.2.1.kept gr (fun g' e => by obtain rfl := Option.some.inj e; exact y.2.2.2.2)
        refine (cmpCP_any d x.1 y.1 _ hx hy x.2.2.1 y.2.2.1).mono ?_
        rintro e w' ⟨rfl, q, os', rfl⟩
        exact ⟨rfl, q, os', rfl⟩) hH hlt (Nat.zero_le _) (Nat.le_refl _) (by rw [show ls.toArray.size = l.length by simpa using hlen]; omega)
      have hsz : ls.toArray.size = l.length := by simpa using hlen
      rw [hsz] at h9
      refine h9.mono ?_
      rintro e w' ⟨rfl, m, os, rfl⟩
      have hi : (Sort.insertionSort (ltOf (fun x y : CnW d w g => Frac.cmpI (csP d x.1) (csP d y.1))) ls.toArray 0 l.length).toList = isort Frac.cmpI (fun x : CnW d w g => csP d x.1) ls := by
        unfold isort
        rw [hlen]
        rfl
      have hp := (isort_law cmpI_tot (fun x : CnW d w g => csP d x.1) ls).1
      have hsl : (Sort.insertionSort (ltOf (fun x y : CnW d w g => Frac.cmpI (csP d x.1) (csP d y.1))) ls.toArray 0 l.length).size = l.length := by rw [← Array.length_toList, hi, hp.length_eq, hlen]
      have hrow := sortK_rowC CnW.enc 9 w g m (Sort.insertionSort (ltOf (fun x y : CnW d w g => Frac.cmpI (csP d x.1) (csP d y.1))) ls.toArray 0 l.length) os own (fun _ => rfl) (by omega) (by rw [hsl, ← hlen]; simp)
      have gr := sortK_grownC CnW.enc 9 w g m (Sort.insertionSort (ltOf (fun x y : CnW d w g => Frac.cmpI (csP d x.1) (csP d y.1))) ls.toArray 0 l.length) os
      have hm := insL_map d (fun x : CnW d w g => x.1) (fun x => csP d x.1) (fun x => rfl) ls.toArray
      rw [hsz] at hm
      rw [map_cnw] at hrow
      have hmem : ∀ y, y ∈ (Sort.insertionSort (ltOf (fun x y : CnW d w g => Frac.cmpI (csP d x.1) (csP d y.1))) ls.toArray 0 l.length).toList → y ∈ ls := fun y hy => hp.mem_iff.1 (by rw [← hi]; exact hy)
      generalize Sort.insertionSort (ltOf (fun x y : CnW d w g => Frac.cmpI (csP d x.1) (csP d y.1))) ls.toArray 0 l.length = D at *
      refine ⟨rfl, D.toList.map (·.1), ?_, by rw [List.length_map, Array.length_toList, hsl], (fun x hx => by
        obtain ⟨y, hy, rfl⟩ := List.mem_map.1 hx
        rw [← hls]
        exact List.mem_map.2 ⟨y, hmem y hy, rfl⟩), ⟨?_, fun x hx g' hg' => ?_⟩, gr⟩
      · rw [List.map_map]
        have e1 : (er d ∘ fun x : CnW d w g => x.1) = fun x => er d x.1 := rfl
        rw [e1, hm, ← hls, List.map_map]
        rfl
      · have e1 : (D.toList.map (·.1)).length = (ls.map (·.1)).length := by rw [List.length_map, Array.length_toList, hsl, List.length_map, hlen]
        rw [e1, hls]
        rw [hls] at hrow
        exact hrow
      · obtain ⟨y, hy, rfl⟩ := List.mem_map.1 hx
        obtain rfl : g = g' := Option.some.inj hg'
        exact ⟨y.2.1.kept gr (fun g'' e => by obtain rfl := Option.some.inj e; exact y.2.2.2.2), y.2.2⟩
theorem sortStable_P (d b0 : Nat) (w : World) (a : Option Addr) (n c : Nat) (l : List Cn) (h : LCn d b0 w (.slice a n c) l) (hn : l.length = n) (hn1 : n < 20) :
    Calls Tryz.prog 64 #[.slice a n c, .func (.func 108) #[] #[]] w (SrtCO d b0 w (.slice a n c) l) := by
  have C := Lib.hid (insCn_P d b0 w a n c l h hn (by omega))
  clear h hn
  have CS : Calls Tryz.prog 119 #[.slice a n c, .int .i64 n, .func (.func 108) #[] #[]] w (SrtCO d b0 w (.slice a n c) l) := by
    go_enter Tryz.func119, Tryz.ntmps119
    go_wp2_with fail
    refine wp_loop_rounds 1 ?_
    rw [rounds_succ]
    go_wp2_with fail
    with_reducible refine C.out.mono ?_
    rintro e w' hS
    have HS := Lib.hid hS
    obtain ⟨rfl, -⟩ := hS
    go_wp2_with fail
    refine wp_loop_rounds 1 ?_
    rw [rounds_succ]
    go_wp2
    go_end0
    exact HS.out
  have CS' := Lib.hid CS
  clear CS C
  go_enter Tryz.func64, Tryz.ntmps64
  go_wp2_with fail
  with_reducible refine CS'.out.mono ?_
  rintro e w' hS
  have HS := Lib.hid hS
  obtain ⟨rfl, -⟩ := hS
  go_wp2
  go_end0
  exact HS.out
theorem insCn_R (d b0 : Nat) (w : World) (a : Option Addr) (n c : Nat) (l : List Cn) (h : LCn d b0 w (.slice a n c) l) (hn : l.length = n) (hn1 : n < 1000) :
    Calls Tryz.prog 169 #[.slice a n c, .int .i64 0, .int .i64 n, .func (.func 65) #[] #[]] w (SrtCO d b0 w (.slice a n c) l) := by
  subst hn
  rcases h.own.2 with ⟨e, h0⟩ | ⟨g, cap, cur, e, hb, hg, hnc, hcm, hs, ht⟩
  · injection e with e1 e2 e3
    subst e1 e3
    obtain rfl := List.eq_nil_of_length_eq_zero h0
    refine (insCn_nil _ w).mono ?_
    rintro e w' ⟨rfl, rfl⟩
    exact ⟨rfl, [], (by rw [List.map_nil, insL_nil]), rfl, (fun x hx => hx), h, ⟨rfl, rfl, rfl, Nat.le_refl _, fun _ _ _ => rfl⟩⟩
  · injection e with e1 e2 e3
    subst e1 e3
    obtain ⟨ls, hls⟩ : ∃ ls : List (CnW d w g), ls.map (·.1) = l := cnw_of l (fun x hx => h.el x hx g rfl)
    have hlen : ls.length = l.length := by rw [← hls]; simp
    by_cases hz : l.length = 0
    · obtain rfl := List.eq_nil_of_length_eq_zero hz
      have h9 : Calls Tryz.prog 169 #[.slice (some ⟨g, 0, none⟩) 0 c, .int .i64 0, .int .i64 0, .func (.func 65) #[] #[]] w fun e w' => e = .returned (.tuple #[]) ∧ w = w' := by
        clear h ht hs hcm hnc hg hb hls hlen ls hz hn1
        go_enter Tryz.func169, Tryz.ntmps169
        go_wp2_with fail
        refine wp_loop_rounds 1 ?_
        rw [rounds_succ]
        go_wp2
        go_end0
        exact ⟨rfl, rfl⟩
      refine h9.mono ?_
      rintro e w' ⟨rfl, rfl⟩
      exact ⟨rfl, [], (by rw [List.map_nil, insL_nil]), rfl, (fun x hx => hx), h, ⟨rfl, rfl, rfl, Nat.le_refl _, fun _ _ _ => rfl⟩⟩
    · haveI : Inhabited (CnW d w g) := ⟨ls[0]'(by omega)⟩
      have own := h.own
      rw [← hls, ← map_cnw] at own
      have hlt := (Array.getElem?_eq_some_iff.1 hg).1
      have hH := rowK_holdsC CnW.enc 9 w g ls.toArray (n := (ls.map (·.1)).length) (t := 30) (b0 := b0) (cap := c) (by simpa using own) (fun _ => rfl) (by omega) (by simp)
      have h9 := AnyQ.insertionSortCmpFunc lays_cn 9 (fun w => by kernel_rfl) (fun w => by kernel_rfl) (CnW.enc (d := d) (w := w) (g := g)) (fun x => rfl) (fun x v hv => by
        simp only [CnW.enc, Cn.cells, List.mem_cons, List.mem_nil_iff, or_false] at hv
        rcases hv with rfl | rfl | rfl | rfl | rfl | rfl | rfl | rfl | rfl <;> rfl) (fun x y : CnW d w g => Frac.cmpI (csR d x.1) (csR d y.1)) 65 #[] g 0 c 0 ls.toArray.size ls.toArray w (enters_of Tryz.func65 (by kernel_rfl) rfl) (by
        intro m os dk hdk x y
        have gr := sortK_grownC CnW.enc 9 w g m dk os
        have hx := x.2.1.kept gr (fun g' e => by obtain rfl := Option.some.inj e; exact x.2.2.2.2)
        have hy := y.2.1.kept gr (fun g' e => by obtain rfl := Option.some.inj e; exact y.2.2.2.2)
        refine (cmpCR_any d x.1 y.1 _ hx hy x.2.2.1 y.2.2.1 x.2.2.2.1 y.2.2.2.1).mono ?_
        rintro e w' ⟨rfl, q, os', rfl⟩
        exact ⟨rfl, q, os', rfl⟩) hH hlt (Nat.zero_le _) (Nat.le_refl _) (by rw [show ls.toArray.size = l.length by simpa using hlen]; omega)
      have hsz : ls.toArray.size = l.length := by simpa using hlen
      rw [hsz] at h9
      refine h9.mono ?_
      rintro e w' ⟨rfl, m, os, rfl⟩
      have hi : (Sort.insertionSort (ltOf (fun x y : CnW d w g => Frac.cmpI (csR d x.1) (csR d y.1))) ls.toArray 0 l.length).toList = isort Frac.cmpI (fun x : CnW d w g => csR d x.1) ls := by
        unfold isort
        rw [hlen]
        rfl
      have hp := (isort_law cmpI_tot (fun x : CnW d w g => csR d x.1) ls).1
      have hsl : (Sort.insertionSort (ltOf (fun x y : CnW d w g => Frac.cmpI (csR d x.1) (csR d y.1))) ls.toArray 0 l.length).size = l.length := by rw [← Array.length_toList, hi, hp.length_eq, hlen]
      have hrow := sortK_rowC CnW.enc 9 w g m (Sort.insertionSort (ltOf (fun x y : CnW d w g => Frac.cmpI (csR d x.1) (csR d y.1))) ls.toArray 0 l.length) os own (fun _ => rfl) (by omega) (by rw [hsl, ← hlen]; simp)
      have gr := sortK_grownC CnW.enc 9 w g m (Sort.insertionSort (ltOf (fun x y : CnW d w g => Frac.cmpI (csR d x.1) (csR d y.1))) ls.toArray 0 l.length) os
      have hm := insL_map d (fun x : CnW d w g => x.1) (fun x => csR d x.1) (fun x => csR_csP d x.1 x.2.2.2.1) ls.toArray
      rw [hsz] at hm
      rw [map_cnw] at hrow
      have hmem : ∀ y, y ∈ (Sort.insertionSort (ltOf (fun x y : CnW d w g => Frac.cmpI (csR d x.1) (csR d y.1))) ls.toArray 0 l.length).toList → y ∈ ls := fun y hy => hp.mem_iff.1 (by rw [← hi]; exact hy)
      generalize Sort.insertionSort (ltOf (fun x y : CnW d w g => Frac.cmpI (csR d x.1) (csR d y.1))) ls.toArray 0 l.length = D at *
      refine ⟨rfl, D.toList.map (·.1), ?_, by rw [List.length_map, Array.length_toList, hsl], (fun x hx => by
        obtain ⟨y, hy, rfl⟩ := List.mem_map.1 hx
        rw [← hls]
        exact List.mem_map.2 ⟨y, hmem y hy, rfl⟩), ⟨?_, fun x hx g' hg' => ?_⟩, gr⟩
      · rw [List.map_map]
        have e1 : (er d ∘ fun x : CnW d w g => x.1) = fun x => er d x.1 := rfl
        rw [e1, hm, ← hls, List.map_map]
        rfl
      · have e1 : (D.toList.map (·.1)).length = (ls.map (·.1)).length := by rw [List.length_map, Array.length_toList, hsl, List.length_map, hlen]
        rw [e1, hls]
        rw [hls] at hrow
        exact hrow
      · obtain ⟨y, hy, rfl⟩ := List.mem_map.1 hx
        obtain rfl : g = g' := Option.some.inj hg'
        exact ⟨y.2.1.kept gr (fun g'' e => by obtain rfl := Option.some.inj e; exact y.2.2.2.2), y.2.2⟩
theorem sortStable_R (d b0 : Nat) (w : World) (a : Option Addr) (n c : Nat) (l : List Cn) (h : LCn d b0 w (.slice a n c) l) (hn : l.length = n) (hn1 : n < 20) :
    Calls Tryz.prog 64 #[.slice a n c, .func (.func 65) #[] #[]] w (SrtCO d b0 w (.slice a n c) l) := by
  have C := Lib.hid (insCn_R d b0 w a n c l h hn (by omega))
  clear h hn
  have CS : Calls Tryz.prog 119 #[.slice a n c, .int .i64 n, .func (.func 65) #[] #[]] w (SrtCO d b0 w (.slice a n c) l) := by
    go_enter Tryz.func119, Tryz.ntmps119
    go_wp2_with fail
    refine wp_loop_rounds 1 ?_
    rw [rounds_succ]
    go_wp2_with fail
    with_reducible refine C.out.mono ?_
    rintro e w' hS
    have HS := Lib.hid hS
    obtain ⟨rfl, -⟩ := hS
    go_wp2_with fail
    refine wp_loop_rounds 1 ?_
    rw [rounds_succ]
    go_wp2
    go_end0
    exact HS.out
  have CS' := Lib.hid CS
  clear CS C
  go_enter Tryz.func64, Tryz.ntmps64
  go_wp2_with fail
  with_reducible refine CS'.out.mono ?_
  rintro e w' hS
  have HS := Lib.hid hS
  obtain ⟨rfl, -⟩ := hS
  go_wp2
  go_end0
  exact HS.out
end Go.Proofs.YtfdpfkdfglombaaGreatDoor
/- The order of conditions in the reference: slices.CompareFunc, OrderOf, SameCond (printed by gen_ordc.py). -/
set_option linter.unusedVariables false
namespace Go.Proofs.YtfdpfkdfglombaaGreatDoor
open Go.RowKit

section
variable {α : Type} (f : α → α → Int) (l1 l2 : List α) (k : Nat)
theorem lexC_drop2 (h1 : k < l1.length) (h2 : k < l2.length) : lexC f (l1.drop k) (l2.drop k) = if f l1[k] l2[k] = 0 then lexC f (l1.drop (k + 1)) (l2.drop (k + 1)) else f l1[k] l2[k] := by
  rw [List.drop_eq_getElem_cons h1, List.drop_eq_getElem_cons h2]; rfl
theorem lexC_end1 (h1 : k < l1.length) (h2 : l2.length ≤ k) : lexC f (l1.drop k) (l2.drop k) = 1 := by
  rw [List.drop_eq_getElem_cons h1, List.drop_eq_nil_of_le h2]; rfl
theorem lexC_end2 (h1 : l1.length ≤ k) (h2 : k < l2.length) : lexC f (l1.drop k) (l2.drop k) = -1 := by
  rw [List.drop_eq_getElem_cons h2, List.drop_eq_nil_of_le h1]; rfl
theorem lexC_end3 (h1 : l1.length ≤ k) (h2 : l2.length ≤ k) : lexC f (l1.drop k) (l2.drop k) = 0 := by
  rw [List.drop_eq_nil_of_le h1, List.drop_eq_nil_of_le h2]; rfl
end
set_option maxRecDepth 100000 in
set_option maxHeartbeats 4000000 in
theorem cmpFnVR_any (a1 a2 : Option Addr) (l1 l2 : List Vl) (n1 c1 n2 c2 : Nat) (w : World) (h1 : l1.length = n1) (h2 : l2.length = n2) (hn1 : n1 ≤ 1000) (hn2 : n2 ≤ 1000) (hA : RAt w a1 3 Vl.cells l1) (hB : RAt w a2 3 Vl.cells l2) :
    Calls Tryz.prog 116 #[.slice a1 n1 c1, .slice a2 n2 c2, .func (.func 115) #[] #[]] w (IntO w (lexC vlC l1 l2)) := by
  have HA := Lib.hid hA
  have HB := Lib.hid hB
  have HN1 := Lib.hid h1
  have HN2 := Lib.hid h2
  obtain ⟨R, hR⟩ : ∃ z, lexC vlC l1 l2 = z := ⟨_, rfl⟩
  have HR := Lib.hid hR
  rw [hR]
  clear hA hB h1 h2 hR
  go_enter Tryz.func116, Tryz.ntmps116
  go_wp2_with fail
  go_loopw [13] (fun i wr => ∃ k : Nat, k ≤ n1 ∧ k ≤ n2 ∧ i = .int .i64 k ∧ Below w.heap.size w wr ∧ Hid (lexC vlC (l1.drop k) (l2.drop k) = R)) (fun i _ => n1 - (intOf i).toNat)
  case atStart => exact ⟨0, Nat.zero_le _, Nat.zero_le _, rfl, Below.refl _ _, HR⟩
  case round =>
    obtain ⟨k, hk1, hk2, rfl, hBr, HL⟩ := hrel
    have HBr := Lib.hid hBr
    clear hBr
    by_cases hlt : k < n1
    · have hk1l : k < l1.length := by have := HN1.out; omega
      obtain ⟨p1, o1, rfl, hp1, hc1⟩ := (HA.out.below HBr.out) k hk1l
      have x0 := hc1 0 _ rfl
      have x1 := hc1 1 _ rfl
      have x2 := hc1 2 _ rfl
      rw [Nat.add_zero] at x0
      clear hc1
      by_cases hlt2 : k < n2
      · have hk2l : k < l2.length := by have := HN2.out; omega
        obtain ⟨p2, o2, rfl, hp2, hc2⟩ := (HB.out.below HBr.out) k hk2l
        have y0 := hc2 0 _ rfl
        have y1 := hc2 1 _ rfl
        have y2 := hc2 2 _ rfl
        rw [Nat.add_zero] at y0
        clear hc2
        have HD := Lib.hid (lexC_drop2 vlC l1 l2 k hk1l hk2l)
        have C := Lib.hid (fun w => cmpValR_any l1[k] l2[k] w)
        obtain ⟨r, hr⟩ : ∃ z, vlC l1[k] l2[k] = z := ⟨_, rfl⟩
        rw [hr] at C HD
        clear hr
        generalize l1[k] = x at *
        generalize l2[k] = y at *
        obtain ⟨xk, xt, xn⟩ := x
        obtain ⟨yk, yt, yn⟩ := y
        simp only at *
        go_wp2_with fail
        have HBb := Lib.hid ((HBr.out.alloc HBr.out.size (.cells #[.int .i64 xk, .string xt, .int .i64 xn] 72)).alloc (Nat.le_trans HBr.out.size (by simp)) (.cells #[.int .i64 yk, .string yt, .int .i64 yn] 72))
        ((with_reducible refine (C.out _).mono ?_); rintro e w5 ⟨rfl, hb5⟩)
        have HB5 := Lib.hid (HBb.out.trans (hb5.mono HBb.out.size))
        clear hb5 HBb hp1 hp2 x0 x1 x2 y0 y1 y2
        by_cases h3 : r = 0
        · subst h3
          go_wp2_with fail
          go_roundw
          case rel => exact ⟨k + 1, by omega, by omega, by go_num, HB5.out, Lib.hid (by rw [← HL.out, HD.out]; rfl)⟩
          case measure => simp [intOf]; omega
        · have h4 : (r != 0) = true := by simpa using h3
          have H3 := Lib.hid h3
          clear h3
          go_wp2_with fail
          go_ret
          exact ⟨ret_int (by rw [← HL.out, HD.out, if_neg H3.out]), HB5.out⟩
      · have HD := Lib.hid (lexC_end1 vlC l1 l2 k hk1l (by have := HN2.out; omega))
        generalize l1[k] = x at *
        obtain ⟨xk, xt, xn⟩ := x
        simp only at *
        go_wp2_with fail
        go_ret
        exact ⟨ret_int (by rw [← HL.out, HD.out]), HBr.out.alloc HBr.out.size _⟩
    · by_cases hlt2 : n1 < n2
      · have HD := Lib.hid (lexC_end2 vlC l1 l2 k (by have := HN1.out; omega) (by have := HN2.out; omega))
        go_wp2_with fail
        go_ret
        exact ⟨ret_int (by rw [← HL.out, HD.out]), HBr.out⟩
      · have HD := Lib.hid (lexC_end3 vlC l1 l2 k (by have := HN1.out; omega) (by have := HN2.out; omega))
        go_wp2_with fail
        go_ret
        exact ⟨ret_int (by rw [← HL.out, HD.out]), HBr.out⟩
set_option maxRecDepth 100000 in
set_option maxHeartbeats 4000000 in
theorem cmpFnWR_any (a1 a2 : Option Addr) (l1 l2 : List Wh) (n1 c1 n2 c2 : Nat) (q : Nat) (w : World) (h1 : l1.length = n1) (h2 : l2.length = n2) (hn1 : n1 ≤ 1000) (hn2 : n2 ≤ 1000) (hA : RAt w a1 5 Wh.cells l1) (hB : RAt w a2 5 Wh.cells l2) (hq : XB w q [.func (.func 110) #[] #[]]) :
    Calls Tryz.prog 117 #[.slice a1 n1 c1, .slice a2 n2 c2, .func (.func 112) #[] #[.pointer (some ⟨q, 0, none⟩)]] w (IntO w (lexC whC l1 l2)) := by
  have HA := Lib.hid hA
  have HB := Lib.hid hB
  have HN1 := Lib.hid h1
  have HN2 := Lib.hid h2
  have HQ := Lib.hid hq
  clear hq
  obtain ⟨R, hR⟩ : ∃ z, lexC whC l1 l2 = z := ⟨_, rfl⟩
  have HR := Lib.hid hR
  rw [hR]
  clear hA hB h1 h2 hR
  go_enter Tryz.func117, Tryz.ntmps117
  go_wp2_with fail
  go_loopw [13] (fun i wr => ∃ k : Nat, k ≤ n1 ∧ k ≤ n2 ∧ i = .int .i64 k ∧ Below w.heap.size w wr ∧ Hid (lexC whC (l1.drop k) (l2.drop k) = R)) (fun i _ => n1 - (intOf i).toNat)
  case atStart => exact ⟨0, Nat.zero_le _, Nat.zero_le _, rfl, Below.refl _ _, HR⟩
  case round =>
    obtain ⟨k, hk1, hk2, rfl, hBr, HL⟩ := hrel
    have HBr := Lib.hid hBr
    clear hBr
    by_cases hlt : k < n1
    · have hk1l : k < l1.length := by have := HN1.out; omega
      obtain ⟨p1, o1, rfl, hp1, hc1⟩ := (HA.out.below HBr.out) k hk1l
      have x0 := hc1 0 _ rfl
      have x1 := hc1 1 _ rfl
      have x2 := hc1 2 _ rfl
      have x3 := hc1 3 _ rfl
      have x4 := hc1 4 _ rfl
      rw [Nat.add_zero] at x0
      clear hc1
      by_cases hlt2 : k < n2
      · have hk2l : k < l2.length := by have := HN2.out; omega
        obtain ⟨p2, o2, rfl, hp2, hc2⟩ := (HB.out.below HBr.out) k hk2l
        have y0 := hc2 0 _ rfl
        have y1 := hc2 1 _ rfl
        have y2 := hc2 2 _ rfl
        have y3 := hc2 3 _ rfl
        have y4 := hc2 4 _ rfl
        rw [Nat.add_zero] at y0
        clear hc2
        have HD := Lib.hid (lexC_drop2 whC l1 l2 k hk1l hk2l)
        have C := Lib.hid (fun w h => cmpWhR_any l1[k] l2[k] q w h)
        obtain ⟨r, hr⟩ : ∃ z, whC l1[k] l2[k] = z := ⟨_, rfl⟩
        rw [hr] at C HD
        clear hr
        generalize l1[k] = x at *
        generalize l2[k] = y at *
        obtain ⟨xf, xs, ⟨xk, xt, xn⟩⟩ := x
        obtain ⟨yf, ys, ⟨yk, yt, yn⟩⟩ := y
        simp only at *
        go_wp2_with fail
        have HBb := Lib.hid ((HBr.out.alloc HBr.out.size (.cells #[.string xf, .string xs, .int .i64 xk, .string xt, .int .i64 xn] 98)).alloc (Nat.le_trans HBr.out.size (by simp)) (.cells #[.string yf, .string ys, .int .i64 yk, .string yt, .int .i64 yn] 98))
        have HQb := Lib.hid (HQ.out.below HBb.out)
        ((with_reducible refine (C.out _ (HQb.out)).mono ?_); rintro e w5 ⟨rfl, hb5⟩)
        have HB5 := Lib.hid (HBb.out.trans (hb5.mono HBb.out.size))
        clear hb5 HBb hp1 hp2 x0 x1 x2 x3 x4 y0 y1 y2 y3 y4
        by_cases h3 : r = 0
        · subst h3
          go_wp2_with fail
          go_roundw
          case rel => exact ⟨k + 1, by omega, by omega, by go_num, HB5.out, Lib.hid (by rw [← HL.out, HD.out]; rfl)⟩
          case measure => simp [intOf]; omega
        · have h4 : (r != 0) = true := by simpa using h3
          have H3 := Lib.hid h3
          clear h3
          go_wp2_with fail
          go_ret
          exact ⟨ret_int (by rw [← HL.out, HD.out, if_neg H3.out]), HB5.out⟩
      · have HD := Lib.hid (lexC_end1 whC l1 l2 k hk1l (by have := HN2.out; omega))
        generalize l1[k] = x at *
        obtain ⟨xf, xs, ⟨xk, xt, xn⟩⟩ := x
        simp only at *
        go_wp2_with fail
        go_ret
        exact ⟨ret_int (by rw [← HL.out, HD.out]), HBr.out.alloc HBr.out.size _⟩
    · by_cases hlt2 : n1 < n2
      · have HD := Lib.hid (lexC_end2 whC l1 l2 k (by have := HN1.out; omega) (by have := HN2.out; omega))
        go_wp2_with fail
        go_ret
        exact ⟨ret_int (by rw [← HL.out, HD.out]), HBr.out⟩
      · have HD := Lib.hid (lexC_end3 whC l1 l2 k (by have := HN1.out; omega) (by have := HN2.out; omega))
        go_wp2_with fail
        go_ret
        exact ⟨ret_int (by rw [← HL.out, HD.out]), HBr.out⟩
/-- the order at conditions that are at most d deep -/
def OrI (d : Nat) : Prop := ∀ (x y : Cn) (w : World), TAt d w x → TAt d w y → Calls Tryz.prog 63 #[x.agg, y.agg] w (IntO w (ordC d x y))
set_option maxRecDepth 100000 in
set_option maxHeartbeats 4000000 in
theorem cmpFnCR_any (a1 a2 : Option Addr) (l1 l2 : List Cn) (n1 c1 n2 c2 : Nat) (d : Nat) (w : World) (h1 : l1.length = n1) (h2 : l2.length = n2) (hn1 : n1 ≤ 1000) (hn2 : n2 ≤ 1000) (hA : RAt w a1 9 Cn.cells l1) (hB : RAt w a2 9 Cn.cells l2) (hT1 : ∀ x ∈ l1, TAt d w x) (hT2 : ∀ x ∈ l2, TAt d w x) (IH : OrI d) :
    Calls Tryz.prog 118 #[.slice a1 n1 c1, .slice a2 n2 c2, .func (.func 63) #[] #[]] w (IntO w (lexC (ordC d) l1 l2)) := by
  have HA := Lib.hid hA
  have HB := Lib.hid hB
  have HN1 := Lib.hid h1
  have HN2 := Lib.hid h2
  have HT1 := Lib.hid hT1
  have HT2 := Lib.hid hT2
  have HI := Lib.hid IH
  clear hT1 hT2 IH
  obtain ⟨R, hR⟩ : ∃ z, lexC (ordC d) l1 l2 = z := ⟨_, rfl⟩
  have HR := Lib.hid hR
  rw [hR]
  clear hA hB h1 h2 hR
  go_enter Tryz.func118, Tryz.ntmps118
  go_wp2_with fail
  go_loopw [13] (fun i wr => ∃ k : Nat, k ≤ n1 ∧ k ≤ n2 ∧ i = .int .i64 k ∧ Below w.heap.size w wr ∧ Hid (lexC (ordC d) (l1.drop k) (l2.drop k) = R)) (fun i _ => n1 - (intOf i).toNat)
  case atStart => exact ⟨0, Nat.zero_le _, Nat.zero_le _, rfl, Below.refl _ _, HR⟩
  case round =>
    obtain ⟨k, hk1, hk2, rfl, hBr, HL⟩ := hrel
    have HBr := Lib.hid hBr
    clear hBr
    by_cases hlt : k < n1
    · have hk1l : k < l1.length := by have := HN1.out; omega
      obtain ⟨p1, o1, rfl, hp1, hc1⟩ := (HA.out.below HBr.out) k hk1l
      have x0 := hc1 0 _ rfl
      have x1 := hc1 1 _ rfl
      have x2 := hc1 2 _ rfl
      have x3 := hc1 3 _ rfl
      have x4 := hc1 4 _ rfl
      have x5 := hc1 5 _ rfl
      have x6 := hc1 6 _ rfl
      have x7 := hc1 7 _ rfl
      have x8 := hc1 8 _ rfl
      rw [Nat.add_zero] at x0
      clear hc1
      by_cases hlt2 : k < n2
      · have hk2l : k < l2.length := by have := HN2.out; omega
        obtain ⟨p2, o2, rfl, hp2, hc2⟩ := (HB.out.below HBr.out) k hk2l
        have y0 := hc2 0 _ rfl
        have y1 := hc2 1 _ rfl
        have y2 := hc2 2 _ rfl
        have y3 := hc2 3 _ rfl
        have y4 := hc2 4 _ rfl
        have y5 := hc2 5 _ rfl
        have y6 := hc2 6 _ rfl
        have y7 := hc2 7 _ rfl
        have y8 := hc2 8 _ rfl
        rw [Nat.add_zero] at y0
        clear hc2
        have HD := Lib.hid (lexC_drop2 (ordC d) l1 l2 k hk1l hk2l)
        have HX0 := Lib.hid ((HT1.out _ (List.getElem_mem hk1l)).below HBr.out)
        have HY0 := Lib.hid ((HT2.out _ (List.getElem_mem hk2l)).below HBr.out)
        have C := Lib.hid (fun w (h : TAt d w l1[k]) (h' : TAt d w l2[k]) => HI.out l1[k] l2[k] w h h')
        obtain ⟨r, hr⟩ : ∃ z, (ordC d) l1[k] l2[k] = z := ⟨_, rfl⟩
        rw [hr] at C HD
        clear hr
        generalize l1[k] = x at *
        generalize l2[k] = y at *
        obtain ⟨⟨xkind, xname, xfield, xsign, xva, xvc, xvals, xwa, xwc, xwhs, xwithin, xnumber, xaa, xac⟩, xargs⟩ := x
        obtain ⟨⟨ykind, yname, yfield, ysign, yva, yvc, yvals, ywa, ywc, ywhs, ywithin, ynumber, yaa, yac⟩, yargs⟩ := y
        simp only [Cn.agg, Cn.nd, Cn.args] at *
        obtain ⟨xnv, hxnv⟩ : ∃ z, xvals.length = z := ⟨_, rfl⟩
        obtain ⟨xnw, hxnw⟩ : ∃ z, xwhs.length = z := ⟨_, rfl⟩
        obtain ⟨xna, hxna⟩ : ∃ z, xargs.length = z := ⟨_, rfl⟩
        rw [hxnv] at x4 C
        rw [hxnw] at x5 C
        rw [hxna] at x8 C
        clear hxnv hxnw hxna
        obtain ⟨ynv, hynv⟩ : ∃ z, yvals.length = z := ⟨_, rfl⟩
        obtain ⟨ynw, hynw⟩ : ∃ z, ywhs.length = z := ⟨_, rfl⟩
        obtain ⟨yna, hyna⟩ : ∃ z, yargs.length = z := ⟨_, rfl⟩
        rw [hynv] at y4 C
        rw [hynw] at y5 C
        rw [hyna] at y8 C
        clear hynv hynw hyna
        go_wp2_with fail
        have HBb := Lib.hid ((HBr.out.alloc HBr.out.size (.cells #[.int .i64 xkind, .string xname, .string xfield, .string xsign, .slice xva xnv xvc, .slice xwa xnw xwc, .int .i64 xwithin, .int .i64 xnumber, .slice xaa xna xac] 30)).alloc (Nat.le_trans HBr.out.size (by simp)) (.cells #[.int .i64 ykind, .string yname, .string yfield, .string ysign, .slice yva ynv yvc, .slice ywa ynw ywc, .int .i64 ywithin, .int .i64 ynumber, .slice yaa yna yac] 30))
        have HX := Lib.hid ((HX0.out.alloc (.cells #[.int .i64 xkind, .string xname, .string xfield, .string xsign, .slice xva xnv xvc, .slice xwa xnw xwc, .int .i64 xwithin, .int .i64 xnumber, .slice xaa xna xac] 30)).alloc (.cells #[.int .i64 ykind, .string yname, .string yfield, .string ysign, .slice yva ynv yvc, .slice ywa ynw ywc, .int .i64 ywithin, .int .i64 ynumber, .slice yaa yna yac] 30))
        have HY := Lib.hid ((HY0.out.alloc (.cells #[.int .i64 xkind, .string xname, .string xfield, .string xsign, .slice xva xnv xvc, .slice xwa xnw xwc, .int .i64 xwithin, .int .i64 xnumber, .slice xaa xna xac] 30)).alloc (.cells #[.int .i64 ykind, .string yname, .string yfield, .string ysign, .slice yva ynv yvc, .slice ywa ynw ywc, .int .i64 ywithin, .int .i64 ynumber, .slice yaa yna yac] 30))
        clear HX0 HY0
        ((with_reducible refine (C.out _ (HX.out) (HY.out)).mono ?_); rintro e w5 ⟨rfl, hb5⟩)
        have HB5 := Lib.hid (HBb.out.trans (hb5.mono HBb.out.size))
        clear hb5 HBb hp1 hp2 x0 x1 x2 x3 x4 x5 x6 x7 x8 y0 y1 y2 y3 y4 y5 y6 y7 y8
        by_cases h3 : r = 0
        · subst h3
          go_wp2_with fail
          go_roundw
          case rel => exact ⟨k + 1, by omega, by omega, by go_num, HB5.out, Lib.hid (by rw [← HL.out, HD.out]; rfl)⟩
          case measure => simp [intOf]; omega
        · have h4 : (r != 0) = true := by simpa using h3
          have H3 := Lib.hid h3
          clear h3
          go_wp2_with fail
          go_ret
          exact ⟨ret_int (by rw [← HL.out, HD.out, if_neg H3.out]), HB5.out⟩
      · have HD := Lib.hid (lexC_end1 (ordC d) l1 l2 k hk1l (by have := HN2.out; omega))
        generalize l1[k] = x at *
        obtain ⟨⟨xkind, xname, xfield, xsign, xva, xvc, xvals, xwa, xwc, xwhs, xwithin, xnumber, xaa, xac⟩, xargs⟩ := x
        simp only [Cn.nd, Cn.args] at *
        obtain ⟨xnv, hxnv⟩ : ∃ z, xvals.length = z := ⟨_, rfl⟩
        obtain ⟨xnw, hxnw⟩ : ∃ z, xwhs.length = z := ⟨_, rfl⟩
        obtain ⟨xna, hxna⟩ : ∃ z, xargs.length = z := ⟨_, rfl⟩
        rw [hxnv] at x4
        rw [hxnw] at x5
        rw [hxna] at x8
        clear hxnv hxnw hxna
        go_wp2_with fail
        go_ret
        exact ⟨ret_int (by rw [← HL.out, HD.out]), HBr.out.alloc HBr.out.size _⟩
    · by_cases hlt2 : n1 < n2
      · have HD := Lib.hid (lexC_end2 (ordC d) l1 l2 k (by have := HN1.out; omega) (by have := HN2.out; omega))
        go_wp2_with fail
        go_ret
        exact ⟨ret_int (by rw [← HL.out, HD.out]), HBr.out⟩
      · have HD := Lib.hid (lexC_end3 (ordC d) l1 l2 k (by have := HN1.out; omega) (by have := HN2.out; omega))
        go_wp2_with fail
        go_ret
        exact ⟨ret_int (by rw [← HL.out, HD.out]), HBr.out⟩
set_option maxRecDepth 100000 in
set_option maxHeartbeats 16000000 in
theorem orderOf_succ (d : Nat) (IH : OrI d) : OrI (d + 1) := by
  rintro x y w ⟨⟨_, _, _, _, ⟨_, _, xv3⟩, ⟨_, _, xw3⟩, _⟩, ⟨_, _, xa3⟩, xV, xW, xA, xC⟩ ⟨⟨_, _, _, _, ⟨_, _, yv3⟩, ⟨_, _, yw3⟩, _⟩, ⟨_, _, ya3⟩, yV, yW, yA, yC⟩
  have CV := Lib.hid (fun w h1 h2 => cmpFnVR_any x.nd.va y.nd.va x.nd.vals y.nd.vals _ x.nd.vc _ y.nd.vc w rfl rfl xv3 yv3 h1 h2)
  have CW := Lib.hid (fun q w h1 h2 hq => cmpFnWR_any x.nd.wa y.nd.wa x.nd.whs y.nd.whs _ x.nd.wc _ y.nd.wc q w rfl rfl xw3 yw3 h1 h2 hq)
  have CA := Lib.hid (fun w h1 h2 h3 h4 => cmpFnCR_any x.nd.aa y.nd.aa x.args y.args _ x.nd.ac _ y.nd.ac d w rfl rfl (wdM_le xa3) (wdM_le ya3) h1 h2 h3 h4 IH)
  have CI := Lib.hid (fun w => placeR_any x.nd.sign w)
  have CJ := Lib.hid (fun w => placeR_any y.nd.sign w)
  have HXV := Lib.hid xV
  have HXW := Lib.hid xW
  have HXA := Lib.hid xA
  have HXC := Lib.hid xC
  have HYV := Lib.hid yV
  have HYW := Lib.hid yW
  have HYA := Lib.hid yA
  have HYC := Lib.hid yC
  clear xv3 xw3 xa3 xV xW xA xC yv3 yw3 ya3 yV yW yA yC IH
  have HE : Hid (ordC (d + 1) x y = orF [Frac.cmpI x.nd.kind y.nd.kind, cmpB x.nd.name y.nd.name, cmpB x.nd.field y.nd.field, Frac.cmpI (idxS sgnL x.nd.sign) (idxS sgnL y.nd.sign), lexC vlC x.nd.vals y.nd.vals, lexC whC x.nd.whs y.nd.whs, Frac.cmpI x.nd.within y.nd.within, Frac.cmpI x.nd.number y.nd.number, lexC (ordC d) x.args y.args]) := Lib.hid rfl
  rw [HE.out]
  clear HE
  obtain ⟨I, hI⟩ : ∃ z, idxS sgnL x.nd.sign = z := ⟨_, rfl⟩
  obtain ⟨J, hJ⟩ : ∃ z, idxS sgnL y.nd.sign = z := ⟨_, rfl⟩
  obtain ⟨VV, hVV⟩ : ∃ z, lexC vlC x.nd.vals y.nd.vals = z := ⟨_, rfl⟩
  obtain ⟨WW, hWW⟩ : ∃ z, lexC whC x.nd.whs y.nd.whs = z := ⟨_, rfl⟩
  obtain ⟨AA, hAA⟩ : ∃ z, lexC (ordC d) x.args y.args = z := ⟨_, rfl⟩
  rw [hI] at CI ⊢
  rw [hJ] at CJ ⊢
  rw [hVV] at CV ⊢
  rw [hWW] at CW ⊢
  rw [hAA] at CA ⊢
  clear hI hJ hVV hWW hAA
  unfold Cn.agg
  obtain ⟨⟨xkind, xname, xfield, xsign, xva, xvc, xvals, xwa, xwc, xwhs, xwithin, xnumber, xaa, xac⟩, xargs⟩ := x
  obtain ⟨⟨ykind, yname, yfield, ysign, yva, yvc, yvals, ywa, ywc, ywhs, ywithin, ynumber, yaa, yac⟩, yargs⟩ := y
  simp only [Cn.nd, Cn.args] at *
  obtain ⟨xnv, hxnv⟩ : ∃ z, xvals.length = z := ⟨_, rfl⟩
  rw [hxnv] at CV ⊢
  clear hxnv
  obtain ⟨xnw, hxnw⟩ : ∃ z, xwhs.length = z := ⟨_, rfl⟩
  rw [hxnw] at CW ⊢
  clear hxnw
  obtain ⟨xna, hxna⟩ : ∃ z, xargs.length = z := ⟨_, rfl⟩
  rw [hxna] at CA ⊢
  clear hxna
  obtain ⟨ynv, hynv⟩ : ∃ z, yvals.length = z := ⟨_, rfl⟩
  rw [hynv] at CV ⊢
  clear hynv
  obtain ⟨ynw, hynw⟩ : ∃ z, ywhs.length = z := ⟨_, rfl⟩
  rw [hynw] at CW ⊢
  clear hynw
  obtain ⟨yna, hyna⟩ : ∃ z, yargs.length = z := ⟨_, rfl⟩
  rw [hyna] at CA ⊢
  clear hyna
  have HOR := Lib.hid (fun (w' : World) => or_any w'.heap.size [Frac.cmpI xkind ykind, cmpB xname yname, cmpB xfield yfield, Frac.cmpI I J, VV, WW, Frac.cmpI xwithin ywithin, Frac.cmpI xnumber ynumber, AA] 9 9 (w'.alloc (.cells #[.int .i64 (Frac.cmpI xkind ykind), .int .i64 (cmpB xname yname), .int .i64 (cmpB xfield yfield), .int .i64 (Frac.cmpI I J), .int .i64 VV, .int .i64 WW, .int .i64 (Frac.cmpI xwithin ywithin), .int .i64 (Frac.cmpI xnumber ynumber), .int .i64 AA] 3)) rfl (by omega) (heap_alloc_new w' _))
  generalize orF [Frac.cmpI xkind ykind, cmpB xname yname, cmpB xfield yfield, Frac.cmpI I J, VV, WW, Frac.cmpI xwithin ywithin, Frac.cmpI xnumber ynumber, AA] = R at *
  obtain ⟨w1, hw1⟩ : ∃ z, w.alloc (.cells #[.int .i64 xkind, .string xname, .string xfield, .string xsign, .slice xva xnv xvc, .slice xwa xnw xwc, .int .i64 xwithin, .int .i64 xnumber, .slice xaa xna xac] 30) = z := ⟨_, rfl⟩
  obtain ⟨w2, hw2⟩ : ∃ z, w1.alloc (.cells #[.int .i64 ykind, .string yname, .string yfield, .string ysign, .slice yva ynv yvc, .slice ywa ynw ywc, .int .i64 ywithin, .int .i64 ynumber, .slice yaa yna yac] 30) = z := ⟨_, rfl⟩
  obtain ⟨w3, hw3⟩ : ∃ z, w2.alloc (.cells #[.func (.func 110) #[] #[]] 129) = z := ⟨_, rfl⟩
  have hz1 : w1.heap.size = w.heap.size + 1 := by rw [← hw1]; exact World.size_alloc _ _
  have hz2 : w2.heap.size = w.heap.size + 1 + 1 := by rw [← hw2, World.size_alloc, hz1]
  have HB := Lib.hid (show Below w.heap.size w w3 by rw [← hw3, ← hw2, ← hw1]; exact (((Below.refl _ _).alloc (Nat.le_refl _) _).alloc (by simp) _).alloc (by simp; omega) _)
  have X := Lib.hid (show XB w3 w.heap.size [.int .i64 xkind, .string xname, .string xfield, .string xsign, .slice xva xnv xvc, .slice xwa xnw xwc, .int .i64 xwithin, .int .i64 xnumber, .slice xaa xna xac] by rw [← hw3, ← hw2, ← hw1]; exact ((XB.new w [.int .i64 xkind, .string xname, .string xfield, .string xsign, .slice xva xnv xvc, .slice xwa xnw xwc, .int .i64 xwithin, .int .i64 xnumber, .slice xaa xna xac] 30).alloc _).alloc _)
  have Y := Lib.hid (show XB w3 (w.heap.size + 1) [.int .i64 ykind, .string yname, .string yfield, .string ysign, .slice yva ynv yvc, .slice ywa ynw ywc, .int .i64 ywithin, .int .i64 ynumber, .slice yaa yna yac] by rw [← hw3, ← hw2, ← hz1]; exact (XB.new w1 [.int .i64 ykind, .string yname, .string yfield, .string ysign, .slice yva ynv yvc, .slice ywa ynw ywc, .int .i64 ywithin, .int .i64 ynumber, .slice yaa yna yac] 30).alloc _)
  have Z := Lib.hid (show XB w3 (w.heap.size + 1 + 1) [.func (.func 110) #[] #[]] by rw [← hw3, ← hz2]; exact XB.new w2 [.func (.func 110) #[] #[]] 129)
  have HXV3 := Lib.hid (HXV.out.below HB.out)
  have HXW3 := Lib.hid (HXW.out.below HB.out)
  have HXA3 := Lib.hid (HXA.out.below HB.out)
  have HXC3 := Lib.hid (fun x hx => (HXC.out x hx).below HB.out)
  have HYV3 := Lib.hid (HYV.out.below HB.out)
  have HYW3 := Lib.hid (HYW.out.below HB.out)
  have HYA3 := Lib.hid (HYA.out.below HB.out)
  have HYC3 := Lib.hid (fun x hx => (HYC.out x hx).below HB.out)
  have HW1 := Lib.hid hw1
  have HW2 := Lib.hid hw2
  have HW3 := Lib.hid hw3
  have HZ2 := Lib.hid hz2
  clear hw1 hw2 hw3 hz1 hz2 HXV HXW HXA HXC HYV HYW HYA HYC
  have hmf : ∀ (fn : Fn) (first cap : Array Value) (w : World), (Instr.makeFunc fn first cap).run Tryz.prog w = .ok (.func fn first cap) w := fun _ _ _ _ => rfl
  go_enter Tryz.func63, Tryz.ntmps63
  go_upto_region 1 with (fail)
  rw [HW1.out, HW2.out]
  clear HW1
  go_upto_region 3 with (fail)
  rw [HW3.out]
  try rw [HZ2.out]
  clear HW2 HW3 HZ2 w1 w2
  obtain ⟨q3, hq3⟩ : ∃ z, w.heap.size = z := ⟨_, rfl⟩
  rw [hq3] at X Y Z ⊢
  clear hq3
  have K0 := Lib.hid (fun w' (hb : Below w3.heap.size w3 w') => (show (w'.cell? ⟨q3, 0, none⟩ = some (.int .i64 xkind) ∧ w'.cell? ⟨q3, 1, none⟩ = some (.string xname) ∧ w'.cell? ⟨q3, 2, none⟩ = some (.string xfield) ∧ w'.cell? ⟨q3, 3, none⟩ = some (.string xsign) ∧ w'.cell? ⟨q3, 4, none⟩ = some (.slice xva xnv xvc) ∧ w'.cell? ⟨q3, 5, none⟩ = some (.slice xwa xnw xwc) ∧ w'.cell? ⟨q3, 6, none⟩ = some (.int .i64 xwithin) ∧ w'.cell? ⟨q3, 7, none⟩ = some (.int .i64 xnumber) ∧ w'.cell? ⟨q3, 8, none⟩ = some (.slice xaa xna xac) ∧ w'.cell? ⟨q3 + 1, 0, none⟩ = some (.int .i64 ykind) ∧ w'.cell? ⟨q3 + 1, 1, none⟩ = some (.string yname) ∧ w'.cell? ⟨q3 + 1, 2, none⟩ = some (.string yfield) ∧ w'.cell? ⟨q3 + 1, 3, none⟩ = some (.string ysign) ∧ w'.cell? ⟨q3 + 1, 4, none⟩ = some (.slice yva ynv yvc) ∧ w'.cell? ⟨q3 + 1, 5, none⟩ = some (.slice ywa ynw ywc) ∧ w'.cell? ⟨q3 + 1, 6, none⟩ = some (.int .i64 ywithin) ∧ w'.cell? ⟨q3 + 1, 7, none⟩ = some (.int .i64 ynumber) ∧ w'.cell? ⟨q3 + 1, 8, none⟩ = some (.slice yaa yna yac) ∧ w'.cell? ⟨q3 + 1 + 1, 0, none⟩ = some (.func (.func 110) #[] #[])) ∧ Below w3.heap.size w3 w' from ⟨⟨(X.out.below hb).2 0 _ rfl, (X.out.below hb).2 1 _ rfl, (X.out.below hb).2 2 _ rfl, (X.out.below hb).2 3 _ rfl, (X.out.below hb).2 4 _ rfl, (X.out.below hb).2 5 _ rfl, (X.out.below hb).2 6 _ rfl, (X.out.below hb).2 7 _ rfl, (X.out.below hb).2 8 _ rfl, (Y.out.below hb).2 0 _ rfl, (Y.out.below hb).2 1 _ rfl, (Y.out.below hb).2 2 _ rfl, (Y.out.below hb).2 3 _ rfl, (Y.out.below hb).2 4 _ rfl, (Y.out.below hb).2 5 _ rfl, (Y.out.below hb).2 6 _ rfl, (Y.out.below hb).2 7 _ rfl, (Y.out.below hb).2 8 _ rfl, (Z.out.below hb).2 0 _ rfl⟩, hb⟩))
  go_region_held3 (fun w' => (w'.cell? ⟨q3, 0, none⟩ = some (.int .i64 xkind) ∧ w'.cell? ⟨q3, 1, none⟩ = some (.string xname) ∧ w'.cell? ⟨q3, 2, none⟩ = some (.string xfield) ∧ w'.cell? ⟨q3, 3, none⟩ = some (.string xsign) ∧ w'.cell? ⟨q3, 4, none⟩ = some (.slice xva xnv xvc) ∧ w'.cell? ⟨q3, 5, none⟩ = some (.slice xwa xnw xwc) ∧ w'.cell? ⟨q3, 6, none⟩ = some (.int .i64 xwithin) ∧ w'.cell? ⟨q3, 7, none⟩ = some (.int .i64 xnumber) ∧ w'.cell? ⟨q3, 8, none⟩ = some (.slice xaa xna xac) ∧ w'.cell? ⟨q3 + 1, 0, none⟩ = some (.int .i64 ykind) ∧ w'.cell? ⟨q3 + 1, 1, none⟩ = some (.string yname) ∧ w'.cell? ⟨q3 + 1, 2, none⟩ = some (.string yfield) ∧ w'.cell? ⟨q3 + 1, 3, none⟩ = some (.string ysign) ∧ w'.cell? ⟨q3 + 1, 4, none⟩ = some (.slice yva ynv yvc) ∧ w'.cell? ⟨q3 + 1, 5, none⟩ = some (.slice ywa ynw ywc) ∧ w'.cell? ⟨q3 + 1, 6, none⟩ = some (.int .i64 ywithin) ∧ w'.cell? ⟨q3 + 1, 7, none⟩ = some (.int .i64 ynumber) ∧ w'.cell? ⟨q3 + 1, 8, none⟩ = some (.slice yaa yna yac) ∧ w'.cell? ⟨q3 + 1 + 1, 0, none⟩ = some (.func (.func 110) #[] #[])) ∧ Below w3.heap.size w3 w')
    (first | assumption | (exact K0.out _ (Below.refl _ _).drew) | (refine K0.out _ (Below.trans (And.right (by assumption)) (hb.mono ?_)); exact (And.right (by assumption) : Below _ _ _).size) | (refine K0.out _ (Below.alloc (And.right (by assumption)) ?_ _); exact (And.right (by assumption) : Below _ _ _).size))
    (first | (go_at_call 113; refine (HOR.out _).mono ?_; rintro e w' ⟨rfl, rfl⟩) | (go_at_call 114; refine (strCompareN _ _ _).mono ?_; rintro e w' ⟨rfl, rfl⟩) | (go_at_call 66; refine (cmpIntN _ _ _).mono ?_; rintro e w' ⟨rfl, rfl⟩) | (go_at_call 110; first | (refine (CI.out _).mono ?_; rintro e w' ⟨rfl, hb⟩) | (refine (CJ.out _).mono ?_; rintro e w' ⟨rfl, hb⟩)) | (go_at_call 116; refine (CV.out _ (HXV3.out.below (And.right (by assumption))) (HYV3.out.below (And.right (by assumption)))).mono ?_; rintro e w' ⟨rfl, hb⟩) | (go_at_call 117; refine (CW.out _ _ (HXW3.out.below (And.right (by assumption))) (HYW3.out.below (And.right (by assumption))) (Z.out.below (And.right (by assumption)))).mono ?_; rintro e w' ⟨rfl, hb⟩) | (go_at_call 118; refine (CA.out _ (HXA3.out.below (And.right (by assumption))) (HYA3.out.below (And.right (by assumption))) (fun x hx => (HXC3.out x hx).below (And.right (by assumption))) (fun x hx => (HYC3.out x hx).below (And.right (by assumption)))).mono ?_; rintro e w' ⟨rfl, hb⟩))
  all_goals
    have hE : Below w3.heap.size w3 _ := And.right (by assumption)
    have HE := Lib.hid (HB.out.trans (hE.mono HB.out.size))
    clear K0
    go_wp2_with fail
    go_ret
    exact ⟨rfl, HE.out⟩
theorem orderOf_any : ∀ d, OrI d
  | 0 => fun _ _ _ h => h.elim
  | d + 1 => orderOf_succ d (orderOf_any d)
end Go.Proofs.YtfdpfkdfglombaaGreatDoor
/- How far a condition looks back: Memory$1, MemoryOf$1, segment.Memory, handref1.MemoryOf (printed by gen_memc.py). -/
set_option linter.unusedVariables false
namespace Go.Proofs.YtfdpfkdfglombaaGreatDoor
open Go.RowKit

/-- one number in a box -/
structure MmI (n q : Nat) (m : Int) (w : World) : Prop where
  b : OB w q [.int .i64 m] 3
  e : n ≤ q
def MmS (n q : Nat) (_ : Nat) (m : Int) (w : World) : Prop := MmI n q m w
def MmR (n q : Nat) (w w' : World) : Prop := Below n w w' ∧ w.grownBy w' (some q)
def MmF (q : Nat) (w : World) (k : Nat) : Prop := k < w.heap.size ∧ k ≠ q
theorem mmOk {n q : Nat} : WkOk (MmS n q) (MmR n q) (MmF q) n where
  trans := fun h h' => ⟨h.1.trans h'.1, grown_trans h.2 h'.2⟩
  low := fun h => h.1
  al := fun {k s w} h o => ⟨⟨h.b.alloc o, h.e⟩, ⟨(Below.refl _ _).alloc (by have := h.b.lt; have := h.e; omega) o, World.grownBy_alloc _ _ _⟩, by
    refine ⟨by rw [World.size_alloc]; omega, ?_⟩
    have := h.b.lt
    omega⟩
  keep := fun {w w' k} h hk => ⟨h.2.block k hk.1 (fun e => hk.2 (Option.some.inj e)), Nat.lt_of_lt_of_le hk.1 h.2.size, hk.2⟩
theorem MmI.put {n q : Nat} {m m' : Int} {w : World} (h : MmI n q m w) : MmI n q m' (w.setCell ⟨q, 0, none⟩ (.int .i64 m')) ∧ MmR n q w (w.setCell ⟨q, 0, none⟩ (.int .i64 m')) :=
  ⟨⟨h.b.put 0 _ rfl, h.e⟩, (Below.refl n w).setCell (by show n ≤ q; exact h.e) _, set_grown w q _⟩
/-- a flag and a number in boxes -/
structure MrI (n q2 q3 : Nat) (s : Int × Bool) (w : World) : Prop where
  b2 : OB w q2 [.bool s.2] 4
  b3 : OB w q3 [.int .i64 s.1] 3
  e2 : n ≤ q2
  e3 : n ≤ q3
  ne : q2 ≠ q3
def MrS (n q2 q3 : Nat) (_ : Nat) (s : Int × Bool) (w : World) : Prop := MrI n q2 q3 s w
def MrF (q2 q3 : Nat) (w : World) (k : Nat) : Prop := k < w.heap.size ∧ k ≠ q2 ∧ k ≠ q3
def MrR (n q2 q3 : Nat) (w w' : World) : Prop := Below n w w' ∧ w.heap.size ≤ w'.heap.size ∧ ∀ k, MrF q2 q3 w k → w'.heap[k]? = w.heap[k]?
theorem mrOk {n q2 q3 : Nat} : WkOk (MrS n q2 q3) (MrR n q2 q3) (MrF q2 q3) n where
  trans := fun h h' => ⟨h.1.trans h'.1, Nat.le_trans h.2.1 h'.2.1, fun k hk => (h'.2.2 k ⟨Nat.lt_of_lt_of_le hk.1 h.2.1, hk.2⟩).trans (h.2.2 k hk)⟩
  low := fun h => h.1
  al := fun {k s w} h o => ⟨⟨h.b2.alloc o, h.b3.alloc o, h.e2, h.e3, h.ne⟩, ⟨(Below.refl _ _).alloc (by have := h.b2.lt; have := h.e2; omega) o, by rw [World.size_alloc]; omega, fun k hk => Below.heap_alloc w o k hk.1⟩, by
    have h1 := h.b2.lt
    have h2 := h.b3.lt
    exact ⟨by rw [World.size_alloc]; omega, by omega, by omega⟩⟩
  keep := fun {w w' k} h hk => ⟨h.2.2 k hk, Nat.lt_of_lt_of_le hk.1 h.2.1, hk.2⟩
theorem MrI.put2 {n q2 q3 : Nat} {s : Int × Bool} {b : Bool} {w : World} (h : MrI n q2 q3 s w) : MrI n q2 q3 (s.1, b) (w.setCell ⟨q2, 0, none⟩ (.bool b)) ∧ MrR n q2 q3 w (w.setCell ⟨q2, 0, none⟩ (.bool b)) :=
  ⟨⟨h.b2.put 0 _ rfl, h.b3.grown (set_grown w q2 _) (fun e => h.ne (Option.some.inj e)), h.e2, h.e3, h.ne⟩, (Below.refl n w).setCell (by show n ≤ q2; exact h.e2) _, by simp [World.setCell], fun k hk => (set_grown w q2 _).block k hk.1 (fun e => hk.2.1 (Option.some.inj e))⟩
theorem MrI.put3 {n q2 q3 : Nat} {s : Int × Bool} {m : Int} {w : World} (h : MrI n q2 q3 s w) : MrI n q2 q3 (m, s.2) (w.setCell ⟨q3, 0, none⟩ (.int .i64 m)) ∧ MrR n q2 q3 w (w.setCell ⟨q3, 0, none⟩ (.int .i64 m)) :=
  ⟨⟨h.b2.grown (set_grown w q3 _) (fun e => h.ne (Option.some.inj e).symm), h.b3.put 0 _ rfl, h.e2, h.e3, h.ne⟩, (Below.refl n w).setCell (by show n ≤ q3; exact h.e3) _, by simp [World.setCell], fun k hk => (set_grown w q3 _).block k hk.1 (fun e => hk.2.2 (Option.some.inj e))⟩
set_option maxRecDepth 100000 in
set_option maxHeartbeats 4000000 in
theorem memC_any (n q : Nat) (x : Cn) (k : Nat) (m : Int) (w : World) (hok : x.nd.ok) (hk : k ≤ 1000) (hI : MmS n q k m w) :
    Calls Tryz.prog 56 #[x.agg, .pointer (some ⟨q, 0, none⟩)] w (WkO (MmS n q) (MmR n q) (k + 1) (mpF m x.nd) w (.int .i64 0)) := by
  have hE : mpF m x.nd = max (if evrN x.nd = true then big60 else m) x.nd.within := rfl
  have h13 : x.nd.kind = 13 → evrN x.nd = true := fun h => by unfold evrN; simp [h]
  have hev : ¬ x.nd.kind = 13 → (11 ≤ x.nd.kind ∧ x.nd.kind ≤ 14) → (x.nd.within = 0 → evrN x.nd = true) ∧ (¬ x.nd.within = 0 → evrN x.nd = false) := fun h h' => ⟨fun h0 => by unfold evrN; simp [h, h', h0], fun h0 => by unfold evrN; simp [h, h', h0]⟩
  have hno : ¬ x.nd.kind = 13 → ¬ (11 ≤ x.nd.kind ∧ x.nd.kind ≤ 14) → evrN x.nd = false := fun h h' => by
    unfold evrN
    rw [decide_eq_false h, decide_eq_false h']; rfl
  rw [hE]
  clear hE hok
  obtain ⟨ev, hev0⟩ : ∃ z, evrN x.nd = z := ⟨_, rfl⟩
  rw [hev0] at h13 hev hno ⊢
  have H13 := Lib.hid h13
  have HEV := Lib.hid hev
  have HNO := Lib.hid hno
  clear hev0 h13 hev hno
  obtain ⟨M1, hM1⟩ : ∃ z, (if ev = true then big60 else m) = z := ⟨_, rfl⟩
  rw [hM1]
  have HM1 := Lib.hid hM1
  clear hM1
  unfold Cn.agg at *
  obtain ⟨nd, args⟩ := x
  obtain ⟨kind, name, field, sign, va, vc, vals, wa, wcp, whs, within, number, aa, ac⟩ := nd
  simp only [Cn.nd, Cn.args] at *
  obtain ⟨nv, hnv⟩ : ∃ z, vals.length = z := ⟨_, rfl⟩
  obtain ⟨nw, hnw⟩ : ∃ z, whs.length = z := ⟨_, rfl⟩
  obtain ⟨na, hna⟩ : ∃ z, args.length = z := ⟨_, rfl⟩
  rw [hnv, hnw, hna]
  clear hnv hnw hna
  have hI' : MmI n q m w := hI
  have HI := Lib.hid hI'
  have HAL := Lib.hid ((mmOk (n := n) (q := q)).al (k := k) (s := m) (w := w) hI (.cells #[.int .i64 kind, .string name, .string field, .string sign, .slice va nv vc, .slice wa nw wcp, .int .i64 within, .int .i64 number, .slice aa na ac] 30))
  have HX := Lib.hid (XB.new w [.int .i64 kind, .string name, .string field, .string sign, .slice va nv vc, .slice wa nw wcp, .int .i64 within, .int .i64 number, .slice aa na ac] 30)
  simp only [List.toArray] at HX
  clear hI hI'
  go_enter Tryz.func56, Tryz.ntmps56
  go_upto_region 1 with (fail)
  have HI1 : Hid (MmI n q m (w.alloc (.cells #[.int .i64 kind, .string name, .string field, .string sign, .slice va nv vc, .slice wa nw wcp, .int .i64 within, .int .i64 number, .slice aa na ac] 30))) := Lib.hid HAL.out.1
  have HR1 := Lib.hid HAL.out.2.1
  have HF1 := Lib.hid HAL.out.2.2
  clear HAL HI
  obtain ⟨p, hp⟩ : ∃ z, w.heap.size = z := ⟨_, rfl⟩
  rw [hp] at HX HF1 ⊢
  clear hp
  generalize w.alloc (.cells #[.int .i64 kind, .string name, .string field, .string sign, .slice va nv vc, .slice wa nw wcp, .int .i64 within, .int .i64 number, .slice aa na ac] 30) = wb at *
  go_cut [15] (fun v wx => v = .bool ev ∧ MmI n q m wx ∧ MmR n q w wx ∧ XB wx p [.int .i64 kind, .string name, .string field, .string sign, .slice va nv vc, .slice wa nw wcp, .int .i64 within, .int .i64 number, .slice aa na ac] ∧ MmF q wx p)
  case first =>
    have x0 := HX.out.2 0 _ rfl
    have x1 := HX.out.2 1 _ rfl
    have x2 := HX.out.2 2 _ rfl
    have x3 := HX.out.2 3 _ rfl
    have x4 := HX.out.2 4 _ rfl
    have x5 := HX.out.2 5 _ rfl
    have x6 := HX.out.2 6 _ rfl
    have x7 := HX.out.2 7 _ rfl
    have x8 := HX.out.2 8 _ rfl
    have xl := HX.out.1
    by_cases h13 : kind = 13
    · have e9 := H13.out h13
      subst e9
      have e13 : (kind == 13) = true := by simpa using h13
      clear h13
      go_wp2_with fail
      go_meet
      exact ⟨rfl, HI1.out, HR1.out, HX.out, HF1.out⟩
    · have e13 : (kind == 13) = false := by simpa using h13
      by_cases hev : 11 ≤ kind ∧ kind ≤ 14
      · have e9 := HEV.out h13 hev
        have C := Lib.hid (fun w => ofEvents_any true kind name field sign va wa aa nv vc nw wcp na ac within number w (decide_eq_true hev))
        clear H13 HEV HNO h13 hev
        go_wp2_with fail
        with_reducible refine (C.out _).mono ?_
        rintro e w1 ⟨rfl, rfl⟩
        have HA := Lib.hid ((mmOk (n := n) (q := q)).al (k := k) (show MmS n q k m wb from HI1.out) (.cells #[.int .i64 kind, .string name, .string field, .string sign, .slice va nv vc, .slice wa nw wcp, .int .i64 within, .int .i64 number, .slice aa na ac] 30))
        have HX' := Lib.hid (HX.out.alloc (.cells #[.int .i64 kind, .string name, .string field, .string sign, .slice va nv vc, .slice wa nw wcp, .int .i64 within, .int .i64 number, .slice aa na ac] 30))
        have HK := Lib.hid (mmOk.keep HA.out.2.1 HF1.out).2
        have HI' : Hid (MmI n q m (wb.alloc (.cells #[.int .i64 kind, .string name, .string field, .string sign, .slice va nv vc, .slice wa nw wcp, .int .i64 within, .int .i64 number, .slice aa na ac] 30))) := Lib.hid HA.out.1
        have HR' := Lib.hid (mmOk.trans HR1.out HA.out.2.1)
        have y6 := HX'.out.2 6 _ rfl
        have yl := HX'.out.1
        clear HA x0 x1 x2 x3 x4 x5 x6 x7 x8 xl
        generalize wb.alloc (.cells #[.int .i64 kind, .string name, .string field, .string sign, .slice va nv vc, .slice wa nw wcp, .int .i64 within, .int .i64 number, .slice aa na ac] 30) = wb at *
        by_cases h0 : within = 0
        · have e8 := e9.1 h0
          subst e8
          have e0 : (within == 0) = true := by simpa using h0
          clear h0 e9
          go_wp2_with fail
          go_meet
          exact ⟨rfl, HI'.out, HR'.out, HX'.out, HK.out⟩
        · have e8 := e9.2 h0
          subst e8
          have e0 : (within == 0) = false := by simpa using h0
          clear h0 e9
          go_wp2_with fail
          go_meet
          exact ⟨rfl, HI'.out, HR'.out, HX'.out, HK.out⟩
      · have e9 := HNO.out h13 hev
        subst e9
        have C := Lib.hid (fun w => ofEvents_any false kind name field sign va wa aa nv vc nw wcp na ac within number w (decide_eq_false hev))
        clear H13 HEV HNO h13 hev
        go_wp2_with fail
        with_reducible refine (C.out _).mono ?_
        rintro e w1 ⟨rfl, rfl⟩
        have HA := Lib.hid ((mmOk (n := n) (q := q)).al (k := k) (show MmS n q k m wb from HI1.out) (.cells #[.int .i64 kind, .string name, .string field, .string sign, .slice va nv vc, .slice wa nw wcp, .int .i64 within, .int .i64 number, .slice aa na ac] 30))
        have HX' := Lib.hid (HX.out.alloc (.cells #[.int .i64 kind, .string name, .string field, .string sign, .slice va nv vc, .slice wa nw wcp, .int .i64 within, .int .i64 number, .slice aa na ac] 30))
        have HK := Lib.hid (mmOk.keep HA.out.2.1 HF1.out).2
        have HI' : Hid (MmI n q m (wb.alloc (.cells #[.int .i64 kind, .string name, .string field, .string sign, .slice va nv vc, .slice wa nw wcp, .int .i64 within, .int .i64 number, .slice aa na ac] 30))) := Lib.hid HA.out.1
        have HR' := Lib.hid (mmOk.trans HR1.out HA.out.2.1)
        clear HA x0 x1 x2 x3 x4 x5 x6 x7 x8 xl
        generalize wb.alloc (.cells #[.int .i64 kind, .string name, .string field, .string sign, .slice va nv vc, .slice wa nw wcp, .int .i64 within, .int .i64 number, .slice aa na ac] 30) = wb at *
        go_wp2_with fail
        go_meet
        exact ⟨rfl, HI'.out, HR'.out, HX'.out, HK.out⟩
  case rest =>
  obtain ⟨rfl, hI, hR, hX, hF⟩ := hcut
  clear HI1 HR1 HX HF1 H13 HEV HNO
  have HI := Lib.hid hI
  have HR := Lib.hid hR
  have HX := Lib.hid hX
  have HF := Lib.hid hF
  clear hI hR hX hF
  generalize wc = wb at *
  go_upto_if 15 with (fail)
  go_cut [] (fun wx => MmI n q M1 wx ∧ MmR n q w wx ∧ XB wx p [.int .i64 kind, .string name, .string field, .string sign, .slice va nv vc, .slice wa nw wcp, .int .i64 within, .int .i64 number, .slice aa na ac])
  case first =>
    cases ev with
    | true =>
      obtain rfl : big60 = M1 := HM1.out
      have c0 := HI.out.b.cell 0 _ rfl
      have f0 := HI.out.b.free 0
      have l0 := HI.out.b.lt
      obtain ⟨i1, r1⟩ := HI.out.put (m' := big60)
      have HI1 := Lib.hid i1
      have HR1 := Lib.hid (mmOk.trans HR.out r1)
      have HX1 := Lib.hid (HX.out.same (mmOk.keep r1 HF.out).1)
      clear i1 r1
      go_wp2_with fail
      go_meet
      exact ⟨HI1.out, HR1.out, HX1.out⟩
    | false =>
      obtain rfl : m = M1 := HM1.out
      go_wp2_with fail
      go_meet
      exact ⟨HI.out, HR.out, HX.out⟩
  case rest =>
  obtain ⟨hI, hR, hX⟩ := hcut
  clear HI HR HX HF HM1
  have HI := Lib.hid hI
  have HR := Lib.hid hR
  have HX := Lib.hid hX
  clear hI hR hX
  generalize wc = wb at *
  have c0 := HI.out.b.cell 0 _ rfl
  have f0 := HI.out.b.free 0
  have l0 := HI.out.b.lt
  have x6 := HX.out.2 6 _ rfl
  have xl := HX.out.1
  obtain ⟨i1, r1⟩ := HI.out.put (m' := max M1 within)
  have HI1 := Lib.hid i1
  have HR1 := Lib.hid (mmOk.trans HR.out r1)
  clear i1 r1 HI HR HX
  go_wp2_with fail
  go_ret
  exact ⟨rfl, HI1.out, HR1.out⟩
set_option maxRecDepth 100000 in
set_option maxHeartbeats 4000000 in
theorem memR_any (n q2 q3 : Nat) (x : Cn) (k : Nat) (s : Int × Bool) (w : World) (hok : x.nd.ok) (hG : 1 ≤ x.nd.kind ∧ x.nd.kind ≤ 14) (hk : k ≤ 1000) (hI : MrS n q2 q3 k s w) :
    Calls Tryz.prog 62 #[x.agg, .pointer (some ⟨q2, 0, none⟩), .pointer (some ⟨q3, 0, none⟩)] w (WkO (MrS n q2 q3) (MrR n q2 q3) (k + 1) (mrF s x.nd) w (.tuple #[])) := by
  obtain ⟨s1, s2⟩ := s
  have hE : mrF (s1, s2) x.nd = (max s1 x.nd.within, s2 || evrN x.nd) := rfl
  have h1 : s2 = true → (s2 || evrN x.nd) = true := fun h => by rw [h]; rfl
  have h2 : s2 = false → x.nd.kind = 13 → (s2 || evrN x.nd) = true := fun h h' => by rw [h]; unfold evrN; simp [h']
  have h3 : s2 = false → ¬ x.nd.kind = 13 → 11 ≤ x.nd.kind → x.nd.within = 0 → (s2 || evrN x.nd) = true := fun h h' h'' h0 => by rw [h]; unfold evrN; simp [h0, h'', hG.2]
  have h4 : s2 = false → ¬ x.nd.kind = 13 → 11 ≤ x.nd.kind → ¬ x.nd.within = 0 → (s2 || evrN x.nd) = false := fun h h' h'' h0 => by rw [h]; unfold evrN; simp [h0, h']
  have h5 : s2 = false → ¬ 11 ≤ x.nd.kind → (s2 || evrN x.nd) = false := fun h h' => by
    rw [h]; unfold evrN
    rw [decide_eq_false (by omega), decide_eq_false (by omega)]; rfl
  rw [hE]
  clear hE hok hG
  obtain ⟨ev, hev0⟩ : ∃ z, (s2 || evrN x.nd) = z := ⟨_, rfl⟩
  rw [hev0] at h1 h2 h3 h4 h5 ⊢
  have H1 := Lib.hid h1
  have H2 := Lib.hid h2
  have H3 := Lib.hid h3
  have H4 := Lib.hid h4
  have H5 := Lib.hid h5
  clear hev0 h1 h2 h3 h4 h5
  unfold Cn.agg at *
  obtain ⟨nd, args⟩ := x
  obtain ⟨kind, name, field, sign, va, vc, vals, wa, wcp, whs, within, number, aa, ac⟩ := nd
  simp only [Cn.nd, Cn.args] at *
  obtain ⟨nv, hnv⟩ : ∃ z, vals.length = z := ⟨_, rfl⟩
  obtain ⟨nw, hnw⟩ : ∃ z, whs.length = z := ⟨_, rfl⟩
  obtain ⟨na, hna⟩ : ∃ z, args.length = z := ⟨_, rfl⟩
  rw [hnv, hnw, hna]
  clear hnv hnw hna
  have hI' : MrI n q2 q3 (s1, s2) w := hI
  have HI := Lib.hid hI'
  have HAL := Lib.hid ((mrOk (n := n) (q2 := q2) (q3 := q3)).al (k := k) (s := (s1, s2)) (w := w) hI (.cells #[.int .i64 kind, .string name, .string field, .string sign, .slice va nv vc, .slice wa nw wcp, .int .i64 within, .int .i64 number, .slice aa na ac] 30))
  have HX := Lib.hid (XB.new w [.int .i64 kind, .string name, .string field, .string sign, .slice va nv vc, .slice wa nw wcp, .int .i64 within, .int .i64 number, .slice aa na ac] 30)
  simp only [List.toArray] at HX
  clear hI hI'
  go_enter Tryz.func62, Tryz.ntmps62
  go_upto_region 1 with (fail)
  have HI1 : Hid (MrI n q2 q3 (s1, s2) (w.alloc (.cells #[.int .i64 kind, .string name, .string field, .string sign, .slice va nv vc, .slice wa nw wcp, .int .i64 within, .int .i64 number, .slice aa na ac] 30))) := Lib.hid HAL.out.1
  have HR1 := Lib.hid HAL.out.2.1
  have HF1 := Lib.hid HAL.out.2.2
  clear HAL HI
  obtain ⟨p, hp⟩ : ∃ z, w.heap.size = z := ⟨_, rfl⟩
  rw [hp] at HX HF1 ⊢
  clear hp
  generalize w.alloc (.cells #[.int .i64 kind, .string name, .string field, .string sign, .slice va nv vc, .slice wa nw wcp, .int .i64 within, .int .i64 number, .slice aa na ac] 30) = wb at *
  go_cut [] (fun wx => MrI n q2 q3 (s1, ev) wx ∧ MrR n q2 q3 w wx ∧ XB wx p [.int .i64 kind, .string name, .string field, .string sign, .slice va nv vc, .slice wa nw wcp, .int .i64 within, .int .i64 number, .slice aa na ac])
  case first =>
    have x0 := HX.out.2 0 _ rfl
    have x6 := HX.out.2 6 _ rfl
    have xl := HX.out.1
    have c2 := HI1.out.b2.cell 0 _ rfl
    have f2 := HI1.out.b2.free 0
    have l2 := HI1.out.b2.lt
    obtain ⟨i2, r2⟩ := HI1.out.put2 (b := ev)
    have HI2 := Lib.hid i2
    have HR2 := Lib.hid (mrOk.trans HR1.out r2)
    have HX2 := Lib.hid (HX.out.same (mrOk.keep r2 HF1.out).1)
    clear i2 r2 HI1 HR1 HX HF1
    simp only at c2
    cases s2 with
    | true =>
      have e9 := H1.out rfl
      subst e9
      go_wp2_with fail
      go_meet
      exact ⟨HI2.out, HR2.out, HX2.out⟩
    | false =>
      by_cases h13 : kind = 13
      · have e9 := H2.out rfl h13
        subst e9
        have e13 : (kind == 13) = true := by simpa using h13
        clear h13
        go_wp2_with fail
        go_meet
        exact ⟨HI2.out, HR2.out, HX2.out⟩
      · have e13 : (kind == 13) = false := by simpa using h13
        by_cases h11 : 11 ≤ kind
        · by_cases h0 : within = 0
          · have e9 := H3.out rfl h13 h11 h0
            subst e9
            have e0 : (within == 0) = true := by simpa using h0
            clear h0 h13
            go_wp2_with fail
            go_meet
            exact ⟨HI2.out, HR2.out, HX2.out⟩
          · have e9 := H4.out rfl h13 h11 h0
            subst e9
            have e0 : (within == 0) = false := by simpa using h0
            clear h0 h13
            go_wp2_with fail
            go_meet
            exact ⟨HI2.out, HR2.out, HX2.out⟩
        · have e9 := H5.out rfl h11
          subst e9
          clear h13
          go_wp2_with fail
          go_meet
          exact ⟨HI2.out, HR2.out, HX2.out⟩
  case rest =>
  obtain ⟨hI, hR, hX⟩ := hcut
  clear HI1 HR1 HX HF1 H1 H2 H3 H4 H5
  have HI := Lib.hid hI
  have HR := Lib.hid hR
  have HX := Lib.hid hX
  clear hI hR hX
  generalize wc = wb at *
  have c0 := HI.out.b3.cell 0 _ rfl
  have f0 := HI.out.b3.free 0
  have l0 := HI.out.b3.lt
  simp only at c0
  have x6 := HX.out.2 6 _ rfl
  have xl := HX.out.1
  obtain ⟨i1, r1⟩ := HI.out.put3 (m := max s1 within)
  have HI1 := Lib.hid i1
  have HR1 := Lib.hid (mrOk.trans HR.out r1)
  clear i1 r1 HI HR HX
  go_wp2_with fail
  go_end0
  exact ⟨rfl, HI1.out, HR1.out⟩
def MemO (w : World) (E M : Int) (e : Ending) (w' : World) : Prop := e = .returned (.tuple #[.int .i64 (if E = 0 then M else 0), .int .i64 E]) ∧ Below w.heap.size w w'
set_option maxRecDepth 100000 in
set_option maxHeartbeats 4000000 in
theorem Memory_any (d : Nat) (c : Cn) (w : World) (hT : TAt d w c) (hB : Tbs w) :
    Calls Tryz.prog 16 #[c.agg] w (MemO w (cnE d c) (memE d c)) := by
  have CC := Lib.hid (fun w h1 h2 => checkCond_any d c w h1 h2)
  have HME := Lib.hid (fun (h : cnE d c = 0) => memE_of d c (Fm_of_right d c (right_of h).1).2)
  have HSZ := Lib.hid (fun (h : cnE d c = 0) => (right_of h).2)
  have HLW := Lib.hid (fun n (h : w.heap.size ≤ n) => (show LwT n d c from fun g hg => hT.newFar (by omega)))
  have CW := Lib.hid (fun n q w h1 h2 h3 h4 => walk1_any (G := fun _ => True) (mmOk (n := n) (q := q)) 56 q (enters_of Tryz.func56 (by kernel_rfl) rfl) (fun x k s w a _ c d => memC_any n q x k s w a c d) d c 0 0 w h1 h2 (AllT.true d c) h3 h4)
  have HT := Lib.hid hT
  have HB := Lib.hid hB
  obtain ⟨E, hE⟩ : ∃ z, cnE d c = z := ⟨_, rfl⟩
  obtain ⟨M, hM⟩ : ∃ z, memE d c = z := ⟨_, rfl⟩
  obtain ⟨G, hG⟩ : ∃ z, gT mpF d c 0 = z := ⟨_, rfl⟩
  rw [hE] at CC HME HSZ ⊢
  rw [hM] at HME ⊢
  rw [hG] at HME CW
  clear hE hM hG hT hB
  unfold Cn.agg at *
  obtain ⟨nd, args⟩ := c
  obtain ⟨kind, name, field, sign, va, vc, vals, wa, wcp, whs, within, number, aa, ac⟩ := nd
  simp only [Cn.nd, Cn.args] at *
  obtain ⟨nv, hnv⟩ : ∃ z, vals.length = z := ⟨_, rfl⟩
  obtain ⟨nw, hnw⟩ : ∃ z, whs.length = z := ⟨_, rfl⟩
  obtain ⟨na, hna⟩ : ∃ z, args.length = z := ⟨_, rfl⟩
  rw [hnv, hnw, hna] at CC CW ⊢
  clear hnv hnw hna
  have HX := Lib.hid (XB.new w [.int .i64 kind, .string name, .string field, .string sign, .slice va nv vc, .slice wa nw wcp, .int .i64 within, .int .i64 number, .slice aa na ac] 30)
  have HB1 := Lib.hid ((Below.refl w.heap.size w).alloc (Nat.le_refl _) (.cells #[.int .i64 kind, .string name, .string field, .string sign, .slice va nv vc, .slice wa nw wcp, .int .i64 within, .int .i64 number, .slice aa na ac] 30))
  have HTb := Lib.hid (HB.out.alloc (.cells #[.int .i64 kind, .string name, .string field, .string sign, .slice va nv vc, .slice wa nw wcp, .int .i64 within, .int .i64 number, .slice aa na ac] 30))
  have HTa := Lib.hid (HT.out.alloc (.cells #[.int .i64 kind, .string name, .string field, .string sign, .slice va nv vc, .slice wa nw wcp, .int .i64 within, .int .i64 number, .slice aa na ac] 30))
  clear HB HT
  have hmf : ∀ (fn : Fn) (first cap : Array Value) (w : World), (Instr.makeFunc fn first cap).run Tryz.prog w = .ok (.func fn first cap) w := fun _ _ _ _ => rfl
  go_enter Tryz.func16, Tryz.ntmps16
  go_wp2_with fail
  ((with_reducible refine (CC.out _ HTa.out HTb.out).mono ?_); rintro e w1 ⟨rfl, hb1⟩)
  have HX1 := Lib.hid (HX.out.below hb1)
  have HT1 := Lib.hid (HTa.out.below hb1)
  have HBw := Lib.hid (HB1.out.trans (hb1.mono HB1.out.size))
  clear hb1 HX HTa HTb HB1 CC
  by_cases h0 : E = 0
  · subst h0
    have HX := Lib.hid (HX1.out.alloc (.cells #[.int .i64 0] 3))
    have HT := Lib.hid (HT1.out.alloc (.cells #[.int .i64 0] 3))
    have HBa := Lib.hid (HBw.out.alloc HBw.out.size (.cells #[.int .i64 0] 3))
    have HI : Hid (MmI w1.heap.size w1.heap.size 0 (w1.alloc (.cells #[.int .i64 0] 3))) := Lib.hid ⟨OB.new w1 [.int .i64 0] 3, Nat.le_refl _⟩
    have hsz := HSZ.out rfl
    have HMM := Lib.hid (HME.out rfl)
    clear HME HSZ
    have HL := Lib.hid (HLW.out w1.heap.size HBw.out.size)
    clear HX1 HT1
    go_upto_region 5 with (fail)
    generalize w1.alloc (.cells #[.int .i64 0] 3) = w2 at *
    obtain ⟨q, hq⟩ : ∃ z, w1.heap.size = z := ⟨_, rfl⟩
    have HQ := Lib.hid hq
    rw [hq] at HI HL ⊢
    clear hq
    have HIS : Hid (MmS q q 0 0 w2) := Lib.hid HI.out
    have y0 := HX.out.2 0 _ rfl
    have y1 := HX.out.2 1 _ rfl
    have y2 := HX.out.2 2 _ rfl
    have y3 := HX.out.2 3 _ rfl
    have y4 := HX.out.2 4 _ rfl
    have y5 := HX.out.2 5 _ rfl
    have y6 := HX.out.2 6 _ rfl
    have y7 := HX.out.2 7 _ rfl
    have y8 := HX.out.2 8 _ rfl
    have yl := HX.out.1
    go_wp2_with fail
    ((with_reducible refine (CW.out q q _ HT.out HL.out (by omega) HIS.out).mono ?_); rintro e w3 ⟨rfl, i3, r3⟩)
    have HI3 : Hid (MmI q q G w3) := Lib.hid i3
    have HB3 := Lib.hid (HBa.out.trans (r3.1.mono (by have := HQ.out; have := HBw.out.size; omega)))
    clear i3 r3 CW HT HL HI HIS HBa HBw HX
    have c0 := HI3.out.b.cell 0 _ rfl
    have l0 := HI3.out.b.lt
    have hME := HMM.out
    by_cases hg : G = big60
    · have e9 : M = -1 := by rw [← hME, if_pos hg]
      subst e9
      have hg' : (G == 1152921504606846976) = true := by rw [hg]; rfl
      clear hg hME
      go_wp2_with fail
      go_ret2
      exact ⟨rfl, HB3.out⟩
    · have e9 : M = G := by rw [← hME, if_neg hg]
      subst e9
      have hg' : (M == 1152921504606846976) = false := by
        have : ¬ M = 1152921504606846976 := hg
        simpa using this
      clear hg hME
      go_wp2_with fail
      go_ret2
      exact ⟨rfl, HB3.out⟩
  · have h4 : (E != 0) = true := by simpa using h0
    have H0 := Lib.hid h0
    clear h0 HME HSZ
    go_wp2_with fail
    go_ret2
    exact ⟨by rw [if_neg H0.out]; rfl, HBw.out⟩
set_option maxRecDepth 100000 in
set_option maxHeartbeats 4000000 in
theorem MemoryOf_any (d : Nat) (c : Cn) (w : World) (hT : TAt d w c) (hF : Fm d c) (hs : szN d c ≤ 300) :
    Calls Tryz.prog 21 #[c.agg] w (IntO w (memE d c)) := by
  have HME : Hid (memE d c = if (gT mrF d c (0, false)).2 = true then -1 else (gT mrF d c (0, false)).1) := Lib.hid rfl
  have HFA := Lib.hid (Fm.all d c hF)
  have HLW := Lib.hid (fun n (h : w.heap.size ≤ n) => (show LwT n d c from fun g hg => hT.newFar (by omega)))
  have CW := Lib.hid (fun n q2 q3 w h1 h2 h3 h4 h5 => each2_any (G := fun n => 1 ≤ n.kind ∧ n.kind ≤ 14) (mrOk (n := n) (q2 := q2) (q3 := q3)) 62 q2 q3 (enters_of Tryz.func62 (by kernel_rfl) rfl) (fun x k s w a b c d => memR_any n q2 q3 x k s w a b c d) d c 0 (0, false) w h1 h2 h3 h4 h5)
  have HT := Lib.hid hT
  obtain ⟨M, hM⟩ : ∃ z, memE d c = z := ⟨_, rfl⟩
  obtain ⟨G, hG⟩ : ∃ z, gT mrF d c (0, false) = z := ⟨_, rfl⟩
  rw [hM, hG] at HME
  rw [hG] at CW
  rw [hM]
  clear hM hG hT hF
  obtain ⟨g1, g2⟩ := G
  simp only at HME
  unfold Cn.agg at *
  obtain ⟨nd, args⟩ := c
  obtain ⟨kind, name, field, sign, va, vc, vals, wa, wcp, whs, within, number, aa, ac⟩ := nd
  simp only [Cn.nd, Cn.args] at *
  obtain ⟨nv, hnv⟩ : ∃ z, vals.length = z := ⟨_, rfl⟩
  obtain ⟨nw, hnw⟩ : ∃ z, whs.length = z := ⟨_, rfl⟩
  obtain ⟨na, hna⟩ : ∃ z, args.length = z := ⟨_, rfl⟩
  rw [hnv, hnw, hna] at CW ⊢
  clear hnv hnw hna
  obtain ⟨w1, hw1⟩ : ∃ z, w.alloc (.cells #[.int .i64 kind, .string name, .string field, .string sign, .slice va nv vc, .slice wa nw wcp, .int .i64 within, .int .i64 number, .slice aa na ac] 30) = z := ⟨_, rfl⟩
  obtain ⟨w2, hw2⟩ : ∃ z, w1.alloc (.cells #[.int .i64 0] 3) = z := ⟨_, rfl⟩
  obtain ⟨w3, hw3⟩ : ∃ z, w2.alloc (.cells #[.bool false] 4) = z := ⟨_, rfl⟩
  have hz1 : w1.heap.size = w.heap.size + 1 := by rw [← hw1]; exact World.size_alloc _ _
  have hz2 : w2.heap.size = w.heap.size + 1 + 1 := by rw [← hw2, World.size_alloc, hz1]
  have HB3 := Lib.hid (show Below w.heap.size w w3 by rw [← hw3, ← hw2, ← hw1]; exact (((Below.refl _ _).alloc (Nat.le_refl _) _).alloc (by simp) _).alloc (by simp; omega) _)
  have HX := Lib.hid (show XB w3 w.heap.size [.int .i64 kind, .string name, .string field, .string sign, .slice va nv vc, .slice wa nw wcp, .int .i64 within, .int .i64 number, .slice aa na ac] by rw [← hw3, ← hw2, ← hw1]; exact ((XB.new w [.int .i64 kind, .string name, .string field, .string sign, .slice va nv vc, .slice wa nw wcp, .int .i64 within, .int .i64 number, .slice aa na ac] 30).alloc _).alloc _)
  have hb3 : OB w3 (w.heap.size + 1) [.int .i64 0] 3 := by rw [← hw3, ← hw2, ← hz1]; exact (OB.new w1 [.int .i64 0] 3).alloc _
  have hb2 : OB w3 (w.heap.size + 1 + 1) [.bool false] 4 := by rw [← hw3, ← hz2]; exact OB.new w2 [.bool false] 4
  have HI := Lib.hid (show MrI (w.heap.size + 1) (w.heap.size + 1 + 1) (w.heap.size + 1) (0, false) w3 from ⟨hb2, hb3, by omega, Nat.le_refl _, by omega⟩)
  have HW1 := Lib.hid hw1
  have HW2 := Lib.hid hw2
  have HW3 := Lib.hid hw3
  have HZ1 := Lib.hid hz1
  have HZ2 := Lib.hid hz2
  have HT3 := Lib.hid (HT.out.below HB3.out)
  have HL := Lib.hid (HLW.out (w.heap.size + 1) (by omega))
  clear hw1 hw2 hw3 hz1 hz2 hb2 hb3 HT HLW
  have hmf : ∀ (fn : Fn) (first cap : Array Value) (w : World), (Instr.makeFunc fn first cap).run Tryz.prog w = .ok (.func fn first cap) w := fun _ _ _ _ => rfl
  go_enter Tryz.func21, Tryz.ntmps21
  go_upto_region 1 with (fail)
  rw [HW1.out]
  go_upto_region 2 with (fail)
  rw [HW2.out, HW3.out]
  try rw [HZ2.out]
  try rw [HZ1.out]
  clear HW1 HW2 HW3 HZ1 HZ2 w1 w2
  have HBP : Hid (w.heap.size ≤ w.heap.size + 1) := Lib.hid (Nat.le_succ _)
  obtain ⟨q3, hq3⟩ : ∃ z, w.heap.size + 1 = z := ⟨_, rfl⟩
  obtain ⟨q2, hq2⟩ : ∃ z, q3 + 1 = z := ⟨_, rfl⟩
  rw [hq3] at HI HL HBP ⊢
  rw [hq2] at HI ⊢
  clear hq2 hq3
  have HIS : Hid (MrS q3 q2 q3 0 (0, false) w3) := Lib.hid HI.out
  have y0 := HX.out.2 0 _ rfl
  have y1 := HX.out.2 1 _ rfl
  have y2 := HX.out.2 2 _ rfl
  have y3 := HX.out.2 3 _ rfl
  have y4 := HX.out.2 4 _ rfl
  have y5 := HX.out.2 5 _ rfl
  have y6 := HX.out.2 6 _ rfl
  have y7 := HX.out.2 7 _ rfl
  have y8 := HX.out.2 8 _ rfl
  have yl := HX.out.1
  go_wp2_with fail
  ((with_reducible refine (CW.out q3 q2 q3 _ HT3.out HL.out HFA.out (by omega) HIS.out).mono ?_); rintro e w4 ⟨rfl, i4, r4⟩)
  have HI4 : Hid (MrI q3 q2 q3 (g1, g2) w4) := Lib.hid i4
  have HB4 := Lib.hid (HB3.out.trans (r4.1.mono HBP.out))
  clear i4 r4 CW HT3 HL HI HIS HX HB3 HFA hs
  have c2 := HI4.out.b2.cell 0 _ rfl
  have l2 := HI4.out.b2.lt
  have c3 := HI4.out.b3.cell 0 _ rfl
  have l3 := HI4.out.b3.lt
  simp only at c2 c3
  cases g2 with
  | true =>
    go_wp2_with fail
    go_ret
    exact ⟨ret_int (by rw [HME.out]; rfl), HB4.out⟩
  | false =>
    go_wp2_with fail
    go_ret
    exact ⟨ret_int (by rw [HME.out]; rfl), HB4.out⟩
end Go.Proofs.YtfdpfkdfglombaaGreatDoor
