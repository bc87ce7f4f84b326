/- Makers of the parts of conditions: names, signs, values, comparisons. -/
import Derived.Test.YtfdpfkdfglombaaGreatDoorLstC
import Derived.Test.YtfdpfkdfglombaaGreatDoorOne
import Derived.Test.YtfdpfkdfglombaaGreatDoorPickAt
import Derived.Test.YtfdpfkdfglombaaGreatDoorFlip
import Derived.Test.YtfdpfkdfglombaaGreatDoorOBox
import Derived.Test.YtfdpfkdfglombaaGreatDoorGrow
import Derived.Test.YtfdpfkdfglombaaGreatDoorRange
import Derived.Laws.Tables
import Derived.OwnWalk
import Derived.Test.YtfdpfkdfglombaaGreatDoorMask
set_option linter.unusedVariables false
namespace Go.Proofs.YtfdpfkdfglombaaGreatDoor
open Go.RowKit

theorem wpList_store_oc {P : Program} {ops : Array Oper} {rest : List Oper} {o : Oper} {a : Act} {Q : Exit → Act → World → Prop} (w : World) (hg : o.guard = none) (t : TypeId) (p x : Operand) (hop : o.op = Op.store t p x)
    (q : Nat) (cs vs : List Value) (t0 : TypeId) (hp : a.eval p = .pointer (some ⟨q, 0, none⟩)) (hx : a.eval x = .agg vs.toArray) (hb : OB w q cs t0) (hi : (P.info? t).map (·.size) = some vs.length) (hl : cs.length = vs.length) (h1 : vs.all (·.oneCell') = true)
    (hK : ∀ w', OB w' q vs t0 → w.grownBy w' (some q) → wpList P ops Q rest (a.put o.dst undef) w') : wpList P ops Q (o :: rest) a w := by
  refine wpList_plain hg fun K' hK' => ?_
  have hq := hb.lt
  have hrun : (Instr.storeAt t (.pointer (some ⟨q, 0, none⟩)) (.agg vs.toArray)).run P w = .ok () (w.setRow q vs.toArray) := by
    simp only [Instr.storeAt, Instr.sureAddr, Sem.run_bind, Sem.run_pure, Result.andThen]
    exact run_storeVar_row w q t0 t cs.toArray vs.toArray hb (by simpa using hi) (by simpa using hl) (by simpa using h1)
  have h2 : OB (w.setRow q vs.toArray) q vs t0 := setRow_heap w q _ _ t0 _ hb
  have h3 : w.grownBy (w.setRow q vs.toArray) (some q) := ⟨rfl, rfl, rfl, by simp [World.setRow], fun k _ hk => setRow_other w q k _ (fun e => hk (by rw [e]))⟩
  unfold Oper.wp
  simp [execOp, hop, hp, hx, hrun, Result.andThen]
  exact hK' _ _ (hK _ h2 h3)
theorem sizeCond : (Tryz.prog.info? 30).map (·.size) = some 9 := by kernel_rfl
theorem sizeValue : (Tryz.prog.info? 72).map (·.size) = some 3 := by kernel_rfl
theorem infoWhere : (Tryz.prog.info? 98).map (fun i => (i.zero, i.size, i.bytes)) = some (some (.agg #[.string ⟨#[]⟩, .string ⟨#[]⟩, .int .i64 0, .string ⟨#[]⟩, .int .i64 0]), 5, 64) := by kernel_rfl
theorem infoValue : (Tryz.prog.info? 72).map (fun i => (i.zero, i.size, i.bytes)) = some (some (.agg #[.int .i64 0, .string ⟨#[]⟩, .int .i64 0]), 3, 32) := by kernel_rfl
theorem infoCond : (Tryz.prog.info? 30).map (fun i => (i.zero, i.size, i.bytes)) = some (some (.agg #[.int .i64 0, .string ⟨#[]⟩, .string ⟨#[]⟩, .string ⟨#[]⟩, .slice none 0 0, .slice none 0 0, .int .i64 0, .int .i64 0, .slice none 0 0]), 9, 144) := by kernel_rfl
/-- a maker's own box in block q0, beside the stream -/
structure Mk (w : World) (S : SC) (q0 : Nat) (cs : List Value) (t : TypeId) (K : Nat) (wr : World) : Prop where
  ob : OB wr q0 cs t
  st : Strm wr S K
  gr : w.grownBy wr (some S.g)
  lo : w.heap.size ≤ q0
  sg : S.g < q0
section
variable {w wr w' : World} {S : SC} {q0 : Nat} {cs cs' : List Value} {t : TypeId} {K K' : Nat}
theorem Mk.new (s : Strm w S K) (cs : List Value) (t : TypeId) : Mk w S w.heap.size cs t K (w.alloc (.cells cs.toArray t)) :=
  ⟨OB.new _ _ _, strm_alloc s _, World.grownBy_alloc _ _ _, Nat.le_refl _, strm_lt s⟩
theorem Mk.draw (h : Mk w S q0 cs t K wr) (k : wr.grownBy w' (some S.g)) (s : Strm w' S K') : Mk w S q0 cs t K' w' :=
  ⟨h.ob.grown k (fun e => by have := Option.some.inj e; have := h.sg; omega), s, grown_trans h.gr k, h.lo, h.sg⟩
theorem Mk.alloc (h : Mk w S q0 cs t K wr) (o : Obj) : Mk w S q0 cs t K (wr.alloc o) := h.draw (World.grownBy_alloc _ _ _) (strm_alloc h.st _)
theorem Mk.mono (h : Mk w S q0 cs t K wr) (hK : K ≤ K') : Mk w S q0 cs t K' wr := ⟨h.ob, strm_mono h.st hK, h.gr, h.lo, h.sg⟩
theorem Mk.write (h : Mk w S q0 cs t K wr) (o : OB w' q0 cs' t) (k : wr.grownBy w' (some q0)) : Mk w S q0 cs' t K w' := by
  have hg := strm_lt h.st
  have hs := h.sg
  have hl := h.lo
  refine ⟨o, strm_own h.st k (fun q e => by have := Option.some.inj e; omega), ?_, h.lo, h.sg⟩
  have g := h.gr
  exact ⟨k.os.trans g.os, k.tape.trans g.tape, k.output.trans g.output, Nat.le_trans g.size k.size, fun i hi hne => (k.block i (Nat.lt_of_lt_of_le hi g.size) (fun e => by have := Option.some.inj e; omega)).trans (g.block i hi hne)⟩
end
def fldL : List ByteArray := [⟨#[97, 103, 101]⟩, ⟨#[99, 105, 116, 121]⟩, ⟨#[110, 101, 119, 115]⟩, ⟨#[115, 105, 110, 99, 101, 45, 100, 97, 121]⟩]
def evtL : List ByteArray := [⟨#[98, 117, 121]⟩, ⟨#[111, 112, 101, 110]⟩, ⟨#[118, 105, 115, 105, 116]⟩]
theorem condFields_any (w : World) : Calls Tryz.prog 28 #[] w fun e w' => e = .returned (.slice (some ⟨w.heap.size, 0, none⟩) 4 4) ∧ w.alloc (.cells #[.string ⟨#[97, 103, 101]⟩, .string ⟨#[99, 105, 116, 121]⟩, .string ⟨#[110, 101, 119, 115]⟩, .string ⟨#[115, 105, 110, 99, 101, 45, 100, 97, 121]⟩] 9) = w' := by
  go_enter Tryz.func28, Tryz.ntmps28
  go_wp2
  go_ret
  exact ⟨rfl, rfl⟩
theorem condEvents_any (w : World) : Calls Tryz.prog 32 #[] w fun e w' => e = .returned (.slice (some ⟨w.heap.size, 0, none⟩) 3 3) ∧ w.alloc (.cells #[.string ⟨#[98, 117, 121]⟩, .string ⟨#[111, 112, 101, 110]⟩, .string ⟨#[118, 105, 115, 105, 116]⟩] 9) = w' := by
  go_enter Tryz.func32, Tryz.ntmps32
  go_wp2
  go_ret
  exact ⟨rfl, rfl⟩
theorem compareSign_any (S : SC) (K : Nat) (w : World) (hs : Strm w S K) (hK : K ≤ 1000000) : Calls Tryz.prog 123 #[S.p] w (GenS S (K + 1) w fun r => r ∈ sgnL) := by
  go_enter Tryz.func123, Tryz.ntmps123
  go_wp2_with fail
  with_reducible refine (one_at S _ [⟨#[61]⟩, ⟨#[33, 61]⟩, ⟨#[60]⟩, ⟨#[60, 61]⟩, ⟨#[62]⟩, ⟨#[62, 61]⟩] 6 _ _ _ _ hs (by omega) rfl (by omega) (by omega) (by simp) (by simp)).mono ?_
  rintro e w1 ⟨r, hr, rfl, k1, s1⟩
  have HR := Lib.hid hr
  have HK := Lib.hid k1
  have HS := Lib.hid s1
  clear hr k1 s1
  go_wp2_with fail
  go_ret
  exact ⟨r, HR.out, rfl, HK.out, HS.out⟩
set_option maxRecDepth 100000 in
set_option maxHeartbeats 4000000 in
theorem fieldValue_any (S : SC) (K : Nat) (name : ByteArray) (w : World) (hs : Strm w S K) (hK : K ≤ 1000000) : Calls Tryz.prog 121 #[S.p, .string name] w (GenV S (K + 2) w Vl.ok) := by
  have HM := Lib.hid (Mk.new hs [.int .i64 0, .string ⟨#[]⟩, .int .i64 0] 72)
  obtain ⟨b1, hb1⟩ : ∃ b, (name.toList == [97, 103, 101]) = b := ⟨_, rfl⟩
  obtain ⟨b2, hb2⟩ : ∃ b, (name.toList == [110, 101, 119, 115]) = b := ⟨_, rfl⟩
  obtain ⟨b3, hb3⟩ : ∃ b, (name.toList == [115, 105, 110, 99, 101, 45, 100, 97, 121]) = b := ⟨_, rfl⟩
  clear hs
  go_enter Tryz.func121, Tryz.ntmps121
  go_upto_region 1 with (fail)
  simp only [List.toArray] at HM
  generalize w.alloc (.cells #[.int .i64 0, .string ⟨#[]⟩, .int .i64 0] 72) = w1 at *
  obtain ⟨q0, hq0⟩ : ∃ z, w.heap.size = z := ⟨_, rfl⟩
  rw [hq0] at HM ⊢
  have HQ0 := Lib.hid hq0
  clear hq0
  have s1 := HM.out.st
  go_wp2_with fail
  with_reducible refine (flip_any S _ _ _ s1 (by omega) (by omega)).mono ?_
  rintro e w2 ⟨b, rfl, k2, s2⟩
  have HM2 := Lib.hid (HM.out.draw k2 s2)
  clear k2 s1 HM
  cases b with
  | true =>
    go_wp2_with fail
    with_reducible refine (one_at S _ [⟨#[]⟩, ⟨#[120]⟩, ⟨#[97, 32, 34, 98, 34, 92]⟩] 3 _ _ _ _ s2 (by omega) rfl (by omega) (by omega) (by simp) (by simp)).mono ?_
    rintro e w3 ⟨x, hx0, rfl, k3, s3⟩
    have hx : x.size ≤ 10 := by
      simp only [List.mem_cons, List.mem_nil_iff, or_false] at hx0
      rcases hx0 with rfl | rfl | rfl <;> decide
    have HM3 := Lib.hid (HM2.out.draw k3 s3)
    clear k3 s3 s2 HM2 hx0
    go_wp2_with (refine wpList_store_oc _ rfl _ _ _ rfl q0 _ [.int .i64 1, .string x, .int .i64 0] _ rfl rfl HM3.out.ob sizeValue rfl rfl ?_)
    intro w9 o9 k9
    have HM9 := Lib.hid (HM3.out.write o9 k9)
    have r0 := o9.cell 0 _ rfl
    have r1 := o9.cell 1 _ rfl
    have r2 := o9.cell 2 _ rfl
    clear o9 k9
    go_wp2_with fail
    refine bodyPost_ret (v := .agg #[.int .i64 1, .string x, .int .i64 0]) (by simp [results, Tryz.results121, go_sem, r0, r1, r2]) rfl ⟨⟨1, x, 0⟩, ⟨by unfold i64B; simp only; omega, hx, by unfold i64B; simp only; omega⟩, rfl, HM9.out.gr, strm_mono HM9.out.st (by omega)⟩
  | false =>
    cases b1 with
    | true =>
      go_wp2_with fail
      with_reducible refine (pick_at S _ [-3, 0, 3, 17, 18, 1000000000000] 6 _ _ _ _ s2 (by omega) rfl (by omega) (by omega) (by simp) (by simp)).mono ?_
      rintro e w3 ⟨z, hz, rfl, k3, s3⟩
      have hz' : -3 ≤ z ∧ z ≤ 1000000000000 := by
        simp only [List.mem_cons, List.mem_nil_iff, or_false] at hz
        omega
      have HM3 := Lib.hid (HM2.out.draw k3 s3)
      have hx : (⟨#[]⟩ : ByteArray).size ≤ 10 := by decide
      clear k3 s3 s2 HM2 hz
      go_wp2_with (refine wpList_store_oc _ rfl _ _ _ rfl q0 _ [.int .i64 2, .string ⟨#[]⟩, .int .i64 z] _ rfl rfl HM3.out.ob sizeValue rfl rfl ?_)
      intro w9 o9 k9
      have HM9 := Lib.hid (HM3.out.write o9 k9)
      have r0 := o9.cell 0 _ rfl
      have r1 := o9.cell 1 _ rfl
      have r2 := o9.cell 2 _ rfl
      clear o9 k9
      go_wp2_with fail
      refine bodyPost_ret (v := .agg #[.int .i64 2, .string ⟨#[]⟩, .int .i64 z]) (by simp [results, Tryz.results121, go_sem, r0, r1, r2]) rfl ⟨⟨2, ⟨#[]⟩, z⟩, ⟨by unfold i64B; simp only; omega, hx, by unfold i64B; simp only; omega⟩, rfl, HM9.out.gr, strm_mono HM9.out.st (by omega)⟩
    | false =>
      cases b2 with
      | true =>
        go_wp2_with fail
        with_reducible refine (next_any S _ _ _ s2 (by omega) (by omega)).mono ?_
        rintro e w3 ⟨z, ⟨hz0, hz1, -⟩, rfl, k3, s3⟩
        have hz2 := hz1 (by omega)
        have HM3 := Lib.hid (HM2.out.draw k3 s3)
        have hx : (⟨#[]⟩ : ByteArray).size ≤ 10 := by decide
        clear k3 s3 s2 HM2 hz1
        go_wp2_with (refine wpList_store_oc _ rfl _ _ _ rfl q0 _ [.int .i64 3, .string ⟨#[]⟩, .int .i64 z] _ rfl rfl HM3.out.ob sizeValue rfl rfl ?_)
        intro w9 o9 k9
        have HM9 := Lib.hid (HM3.out.write o9 k9)
        have r0 := o9.cell 0 _ rfl
        have r1 := o9.cell 1 _ rfl
        have r2 := o9.cell 2 _ rfl
        clear o9 k9
        go_wp2_with fail
        refine bodyPost_ret (v := .agg #[.int .i64 3, .string ⟨#[]⟩, .int .i64 z]) (by simp [results, Tryz.results121, go_sem, r0, r1, r2]) rfl ⟨⟨3, ⟨#[]⟩, z⟩, ⟨by unfold i64B; simp only; omega, hx, by unfold i64B; simp only; omega⟩, rfl, HM9.out.gr, strm_mono HM9.out.st (by omega)⟩
      | false =>
        cases b3 with
        | true =>
          go_wp2_with fail
          with_reducible refine (pick_at S _ [0, 70, 1440, 4321439] 4 _ _ _ _ s2 (by omega) rfl (by omega) (by omega) (by simp) (by simp)).mono ?_
          rintro e w3 ⟨z, hz, rfl, k3, s3⟩
          have hz' : 0 ≤ z ∧ z ≤ 4321439 := by
            simp only [List.mem_cons, List.mem_nil_iff, or_false] at hz
            omega
          have HM3 := Lib.hid (HM2.out.draw k3 s3)
          have hx : (⟨#[]⟩ : ByteArray).size ≤ 10 := by decide
          clear k3 s3 s2 HM2 hz
          go_wp2_with (refine wpList_store_oc _ rfl _ _ _ rfl q0 _ [.int .i64 4, .string ⟨#[]⟩, .int .i64 z] _ rfl rfl HM3.out.ob sizeValue rfl rfl ?_)
          intro w9 o9 k9
          have HM9 := Lib.hid (HM3.out.write o9 k9)
          have r0 := o9.cell 0 _ rfl
          have r1 := o9.cell 1 _ rfl
          have r2 := o9.cell 2 _ rfl
          clear o9 k9
          go_wp2_with fail
          refine bodyPost_ret (v := .agg #[.int .i64 4, .string ⟨#[]⟩, .int .i64 z]) (by simp [results, Tryz.results121, go_sem, r0, r1, r2]) rfl ⟨⟨4, ⟨#[]⟩, z⟩, ⟨by unfold i64B; simp only; omega, hx, by unfold i64B; simp only; omega⟩, rfl, HM9.out.gr, strm_mono HM9.out.st (by omega)⟩
        | false =>
          go_wp2_with fail
          with_reducible refine (one_at S _ [⟨#[85, 108, 109]⟩, ⟨#[66, 111, 110, 110]⟩, ⟨#[85, 108]⟩, ⟨#[195, 169]⟩] 4 _ _ _ _ s2 (by omega) rfl (by omega) (by omega) (by simp) (by simp)).mono ?_
          rintro e w3 ⟨x, hx0, rfl, k3, s3⟩
          have hx : x.size ≤ 10 := by
            simp only [List.mem_cons, List.mem_nil_iff, or_false] at hx0
            rcases hx0 with rfl | rfl | rfl | rfl <;> decide
          have HM3 := Lib.hid (HM2.out.draw k3 s3)
          clear k3 s3 s2 HM2 hx0
          go_wp2_with (refine wpList_store_oc _ rfl _ _ _ rfl q0 _ [.int .i64 1, .string x, .int .i64 0] _ rfl rfl HM3.out.ob sizeValue rfl rfl ?_)
          intro w9 o9 k9
          have HM9 := Lib.hid (HM3.out.write o9 k9)
          have r0 := o9.cell 0 _ rfl
          have r1 := o9.cell 1 _ rfl
          have r2 := o9.cell 2 _ rfl
          clear o9 k9
          go_wp2_with fail
          refine bodyPost_ret (v := .agg #[.int .i64 1, .string x, .int .i64 0]) (by simp [results, Tryz.results121, go_sem, r0, r1, r2]) rfl ⟨⟨1, x, 0⟩, ⟨by unfold i64B; simp only; omega, hx, by unfold i64B; simp only; omega⟩, rfl, HM9.out.gr, strm_mono HM9.out.st (by omega)⟩
set_option maxRecDepth 100000 in
set_option maxHeartbeats 4000000 in
theorem wheres_any (S : SC) (K : Nat) (w : World) (hs : Strm w S K) (hK : K ≤ 100000) : Calls Tryz.prog 122 #[S.p] w (GenN S (K + 10) w 5 Wh.cells fun l => l.length ≤ 2 ∧ ∀ x ∈ l, x.ok) := by
  obtain ⟨i0, hi, hz0, hz1, hz2⟩ := info_parts infoWhere
  have hS0 := strm_lt hs
  go_enter Tryz.func122, Tryz.ntmps122
  go_wp2_with fail
  with_reducible refine (pick_at S _ [0, 0, 0, 1, 2] 5 _ _ _ _ hs (by omega) rfl (by omega) (by omega) (by simp) (by simp)).mono ?_
  rintro e w1 ⟨z, hz, rfl, k1, s1⟩
  have hz' : 0 ≤ z ∧ z ≤ 2 := by
    simp only [List.mem_cons, List.mem_nil_iff, or_false] at hz
    omega
  obtain ⟨m, rfl⟩ := Int.eq_ofNat_of_zero_le hz'.1
  have hm2 : m ≤ 2 := by omega
  have HL1 := Lib.hid (show LstR w w.heap.size w1 S (K + 1) 98 5 Wh.cells (.slice none 0 0) [] from ⟨World.ownsRow_nil _ _ _ _, s1, k1, k1.size⟩)
  clear hz hz' k1 s1 hs
  go_wp2_with fail
  go_loopw [3, 7] (fun v i wr => ∃ (k : Nat) (l : List Wh), k ≤ m ∧ i = .int .i64 k ∧ l.length = k ∧ (∀ x ∈ l, x.ok) ∧ LstR w w.heap.size wr S (K + 1 + 4 * k) 98 5 Wh.cells v l) (fun _ i _ => m - (intOf i).toNat)
  case atStart => exact ⟨0, [], Nat.zero_le _, rfl, rfl, by simp, HL1.out⟩
  case round =>
    obtain ⟨k, l, hk, rfl, hl, hok, hL⟩ := hrel
    have HL := Lib.hid hL
    have HOK := Lib.hid hok
    have hll := Lib.hid hl
    have hlb : l.length ≤ 2 := by omega
    have s2 := hL.2.1
    clear hL HL1 hok hl
    by_cases hlt : k < m
    · go_wp2_with fail
      with_reducible refine (flip_any S _ _ _ s2 (by omega) (by omega)).mono ?_
      rintro e w3 ⟨b, rfl, k3, s3⟩
      have HL3 := Lib.hid (HL.out.draw k3 s3 hS0)
      clear HL k3 s2
      cases b with
      | true =>
        go_wp2_with fail
        with_reducible refine (compareSign_any S _ _ s3 (by omega)).mono ?_
        rintro e w4 ⟨sg, hsg, rfl, k4, s4⟩
        have HSG : Hid (sg.size ≤ 1000) := Lib.hid (by
          simp only [sgnL, List.mem_cons, List.mem_nil_iff, or_false] at hsg
          rcases hsg with rfl | rfl | rfl | rfl | rfl | rfl <;> decide)
        have HL4 := Lib.hid (HL3.out.draw k4 s4 hS0)
        clear HL3 k4 s3 hsg
        go_wp2_with fail
        with_reducible refine (pick_at S _ [0, 5, 100] 3 _ _ _ _ s4 (by omega) rfl (by omega) (by omega) (by simp) (by simp)).mono ?_
        rintro e w5 ⟨z, hz, rfl, k5, s5⟩
        have hz' : 0 ≤ z ∧ z ≤ 100 := by
          simp only [List.mem_cons, List.mem_nil_iff, or_false] at hz
          omega
        have HL5 := Lib.hid (HL4.out.draw k5 s5 hS0)
        have own5 := HL5.out.1
        have hw5 := HL5.out.2.2.2
        clear HL4 k5 s4 s5 hz
        go_wp2_with (at_builtin; refine wpList_append_own _ rfl _ _ 27 rfl w.heap.size 98 i0 _ 5 64 Tryz.underlying27 hi hz0 hz1 hz2 rfl (by decide) _ _ _ rfl (own5.alloc _) ⟨w5.heap.size, 0, none⟩ 1 1 [.string ⟨#[99, 101, 110, 116, 115]⟩, .string sg, .int .i64 2, .string ⟨#[]⟩, .int .i64 z] rfl rfl ?c1 ?c2 ?c3 ?c4 ?c5 ?_)
        case c1 => exact cells_new w5 #[.string ⟨#[99, 101, 110, 116, 115]⟩, .string sg, .int .i64 2, .string ⟨#[]⟩, .int .i64 z] 98
        case c2 => simp [Value.oneCell']
        case c3 => unfold maxLen; omega
        case c4 => omega
        case c5 => simp; omega
        intro v2 wy owny hgrowy hney
        have HLy := Lib.hid (HL5.out.snoc (x := ⟨⟨#[99, 101, 110, 116, 115]⟩, sg, ⟨2, ⟨#[]⟩, z⟩⟩) hS0 (Nat.le_refl _) owny hgrowy)
        clear hney owny hgrowy HL5 own5
        go_wp2_with fail
        go_roundw
        case rel => exact ⟨k + 1, l ++ [⟨⟨#[99, 101, 110, 116, 115]⟩, sg, ⟨2, ⟨#[]⟩, z⟩⟩], by omega, by go_num, by simp [hll.out], fun y hy => by
    rcases List.mem_append.1 hy with hy | hy
    · exact HOK.out y hy
    · obtain rfl := List.mem_singleton.1 hy
      exact ⟨(by decide : (⟨#[99, 101, 110, 116, 115]⟩ : ByteArray).size ≤ 1000), HSG.out, by unfold i64B; simp only; omega, (by decide : (⟨#[]⟩ : ByteArray).size ≤ 10), by unfold i64B; simp only; omega⟩, by
    obtain ⟨q1, q2, q3, q4⟩ := HLy.out
    exact ⟨q1, strm_mono q2 (by omega), q3, q4⟩⟩
        case measure => simp [intOf]; omega
      | false =>
        go_wp2_with fail
        with_reducible refine (compareSign_any S _ _ s3 (by omega)).mono ?_
        rintro e w5 ⟨sg, hsg, rfl, k4, s4⟩
        have HSG : Hid (sg.size ≤ 1000) := Lib.hid (by
          simp only [sgnL, List.mem_cons, List.mem_nil_iff, or_false] at hsg
          rcases hsg with rfl | rfl | rfl | rfl | rfl | rfl <;> decide)
        have HL5 := Lib.hid (HL3.out.draw k4 s4 hS0)
        have own5 := HL5.out.1
        have hw5 := HL5.out.2.2.2
        clear HL3 k4 s3 s4 hsg
        go_wp2_with (at_builtin; refine wpList_append_own _ rfl _ _ 27 rfl w.heap.size 98 i0 _ 5 64 Tryz.underlying27 hi hz0 hz1 hz2 rfl (by decide) _ _ _ rfl (own5.alloc _) ⟨w5.heap.size, 0, none⟩ 1 1 [.string ⟨#[105, 116, 101, 109]⟩, .string sg, .int .i64 1, .string ⟨#[104, 97, 116]⟩, .int .i64 0] rfl rfl ?d1 ?d2 ?d3 ?d4 ?d5 ?_)
        case d1 => exact cells_new w5 #[.string ⟨#[105, 116, 101, 109]⟩, .string sg, .int .i64 1, .string ⟨#[104, 97, 116]⟩, .int .i64 0] 98
        case d2 => simp [Value.oneCell']
        case d3 => unfold maxLen; omega
        case d4 => omega
        case d5 => simp; omega
        intro v2 wy owny hgrowy hney
        have HLy := Lib.hid (HL5.out.snoc (x := ⟨⟨#[105, 116, 101, 109]⟩, sg, ⟨1, ⟨#[104, 97, 116]⟩, 0⟩⟩) hS0 (Nat.le_refl _) owny hgrowy)
        clear hney owny hgrowy HL5 own5
        go_wp2_with fail
        go_roundw
        case rel => exact ⟨k + 1, l ++ [⟨⟨#[105, 116, 101, 109]⟩, sg, ⟨1, ⟨#[104, 97, 116]⟩, 0⟩⟩], by omega, by go_num, by simp [hll.out], fun y hy => by
    rcases List.mem_append.1 hy with hy | hy
    · exact HOK.out y hy
    · obtain rfl := List.mem_singleton.1 hy
      exact ⟨(by decide : (⟨#[105, 116, 101, 109]⟩ : ByteArray).size ≤ 1000), HSG.out, by unfold i64B; simp only; omega, (by decide : (⟨#[104, 97, 116]⟩ : ByteArray).size ≤ 10), by unfold i64B; simp only; omega⟩, by
    obtain ⟨q1, q2, q3, q4⟩ := HLy.out
    exact ⟨q1, strm_mono q2 (by omega), q3, q4⟩⟩
        case measure => simp [intOf]; omega
    · obtain rfl : k = m := by omega
      have hkl := hll.out
      go_wp2_with fail
      go_ret
      exact HL.out.genN (K' := K + 10) (P := fun l => l.length ≤ 2 ∧ ∀ x ∈ l, x.ok) (Nat.le_refl _) (by omega) (fun x _ => x.len) ⟨by omega, HOK.out⟩
end Go.Proofs.YtfdpfkdfglombaaGreatDoor
/- What the maker of a condition holds while it makes one. -/
set_option linter.unusedVariables false
namespace Go.Proofs.YtfdpfkdfglombaaGreatDoor
open Go.RowKit

/-- the lists of a condition that is being made lie behind q0 -/
structure Pt (q0 : Nat) (va : Option Addr) (vals : List Vl) (wa : Option Addr) (whs : List Wh) (wr : World) : Prop where
  rv : RAt wr va 3 Vl.cells vals
  rw' : RAt wr wa 5 Wh.cells whs
  fv : ∀ g, g ≤ q0 → Far va vals.length g
  fw : ∀ g, g ≤ q0 → Far wa whs.length g
section
variable {w wr w' : World} {S : SC} {q0 K K' M : Nat} {va wa : Option Addr} {vals : List Vl} {whs : List Wh} {cs : List Value} {t : TypeId}
theorem Pt.nil (q0 : Nat) (wr : World) : Pt q0 none [] none [] wr := ⟨RAt.nil _ _ _ _, RAt.nil _ _ _ _, fun g _ h => absurd h (by simp), fun g _ h => absurd h (by simp)⟩
theorem Pt.kept {g : Nat} (h : Pt q0 va vals wa whs wr) (k : wr.grownBy w' (some g)) (hg : g ≤ q0) : Pt q0 va vals wa whs w' :=
  ⟨h.rv.kept k (fun g' e => by obtain rfl := Option.some.inj e; exact h.fv _ hg), h.rw'.kept k (fun g' e => by obtain rfl := Option.some.inj e; exact h.fw _ hg), h.fv, h.fw⟩
theorem Pt.alloc (h : Pt q0 va vals wa whs wr) (o : Obj) : Pt q0 va vals wa whs (wr.alloc o) := h.kept (World.grownBy_alloc _ _ (some 0)) (Nat.zero_le _)
/-- a maker's leaf -/
theorem leafC {n : Nd} (hp : Pt q0 n.va n.vals n.wa n.whs wr) (hok : n.ok) (haa : n.aa = none) (hac : n.ac = 0) (hq : w.heap.size ≤ q0) (k : w.grownBy wr (some S.g)) (s : Strm wr S K) (hM : 1 ≤ M) (hvl : n.vals.length ≤ 9) (hwl : n.whs.length ≤ 100) :
    GenC S K w 1 M (.returned (.agg (Cn.mk n []).cells.toArray)) wr := by
  refine ⟨.mk n [], rfl, ⟨hok, ⟨by simp [Cn.args], by simp only [Cn.nd]; omega, by simp [Cn.args]⟩, hp.rv, hp.rw', RAt.nil _ _ _ _, fun x hx => by cases hx⟩, fun g hg => ⟨hp.fv g (by omega), hp.fw g (by omega), fun h => absurd h (by simp [Cn.args]), fun x hx => by cases hx⟩, ⟨?_, hvl, hwl, fun x hx => by cases hx⟩, k, s⟩
  show 1 + 0 ≤ M
  omega
theorem vals_one (w : World) (x : Vl) : RAt (w.alloc (.cells #[.int .i64 x.kind, .string x.text, .int .i64 x.num] 72)) (some ⟨w.heap.size, 0, none⟩) 3 Vl.cells [x] := by
  refine RAt.block (t := 72) ?_ (fun x _ => rfl)
  rw [heap_alloc_new]
  rfl
end
def condZ : List Value := [.int .i64 0, .string ⟨#[]⟩, .string ⟨#[]⟩, .string ⟨#[]⟩, .slice none 0 0, .slice none 0 0, .int .i64 0, .int .i64 0, .slice none 0 0]
/-- a condition in a variable of its own, whose values grow -/
structure TW (w : World) (S : SC) (q0 q : Nat) (name : ByteArray) (cur : Value) (l : List Vl) (K : Nat) (wr : World) : Prop where
  mkk : Mk w S q0 condZ 30 K wr
  bx : OB wr q [.int .i64 8, .string name, .string ⟨#[]⟩, .string ⟨#[]⟩, cur, .slice none 0 0, .int .i64 0, .int .i64 0, .slice none 0 0] 30
  own : wr.ownsRow (q + 1) 72 3 cur l.length (l.flatMap Vl.cells)
  lt : q0 < q
section
variable {w wr w' : World} {S : SC} {q0 q K K' : Nat} {name : ByteArray} {cur : Value} {l : List Vl}
theorem TW.draw (h : TW w S q0 q name cur l K wr) (k : wr.grownBy w' (some S.g)) (s : Strm w' S K') : TW w S q0 q name cur l K' w' := by
  have h1 := h.mkk.sg
  have h2 := h.lt
  refine ⟨h.mkk.draw k s, h.bx.grown k (fun e => by have := Option.some.inj e; omega), ?_, h.lt⟩
  refine h.own.kept k ?_
  cases hv : cur.ownBlock with
  | none => exact .inl rfl
  | some b => exact .inr (fun e => by have := (h.own.lt b hv).1; have := Option.some.inj e; omega)
theorem TW.alloc (h : TW w S q0 q name cur l K wr) (o : Obj) : TW w S q0 q name cur l K (wr.alloc o) := h.draw (World.grownBy_alloc _ _ _) (strm_alloc h.mkk.st _)
theorem TW.mono (h : TW w S q0 q name cur l K wr) (hK : K ≤ K') : TW w S q0 q name cur l K' wr := h.draw ⟨rfl, rfl, rfl, Nat.le_refl _, fun _ _ _ => rfl⟩ (strm_mono h.mkk.st hK)
theorem TW.drew (h : TW w S q0 q name cur l K wr) : TW w S q0 q name cur l K wr.drew := h.draw ⟨rfl, rfl, rfl, Nat.le_refl _, fun _ _ _ => rfl⟩ (show Strm wr.drew S K from h.mkk.st)
theorem TW.app {v' : Value} {x : Vl} (h : TW w S q0 q name cur l K wr) (k : wr.grownBy w' cur.ownBlock) (own : w'.ownsRow (q + 1) 72 3 v' (l.length + 1) (l.flatMap Vl.cells ++ x.cells)) :
    w'.cell? ⟨q, 4, none⟩ = some cur ∧ w'.frozen? ⟨q, 4, none⟩ = false ∧ q < w'.heap.size ∧ TW w S q0 q name v' (l ++ [x]) K (w'.setCell ⟨q, 4, none⟩ v') := by
  have h1 := h.mkk.sg
  have h2 := h.lt
  have h3 := h.mkk.lo
  have hr : ∀ b, cur.ownBlock = some b → q + 1 ≤ b := fun b hb => (h.own.lt b hb).1
  have hbx : OB w' q _ 30 := h.bx.grown k (fun e => by have := hr q e; omega)
  have hmk0 : OB w' q0 condZ 30 := h.mkk.ob.grown k (fun e => by have := hr q0 e; omega)
  have hgr : w.grownBy w' (some S.g) := grown_own h.mkk.gr k (fun b hb => by have := hr b hb; omega)
  have hst : Strm w' S K := strm_own h.mkk.st k (fun b hb => by have := hr b hb; omega)
  have hset : w'.grownBy (w'.setCell ⟨q, 4, none⟩ v') (some q) := ⟨rfl, rfl, rfl, by simp [World.setCell], fun i _ hne => Below.heap_setCell w' _ _ i (by rintro rfl; exact hne rfl)⟩
  refine ⟨hbx.cell 4 _ rfl, hbx.free 4, hbx.lt, ⟨⟨hmk0.grown hset (fun e => by have := Option.some.inj e; omega), strm_own hst hset (fun b hb => by have := Option.some.inj hb; omega), grown_own hgr hset (fun b hb => by have := Option.some.inj hb; omega), h.mkk.lo, h1⟩, hbx.put 4 v' rfl, ?_, h.lt⟩⟩
  have own' : w'.ownsRow (q + 1) 72 3 v' (l ++ [x]).length ((l ++ [x]).flatMap Vl.cells) := by simpa using own
  refine own'.kept hset ?_
  cases hv : v'.ownBlock with
  | none => exact .inl rfl
  | some b => exact .inr (fun e => by have := (own'.lt b hv).1; have := Option.some.inj e; omega)
/-- what the drawn region keeps -/
structure JV (w : World) (S : SC) (q0 q : Nat) (name : ByteArray) (cur : Value) (l : List Vl) (K0 : Nat) (s1 s4 s5 : Nat) (b : Msk) (v : Nat → Value) (wr : World) : Prop where
  base : TW w S q0 q name cur l (K0 + 2 * (b 4).toNat) wr
  p1 : b 1 = true → v s1 = cur
  p4 : b 4 = true → ∃ x : Vl, v s4 = .agg #[.int .i64 x.kind, .string x.text, .int .i64 x.num] ∧ x.ok
  p5 : b 5 = true → ∃ h, ∃ x : Vl, v s5 = .slice (some ⟨h, 0, none⟩) 1 1 ∧ x.ok ∧ h ≠ S.g ∧ OB wr h [.int .i64 x.kind, .string x.text, .int .i64 x.num] 72
end
end Go.Proofs.YtfdpfkdfglombaaGreatDoor
