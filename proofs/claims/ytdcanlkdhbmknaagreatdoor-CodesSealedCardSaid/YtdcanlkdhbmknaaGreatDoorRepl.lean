/- strings.NewReplacer at four pairs of strings of one byte, and its Replace. -/
import Derived.Test.YtdcanlkdhbmknaaGreatDoorOnceP
import Derived.Test.YtdcanlkdhbmknaaGreatDoorReadCd
import Derived.Deep.WholeRow
import Derived.Deep.DeepCutAuto
set_option linter.unusedVariables false
namespace Go.Proofs.YtdcanlkdhbmknaaGreatDoor
open Go.RowKit

/-- a row of n bytes at block h -/
def TabN (w : World) (h n : Nat) : Prop := ∃ f : Nat → Nat, RowG w h n (fun j => .int .u8 (f j : Int)) ∧ ∀ j, f j < 256
abbrev Tab (w : World) (h : Nat) : Prop := TabN w h 256
section
variable {w w' : World} {h n : Nat}
theorem TabN.below (t : TabN w h n) (hb : Below w.heap.size w w') : TabN w' h n := by
  obtain ⟨f, h1, h2⟩ := t
  exact ⟨f, h1.below hb, h2⟩
theorem TabN.set (t : TabN w h n) (k m : Nat) (hk : k < n) (hm : m < 256) : TabN (w.setCell ⟨h, k, none⟩ (.int .u8 (m : Int))) h n := by
  obtain ⟨f, h1, h2⟩ := t
  refine ⟨fun j => if j = k then m else f j, (h1.set k hk _).congr (fun j hj => ?_), fun j => ?_⟩
  · by_cases e : j = k
    · simp [e]
    · simp [e]
  · show (if j = k then m else f j) < 256
    split
    · exact hm
    · exact h2 j
theorem TabN.far (t : TabN w h n) {p : Addr} (hp : h ≠ p.block) (u : Value) : TabN (w.setCell p u) h n := by
  obtain ⟨f, h1, h2⟩ := t
  exact ⟨f, h1.far hp u, h2⟩
theorem TabN.drew (t : TabN w h n) : TabN w.drew h n := by
  obtain ⟨f, h1, h2⟩ := t
  exact ⟨f, h1.drew, h2⟩
theorem TabN.chg {B : Nat → Prop} (t : TabN w h n) (hc : Chg w w' B) (hB : ¬ B h) : TabN w' h n := by
  obtain ⟨f, h1, h2⟩ := t
  exact ⟨f, ⟨Nat.lt_of_lt_of_le h1.lt hc.size, fun j hj => hc.cell (h1.cell j hj) hB, fun j hj => (World.frozen?_of_block (hc.block h h1.lt hB)).trans (h1.free j hj)⟩, h2⟩
theorem TabN.list (t : TabN w h n) : ∃ l : List UInt8, l.length = n ∧ RowG w h n (byF l) := by
  obtain ⟨f, h1, h2⟩ := t
  refine ⟨(List.range n).map (fun j => UInt8.ofNat (f j)), by simp, h1.congr (fun j hj => ?_)⟩
  unfold byF
  have := h2 j
  simp [List.getD_eq_getElem?_getD, hj]
  omega
end

theorem zero_tab : (∀ w, (zeroValue 121).run Tryz.prog w = .ok (.agg (Array.replicate 256 (.int .u8 0))) w) ∧ (Tryz.prog.info? 121).map (·.size) = some 256 :=
  zero_of_info (by kernel_rfl)

/-- a whole array stored into a block of one's own -/
theorem wpList_store_arr {P : Program} {ops : Array Oper} {rest : List Oper} {o : Oper} {a : Act} {Q : Exit → Act → World → Prop} (w : World) (hg : o.guard = none) (t : TypeId) (p x : Operand) (hop : o.op = Op.store t p x)
    (q : Nat) (cs vs : Array Value) (t0 : TypeId) (hp : a.eval p = .pointer (some ⟨q, 0, none⟩)) (hx : a.eval x = .agg vs) (hb : w.heap[q]? = some (.cells cs t0 (0, 0))) (hi : (P.info? t).map (·.size) = some vs.size) (hl : cs.size = vs.size) (h1 : vs.all (·.oneCell') = true)
    (hK : ∀ w', w'.heap[q]? = some (.cells vs t0 (0, 0)) → w.grownBy w' (some q) → wpList P ops Q rest (a.put o.dst undef) w') : wpList P ops Q (o :: rest) a w := by
  refine wpList_plain hg fun K' hK' => ?_
  have hrun : (Instr.storeAt t (.pointer (some ⟨q, 0, none⟩)) (.agg vs)).run P w = .ok () (w.setRow q vs) := by
    simp only [Instr.storeAt, Instr.sureAddr, Sem.run_bind, Sem.run_pure, Result.andThen]
    exact run_storeVar_row w q t0 t cs vs hb hi hl h1
  have h2 : (w.setRow q vs).heap[q]? = some (.cells vs t0 (0, 0)) := setRow_heap w q _ _ t0 _ hb
  have h3 : w.grownBy (w.setRow q vs) (some q) := ⟨rfl, rfl, rfl, by simp [World.setRow], fun k _ hk => setRow_other w q k _ (fun e => hk (by rw [e]))⟩
  unfold Oper.wp
  simp [execOp, hop, hp, hx, hrun, Result.andThen]
  exact hK' _ _ (hK _ h2 h3)
theorem tab_new {w : World} {h : Nat} {t : TypeId} (hb : w.heap[h]? = some (.cells (Array.replicate 256 (.int .u8 0)) t (0, 0))) : Tab w h := by
  refine ⟨fun _ => 0, ⟨(Array.getElem?_eq_some_iff.1 hb).1, fun j hj => ?_, fun j hj => ?_⟩, fun j => by show (0 : Nat) < 256; omega⟩
  · simp only [World.cell?, hb]
    simp [hj]
  · simp [World.frozen?, hb]

set_option maxRecDepth 100000 in
set_option maxHeartbeats 4000000 in
theorem build_any (t : TypeId) (p g c : Nat) (x0 x1 x2 x3 : Value) (L : List ByteArray) (hL : L.length = 8) (h1 : ∀ x ∈ L, x.size = 1) (w : World) (h : OB w p [x0, x1, x2, x3, .slice (some ⟨g, 0, none⟩) 8 c] t) (hS : StrsAt w (some ⟨g, 0, none⟩) L) :
    Calls Tryz.prog 57 #[.pointer (some ⟨p, 0, none⟩)] w fun e w' => ∃ h, w.heap.size ≤ h ∧ e = .returned (.iface 122 (.pointer (some ⟨h, 0, none⟩))) ∧ Tab w' h ∧ Below w.heap.size w w' := by
  obtain ⟨hzv, hzs⟩ := zero_tab
  have HNT : Hid (∀ (w : World) (h : Nat) (t : TypeId), w.heap[h]? = some (.cells (Array.replicate 256 (.int .u8 0)) t (0, 0)) → Tab w h) := Lib.hid (fun w h t => tab_new)
  have HSZ : Hid ((Array.replicate 256 (Value.int .u8 0)).size = 256) := Lib.hid (by simp)
  have HON : Hid ((Array.replicate 256 (Value.int .u8 0)).all (·.oneCell') = true) := Lib.hid (by decide +kernel)
  have HZS := Lib.hid (hzs.trans (congrArg some HSZ.out.symm))
  clear hzs
  generalize Array.replicate 256 (Value.int .u8 0) = Z at *
  have hc4 := h.cell 4 _ rfl
  have HC : Hid (∀ (j : Nat) (hj : j < 8), ∃ s : ByteArray, s.size = 1 ∧ g < w.heap.size ∧ w.cell? ⟨g, j, none⟩ = some (.string s)) := Lib.hid (fun j hj => by
    have hj' : j < L.length := by omega
    obtain ⟨p', off, he, hlt, hc⟩ := hS j hj'
    simp only [Option.some.injEq, Addr.mk.injEq] at he
    obtain ⟨rfl, rfl, -⟩ := he
    rw [Nat.zero_add] at hc
    exact ⟨L[j], h1 _ (List.getElem_mem hj'), hlt, hc⟩)
  clear h hS h1 hL L
  go_enter Tryz.func57, Tryz.ntmps57
  go_wp2_with fail
  go_loop [4, 5] (fun b i => b = .bool true ∧ ∃ k : Nat, k ≤ 4 ∧ i = .int .i64 (2 * (k : Int))) (fun _ i => 8 - (intOf i).toNat)
  case atStart => exact ⟨rfl, 0, by omega, by simp⟩
  case round =>
    obtain ⟨rfl, k, hk, rfl⟩ := hrel
    by_cases hlt : k < 4
    · obtain ⟨s0, hs0, hg, hc0⟩ := HC.out (2 * k) (by omega)
      obtain ⟨s1, hs1, -, hc1⟩ := HC.out (2 * k + 1) (by omega)
      go_wp2_with fail
      go_round
      case rel => exact ⟨rfl, k + 1, by omega, by go_num⟩
      case measure => simp [intOf]; omega
    · obtain rfl : k = 4 := by omega
      clear hc4
      have HNB := Lib.hid (heap_alloc_new w (.cells Z 121))
      go_wp2_with (refine wpList_store_arr _ rfl _ _ _ rfl w.heap.size Z Z 121 rfl rfl HNB.out HZS.out rfl HON.out ?_)
      intro w2 hb2 hg2
      have HT2 := Lib.hid (HNT.out w2 w.heap.size _ hb2)
      have HB2 := Lib.hid (((Below.refl w.heap.size w).alloc (Nat.le_refl _) (.cells Z 121)).grown hg2 (by simp) (fun j hj => by simp at hj; omega))
      clear hb2 hg2 HNB HNT HZS HON HSZ hzv
      go_wp2_with fail
      go_loopw [7, 61] (fun _ i wr => ∃ k : Nat, k ≤ 256 ∧ i = .int .i64 (k : Int) ∧ Tab wr w.heap.size ∧ Below w.heap.size w wr) (fun _ i _ => 256 - (intOf i).toNat)
      case atStart => exact ⟨0, by omega, rfl, HT2.out, HB2.out⟩
      case round =>
        obtain ⟨k, hk, rfl, hT, hB⟩ := hrel
        by_cases hlt : k < 256
        · have HT := Lib.hid hT
          have HB := Lib.hid hB
          obtain ⟨f, hR, -⟩ := hT
          have hc := hR.cell k hlt
          have hz := hR.free k hlt
          have hwu : IntKind.u8.wrap (k : Int) = (k : Int) := by rw [IntKind.wrap_u8]; omega
          clear hR hB
          go_wp2_with fail
          go_roundw
          case rel => exact ⟨k + 1, by omega, by go_num, HT.out.set k k hlt hlt, HB.out.setCell (by simp) _⟩
          case measure => simp [intOf]; omega
        · obtain rfl : k = 256 := by omega
          have HT := Lib.hid hT
          have HB := Lib.hid hB
          clear hB hT
          go_wp2_with fail
          go_loopw [8, 9, 10] (fun i _ _ wr => ∃ k : Nat, k ≤ 4 ∧ i = .int .i64 (2 * (k : Int) - 2) ∧ Tab wr w.heap.size ∧ Below w.heap.size w wr) (fun i _ _ _ => (intOf i + 2).toNat)
          case atStart => exact ⟨4, by omega, by simp, HT.out, HB.out⟩
          case round =>
            obtain ⟨k, hk, rfl, hT, hB⟩ := hrel
            by_cases hlt : 0 < k
            · obtain ⟨s0, hs0, hg, hc0⟩ := HC.out (2 * (k - 1)) (by omega)
              obtain ⟨s1, hs1, -, hc1⟩ := HC.out (2 * (k - 1) + 1) (by omega)
              have hd0 := (hB.cell (p := ⟨g, 2 * (k - 1), none⟩) hg).trans hc0
              have hd1 := (hB.cell (p := ⟨g, 2 * (k - 1) + 1, none⟩) hg).trans hc1
              clear hc0 hc1
              obtain ⟨k, rfl⟩ : ∃ k', k = k' + 1 := ⟨k - 1, by omega⟩
              simp only [Nat.add_sub_cancel] at hd0 hd1
              have hi : 2 * ((k + 1 : Nat) : Int) - 2 = 2 * (k : Int) := by omega
              rw [hi]
              clear hi
              have HT := Lib.hid hT
              have HB := Lib.hid hB
              have hb0 : (s0[0]'(by omega)).toNat < 256 := UInt8.toNat_lt _
              have hb1 : (s1[0]'(by omega)).toNat < 256 := UInt8.toNat_lt _
              obtain ⟨f, hR, -⟩ := hT
              have hc := hR.cell _ hb0
              have hz := hR.free _ hb0
              clear hR hB
              go_wp2_with fail
              go_roundw
              case rel => exact ⟨k, by omega, by go_num, HT.out.set _ _ hb0 hb1, HB.out.setCell (by simp) _⟩
              case measure => simp [intOf]; omega
            · obtain rfl : k = 0 := by omega
              have HT := Lib.hid hT
              have HB := Lib.hid hB
              clear hB hT
              go_wp2_with fail
              go_ret
              exact ⟨w.heap.size, Nat.le_refl _, rfl, HT.out, HB.out⟩
/-- what stands behind the Once when the table is there -/
def ReplR (w : World) (p : Nat) (ys : List Value) (w2 : World) : Prop := ∃ h, p < h ∧ ys = [.iface 122 (.pointer (some ⟨h, 0, none⟩)), .slice none 0 0] ∧ Tab w2 h ∧ Chg w w2 (fun i => i = p)

set_option maxRecDepth 100000 in
set_option maxHeartbeats 4000000 in
theorem buildOnce_any (t : TypeId) (p g c : Nat) (L : List ByteArray) (hL : L.length = 8) (h1 : ∀ x ∈ L, x.size = 1) (w : World) (h : OB w p [.int .u32 0, .int .i32 1, .int .u32 0, .nilIface, .slice (some ⟨g, 0, none⟩) 8 c] t) (hS : StrsAt w (some ⟨g, 0, none⟩) L) :
    OnceF t p (.pointer (some ⟨p, 0, none⟩)) (ReplR w p) w := by
  unfold OnceF
  have HB := Lib.hid (build_any t p g c _ _ _ _ L hL h1 w h hS)
  have H := Lib.hid h
  have hlt := h.lt
  clear h hS h1 hL
  go_enter Tryz.func42, Tryz.ntmps42
  go_wp2_with fail
  with_reducible refine HB.out.mono ?_
  rintro e w2 ⟨q, hq, rfl, hT, hB⟩
  have H2 := Lib.hid (H.out.below hB)
  have HT := Lib.hid hT
  have HBB := Lib.hid hB
  have hc3 := H2.out.cell 3 _ rfl
  have hz3 := H2.out.free 3
  have hc4 : (w2.setCell ⟨p, 3, none⟩ (.iface 122 (.pointer (some ⟨q, 0, none⟩)))).cell? ⟨p, 4, none⟩ = some (.slice (some ⟨g, 0, none⟩) 8 c) := (H2.out.set 3 _).cell 4 _ rfl
  have hz4 : (w2.setCell ⟨p, 3, none⟩ (.iface 122 (.pointer (some ⟨q, 0, none⟩)))).frozen? ⟨p, 4, none⟩ = false := (H2.out.set 3 _).free 4
  clear hB hT HB
  go_wp2_with fail
  go_end0
  refine ⟨rfl, _, (H2.out.set 3 _).put 4 _ rfl, q, by omega, rfl, (HT.out.far (by simp; omega) _).far (by simp; omega) _, ((Chg.of_below HBB.out (fun i => i = p)).set (.inl rfl) _).set (.inl rfl) _⟩

set_option maxRecDepth 100000 in
set_option maxHeartbeats 4000000 in
theorem bReplace_any (h : Nat) (s : ByteArray) (w : World) (hs : s.size ≤ 1000) (ht : Tab w h) :
    Calls Tryz.prog 138 #[.pointer (some ⟨h, 0, none⟩), .string s] w fun e w' => ∃ r : ByteArray, r.size = s.size ∧ e = .returned (.string r) ∧ Below w.heap.size w w' := by
  have hcv := fun w s => run_bytes_of_string (P := Tryz.prog) w 9 48 5 s Tryz.underlying9 Tryz.underlying48 Tryz.underlying5
  have heq := fun w a n c => Lib.run_eql_slice_nil (P := Tryz.prog) w 48 5 a n c 0 0 Tryz.underlying48
  have HT := Lib.hid ht
  have hlt : h < w.heap.size := by
    obtain ⟨f, h1, -⟩ := ht
    exact h1.lt
  clear ht
  go_enter Tryz.func138, Tryz.ntmps138
  go_wp2_with fail
  go_loopw [5, 6, 7] (fun b i _ wr => ∃ k : Nat, k ≤ s.size ∧ i = .int .i64 k ∧ (b = .slice none 0 0 ∨ ∃ g c, b = .slice (some ⟨g, 0, none⟩) s.size c ∧ w.heap.size ≤ g ∧ TabN wr g s.size) ∧ Below w.heap.size w wr) (fun _ i _ _ => s.size - (intOf i).toNat)
  case atStart => exact ⟨0, Nat.zero_le _, rfl, .inl rfl, Below.refl _ _⟩
  case round =>
    obtain ⟨k, hk, rfl, hbuf, hB⟩ := hrel
    have hB1 := hB.size
    by_cases hlt : k < s.size
    · obtain ⟨f, hR, hf⟩ := HT.out.below hB
      have hcl : s[k].toNat < 256 := UInt8.toNat_lt _
      have hc := hR.cell _ hcl
      have hfb := hf s[k].toNat
      have HB := Lib.hid hB
      clear hR hf hB
      generalize f s[k].toNat = m at *
      by_cases hm : m = s[k].toNat
      · subst hm
        go_wp2_with fail
        go_roundw
        case rel => exact ⟨k + 1, by omega, by go_num, hbuf, HB.out⟩
        case measure => simp [intOf]; omega
      · have hne : ((m : Int) != (s[k].toNat : Int)) = true := by simp only [bne_iff_ne, ne_eq]; omega
        rcases hbuf with rfl | ⟨g, c, rfl, hg, hTg⟩
        · have hcw := hcv wr s
          have hrw := bytes_row wr.drew s (grownCap wr s.size 0 5) 5 ((bytesRow s (grownCap wr s.size 0 5)).size + 1)
          clear hcv
          generalize Obj.cells (bytesRow s (grownCap wr s.size 0 5)) 5 ((bytesRow s (grownCap wr s.size 0 5)).size, (bytesRow s (grownCap wr s.size 0 5)).size + 1) = O at *
          generalize grownCap wr s.size 0 5 = c at *
          have hrw : RowG (wr.alloc O) wr.heap.size s.size (byF s.data.toList) := ⟨hrw.lt, hrw.cell, hrw.free⟩
          have hc1 : (wr.alloc O).cell? ⟨h, s[k].toNat, none⟩ = some (.int .u8 (m : Int)) := (((Below.refl _ _).alloc (Nat.le_refl _) O).cell (p := ⟨h, s[k].toNat, none⟩) (by show h < wr.heap.size; omega)).trans hc
          have hc2 := hrw.cell k hlt
          have hz2 := hrw.free k hlt
          have HT2 : Hid (TabN (wr.alloc O) wr.heap.size s.size) := Lib.hid ⟨fun j => (s.data.toList.getD j 0).toNat, hrw, fun j => UInt8.toNat_lt _⟩
          clear hrw
          go_wp2_with fail
          go_roundw
          case rel => exact ⟨k + 1, by omega, by go_num, .inr ⟨_, _, rfl, hB1, (HT2.out.set k m hlt hfb).drew⟩, ((HB.out.alloc hB1 O).setCell (by simpa using hB1) _).drew⟩
          case measure => simp [intOf]; omega
        · obtain ⟨f2, hR2, hf2⟩ := hTg
          have hc2 := hR2.cell k hlt
          have hz2 := hR2.free k hlt
          have HT2 := Lib.hid (show TabN wr g s.size from ⟨f2, hR2, hf2⟩)
          clear hR2 hf2
          go_wp2_with fail
          go_roundw
          case rel => exact ⟨k + 1, by omega, by go_num, .inr ⟨g, c, rfl, hg, HT2.out.set k m hlt hfb⟩, HB.out.setCell (by simpa using hg) _⟩
          case measure => simp [intOf]; omega
    · obtain rfl : k = s.size := by omega
      have HB := Lib.hid hB
      rcases hbuf with rfl | ⟨g, c, rfl, hg, hTg⟩
      · clear hB
        go_wp2_with fail
        go_ret
        exact ⟨s, rfl, rfl, HB.out⟩
      · obtain ⟨l, hl, hrow⟩ := hTg.list
        have HR : Hid (RowG wr g l.length (byF l)) := Lib.hid (by rw [hl]; exact hrow)
        have HCV := fun c => row_string (c := c) HR.out
        rw [hl] at HCV
        have HL : Hid ((⟨l.toArray⟩ : ByteArray).size = s.size) := Lib.hid hl
        clear hrow hB hTg hl
        go_wp2_with fail
        go_ret
        exact ⟨_, HL.out, rfl, HB.out⟩

theorem Chg.set1 {w w' : World} {p : Nat} (h : Chg w w' (fun i => i = p)) (i : Nat) (v : Value) : Chg w (w'.setCell ⟨p, i, none⟩ v) (fun i => i = p) := Chg.set (B := fun i => i = p) (p := ⟨p, i, none⟩) h (.inl rfl) v
theorem nil_ahead (a : Addr) (w : World) : (nilAhead 157 122 (.pointer (some a)) "Replace").run Tryz.prog w = .ok (some false) w := by kernel_rfl
theorem method_replace (a : Addr) (w : World) : (method 157 122 (.pointer (some a)) "Replace").run Tryz.prog w = .ok (138, .pointer (some a)) w := by kernel_rfl

set_option maxRecDepth 100000 in
set_option maxHeartbeats 4000000 in
theorem Replace_any (t : TypeId) (p g c : Nat) (L : List ByteArray) (s : ByteArray) (hL : L.length = 8) (h1 : ∀ x ∈ L, x.size = 1) (hs : s.size ≤ 1000) (hgp : g ≠ p) (w : World) (h : OB w p [.int .u32 0, .int .i32 0, .int .u32 0, .nilIface, .slice (some ⟨g, 0, none⟩) 8 c] t) (hS : StrsAt w (some ⟨g, 0, none⟩) L) :
    Calls Tryz.prog 23 #[.pointer (some ⟨p, 0, none⟩), .string s] w fun e w' => ∃ r : ByteArray, r.size = s.size ∧ e = .returned (.string r) ∧ Chg w w' (fun i => i = p) := by
  have hmf : ∀ (fn : Fn) (first cap : Array Value) (w : World), (Instr.makeFunc fn first cap).run Tryz.prog w = .ok (.func fn first cap) w := fun _ _ _ _ => rfl
  have hlt := h.lt
  have h2 : OB (w.setCell ⟨p, 1, none⟩ (.int .i32 1)) p [.int .u32 0, .int .i32 1, .int .u32 0, .nilIface, .slice (some ⟨g, 0, none⟩) 8 c] t := h.put 1 _ rfl
  have c2 : Chg w (w.setCell ⟨p, 1, none⟩ (.int .i32 1)) (fun i => i = p) := (Chg.refl w _).set1 _ _
  have hS2 : StrsAt (w.setCell ⟨p, 1, none⟩ (.int .i32 1)) (some ⟨g, 0, none⟩) L := fun j hj => by
    obtain ⟨p', off, he, hl, hc⟩ := hS j hj
    simp only [Option.some.injEq, Addr.mk.injEq] at he
    obtain ⟨rfl, rfl, -⟩ := he
    exact ⟨g, 0, rfl, by simpa using hl, c2.cell hc hgp⟩
  have HC2 := Lib.hid c2
  have HD := Lib.hid (do_first t p (.pointer (some ⟨p, 0, none⟩)) [.nilIface, .slice (some ⟨g, 0, none⟩) 8 c] _ w (buildOnce_any t p g c L hL h1 _ h2 hS2) h)
  have hna := nil_ahead
  have hmr := method_replace
  clear h h2 c2 hS hS2
  go_enter Tryz.func23, Tryz.ntmps23
  go_wp2_with fail
  with_reducible refine HD.out.mono ?_
  rintro e w' ⟨rfl, w2, ys, ⟨q, hpq, rfl, hT, hch⟩, ho, rfl⟩
  have hoB : OB ((w2.drew.setCell ⟨p, 0, none⟩ (.int .u32 1)).setCell ⟨p, 1, none⟩ (.int .i32 0)) p [.int .u32 1, .int .i32 0, .int .u32 0, .iface 122 (.pointer (some ⟨q, 0, none⟩)), .slice none 0 0] t := (OB.put (w := w2.drew) ho 0 _ rfl).put 1 _ rfl
  have HCH : Hid (Chg w ((w2.drew.setCell ⟨p, 0, none⟩ (.int .u32 1)).setCell ⟨p, 1, none⟩ (.int .i32 0)) (fun i => i = p)) := Lib.hid ((((HC2.out.trans hch (fun i hi => .inl hi)).drew).set1 _ _).set1 _ _)
  have HT : Hid (Tab ((w2.drew.setCell ⟨p, 0, none⟩ (.int .u32 1)).setCell ⟨p, 1, none⟩ (.int .i32 0)) q) := Lib.hid ((hT.drew.far (by simp; omega) _).far (by simp; omega) _)
  clear ho hch hT HD HC2
  generalize (w2.drew.setCell ⟨p, 0, none⟩ (.int .u32 1)).setCell ⟨p, 1, none⟩ (.int .i32 0) = w3 at *
  have hc3 := hoB.cell 3 _ rfl
  clear hoB
  go_wp2_with fail
  with_reducible refine (bReplace_any q s _ hs HT.out).mono ?_
  rintro e w4 ⟨r, hr, rfl, hb4⟩
  have HB4 := Lib.hid (HCH.out.trans (Chg.of_below hb4 (fun i => i = p)) (fun i hi => .inl hi))
  clear hb4 hna hmr hmf
  go_wp2_with fail
  go_ret
  exact ⟨r, hr, rfl, HB4.out⟩

set_option maxRecDepth 100000 in
set_option maxHeartbeats 4000000 in
theorem NewReplacer_any (g c : Nat) (L : List ByteArray) (hL : L.length = 8) (w : World) (hS : StrsAt w (some ⟨g, 0, none⟩) L) :
    Calls Tryz.prog 22 #[.slice (some ⟨g, 0, none⟩) 8 c] w fun e w' => ∃ p g' c', w.heap.size ≤ p ∧ g' ≠ p ∧ e = .returned (.pointer (some ⟨p, 0, none⟩)) ∧ OB w' p [.int .u32 0, .int .i32 0, .int .u32 0, .nilIface, .slice (some ⟨g', 0, none⟩) 8 c'] 78 ∧ StrsAt w' (some ⟨g', 0, none⟩) L ∧ Below w.heap.size w w' := by
  obtain ⟨i0, hi, hz0, hz1, hz2'⟩ := info_parts infoStr
  have HS := Lib.hid hS
  have HL := Lib.hid hL
  clear hS hL
  go_enter Tryz.func22, Tryz.ntmps22
  go_wp2_with (at_builtin; refine wpList_append_own _ rfl _ _ 46 rfl w.heap.size 9 i0 _ 1 16 Tryz.underlying46 hi hz0 hz1 hz2' rfl (by decide) _ _ _ rfl (World.ownsRow_nil w w.heap.size 9 1) ⟨g, 0, none⟩ 8 c (L.map Value.string) rfl ?c0 ?c1 ?c2 ?c3 ?c4 ?c5 ?_)
  case c0 => simpa using HL.out
  case c1 =>
    intro j u hu
    rw [List.getElem?_map, Option.map_eq_some_iff] at hu
    obtain ⟨x, hx, rfl⟩ := hu
    obtain ⟨hj, rfl⟩ := List.getElem?_eq_some_iff.1 hx
    obtain ⟨p', off, he, -, hc⟩ := HS.out j hj
    simp only [Option.some.injEq, Addr.mk.injEq] at he
    obtain ⟨rfl, rfl, -⟩ := he
    rw [Nat.zero_add] at hc
    have e : (Addr.add ⟨g, 0, none⟩ j) = ⟨g, j, none⟩ := by
      unfold Addr.add
      split
      · rename_i h0; subst h0; rfl
      · simp
    rw [e]
    exact hc
  case c2 => intro u hu; obtain ⟨x, -, rfl⟩ := List.mem_map.1 hu; rfl
  case c3 => unfold maxLen; omega
  case c4 => omega
  case c5 => omega
  intro v2 w2 own2 hgrow2 hne2
  have hSA : ∃ a c, v2 = .slice a L.length c ∧ StrsAt w2 a L := StrsAt.of_own (b0 := w.heap.size) (t := 9) (by
    rw [HL.out]
    exact own2)
  have HB2 := Lib.hid ((Below.refl w.heap.size w).grown hgrow2 (Nat.le_refl _) (fun j hj => by simp [Value.ownBlock] at hj))
  obtain ⟨-, ⟨-, h0⟩ | ⟨g2, cap, cur, rfl, hg2, hgb, -, -⟩⟩ := own2
  · omega
  have hg2l := (Array.getElem?_eq_some_iff.1 hgb).1
  obtain ⟨a, c', ha, hSA⟩ := hSA
  simp only [Value.slice.injEq] at ha
  obtain ⟨rfl, -, rfl⟩ := ha
  have HSA := Lib.hid hSA
  have hz2 := HB2.out.size
  clear hgrow2 hne2 hSA hgb
  go_wp2_with fail
  go_ret
  refine ⟨w2.heap.size, g2, cap, by omega, by omega, rfl, OB.new w2 [.int .u32 0, .int .i32 0, .int .u32 0, .nilIface, .slice (some ⟨g2, 0, none⟩) 8 cap] _, HSA.out.below ((Below.refl _ _).alloc (Nat.le_refl _) _), HB2.out.alloc hz2 _⟩
end Go.Proofs.YtdcanlkdhbmknaaGreatDoor
