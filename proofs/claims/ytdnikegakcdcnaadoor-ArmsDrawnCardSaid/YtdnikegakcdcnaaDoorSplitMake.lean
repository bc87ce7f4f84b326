/- The maker of splits: Stream.Split. -/
import Derived.Test.YtdnikegakcdcnaaDoorRecs
import Derived.Test.YtdnikegakcdcnaaDoorKey
import Derived.Test.YtdnikegakcdcnaaDoorPickAt
import Derived.Test.YtdnikegakcdcnaaDoorRange
import Derived.Test.YtdnikegakcdcnaaDoorInts
import Derived.Test.YtdnikegakcdcnaaDoorMask
import Derived.Test.YtdnikegakcdcnaaDoorSplitFault
import Derived.Test.YtdnikegakcdcnaaDoorGrow
import Derived.Test.YtdnikegakcdcnaaDoorZeros
import Derived.Deep.DeepCutAuto
set_option linter.unusedVariables false
namespace Go.Proofs.YtdnikegakcdcnaaDoor
open Go.RowKit

/-- what the maker of a split leaves -/
def GenSp (S : SC) (K : Nat) (w : World) (e : Ending) (w' : World) : Prop :=
  ∃ name a ws c hold, e = .returned (.agg #[.string name, .slice a ws.length c, .int .i64 hold]) ∧ name.size ≤ 100 ∧ ws.length ≤ 50 ∧ IntsAt w' a ws ∧ (∀ p off, a = some ⟨p, off, none⟩ → p ≠ S.g) ∧ w.grownBy w' (some S.g) ∧ Strm w' S K

/-- a split that is being made: block q0 is the result's, block q the split's own; its weights grow -/
structure SpW (w : World) (S : SC) (q0 q : Nat) (name : ByteArray) (hold : Int) (cur : Value) (ws : List Int) (K : Nat) (wr : World) : Prop where
  strm : Strm wr S K
  grown : w.grownBy wr (some S.g)
  own : wr.ownsRow (q + 1) 3 1 cur ws.length (ws.map (Value.int .i64))
  blk : wr.heap[q]? = some (.cells #[.string name, cur, .int .i64 hold] 45 (0, 0))
  rb : ∃ x y z, wr.heap[q0]? = some (.cells #[x, y, z] 45 (0, 0))
  lt : q0 < q
  hw : w.heap.size ≤ q0
  hS : S.g < q0
section
variable {w wr wr' : World} {S : SC} {q0 q : Nat} {name : ByteArray} {hold : Int} {cur : Value} {ws : List Int} {K K' : Nat}
theorem SpW.lt2 (h : SpW w S q0 q name hold cur ws K wr) : q + 1 ≤ wr.heap.size := by
  have hb := h.blk
  rcases Nat.lt_or_ge q wr.heap.size with h' | h'
  · exact h'
  · rw [Array.getElem?_eq_none h'] at hb; cases hb
theorem SpW.drew (h : SpW w S q0 q name hold cur ws K wr) : SpW w S q0 q name hold cur ws K wr.drew := ⟨strm_drew h.strm, grown_drew h.grown, h.own.drew, h.blk, h.rb, h.lt, h.hw, h.hS⟩
theorem SpW.mono (h : SpW w S q0 q name hold cur ws K wr) (hK : K ≤ K') : SpW w S q0 q name hold cur ws K' wr := ⟨strm_mono h.strm hK, h.grown, h.own, h.blk, h.rb, h.lt, h.hw, h.hS⟩
theorem SpW.cell1 (h : SpW w S q0 q name hold cur ws K wr) : wr.cell? ⟨q, 1, none⟩ = some cur := by simp [World.cell?, h.blk]
theorem SpW.cell0 (h : SpW w S q0 q name hold cur ws K wr) : wr.cell? ⟨q, 0, none⟩ = some (.string name) := by simp [World.cell?, h.blk]
theorem SpW.cell2 (h : SpW w S q0 q name hold cur ws K wr) : wr.cell? ⟨q, 2, none⟩ = some (.int .i64 hold) := by simp [World.cell?, h.blk]
theorem SpW.res (h : SpW w S q0 q name hold cur ws K wr) : (∃ x, wr.cell? ⟨q0, 0, none⟩ = some x) ∧ (∃ x, wr.cell? ⟨q0, 1, none⟩ = some x) ∧ (∃ x, wr.cell? ⟨q0, 2, none⟩ = some x) ∧ wr.frozen? ⟨q0, 0, none⟩ = false ∧ wr.frozen? ⟨q0, 1, none⟩ = false ∧ wr.frozen? ⟨q0, 2, none⟩ = false := by
  obtain ⟨x, y, z, hb⟩ := h.rb
  refine ⟨⟨x, ?_⟩, ⟨y, ?_⟩, ⟨z, ?_⟩, ?_, ?_, ?_⟩ <;> simp [World.cell?, World.frozen?, hb]
theorem SpW.free1 (h : SpW w S q0 q name hold cur ws K wr) : wr.frozen? ⟨q, 1, none⟩ = false := by simp [World.frozen?, h.blk]
theorem SpW.new_ne (h : SpW w S q0 q name hold cur ws K wr) : wr.heap.size ≠ S.g := by have := strm_lt h.strm; omega
theorem SpW.step (h : SpW w S q0 q name hold cur ws K wr) (k : wr.grownBy wr' (some S.g)) (s : Strm wr' S K') : SpW w S q0 q name hold cur ws K' wr' := by
  have h2 := h.lt2
  have h3 := h.hS
  have h4 := h.lt
  refine ⟨s, grown_trans h.grown k, row_kept h.own k (by omega), (k.block q (by omega) (by simp; omega)).trans h.blk, ?_, h.lt, h.hw, h.hS⟩
  obtain ⟨x, y, z, hb⟩ := h.rb
  exact ⟨x, y, z, (k.block q0 (by omega) (by simp; omega)).trans hb⟩
/-- a weight more, and the store of the new list -/
theorem SpW.app {g n' cap : Nat} {us : List Int} (h : SpW w S q0 q name hold cur ws K wr) (k : wr.grownBy wr' cur.ownBlock) (own : wr'.ownsRow (q + 1) 3 1 (.slice (some ⟨g, 0, none⟩) (ws.length + n') cap) (ws.length + n') (ws.map (Value.int .i64) ++ us.map (Value.int .i64))) :
    (wr'.cell? ⟨q, 1, none⟩ = some cur) ∧ wr'.frozen? ⟨q, 1, none⟩ = false ∧ SpW w S q0 q name hold (.slice (some ⟨g, 0, none⟩) (ws.length + n') cap) (ws ++ us) K (wr'.setCell ⟨q, 1, none⟩ (.slice (some ⟨g, 0, none⟩) (ws.length + n') cap)) := by
  have h2 := h.lt2
  have h3 := h.hS
  have h4 := h.lt
  have h5 := h.hw
  have hr : ∀ x, cur.ownBlock = some x → q + 1 ≤ x := fun x hx => (h.own.lt x hx).1
  have hb : wr'.heap[q]? = some (.cells #[.string name, cur, .int .i64 hold] 45 (0, 0)) := (k.block q (by omega) (fun e => by have := hr q e.symm; omega)).trans h.blk
  have hl : ws.length + n' = (ws ++ us).length := by
    have := own.1
    simp at this ⊢
    omega
  have hset : wr'.grownBy (wr'.setCell ⟨q, 1, none⟩ (.slice (some ⟨g, 0, none⟩) (ws.length + n') cap)) (some q) := ⟨rfl, rfl, rfl, by simp [World.setCell], fun i _ hne => Below.heap_setCell wr' _ _ i (by rintro rfl; exact hne rfl)⟩
  refine ⟨by simp [World.cell?, hb], by simp [World.frozen?, hb], ?_, ?_, ?_, ?_, ?_, h.lt, h.hw, h.hS⟩
  · exact strm_set (strm_own h.strm k (fun x hx => by have := hr x hx; omega)) (by show S.g < q; omega) _
  · exact grown_set (grown_own h.grown k (fun x hx => by have := hr x hx; omega)) (.inr (by show w.heap.size ≤ q; omega)) _
  · rw [← hl, List.map_append]
    exact own.kept hset (.inr (by
      have := (own.lt g (by simp [Value.ownBlock])).1
      simp [Value.ownBlock]; omega))
  · simp [World.setCell, Array.getElem?_modify, hb]
  · obtain ⟨x, y, z, hb0⟩ := h.rb
    refine ⟨x, y, z, ?_⟩
    rw [Below.heap_setCell wr' _ _ q0 (by show q0 ≠ q; omega)]
    exact (k.block q0 (by omega) (fun e => by have := hr q0 e.symm; omega)).trans hb0

theorem SpW.done {a : Option Addr} {c : Nat} {x y z : Value} (h : SpW w S q0 q name hold (.slice a ws.length c) ws K wr) (hK : K ≤ K') (hn : name.size ≤ 100) (hl : ws.length ≤ 50) :
    GenSp S K' w (.returned (.agg #[.string name, .slice a ws.length c, .int .i64 hold])) (((wr.setCell ⟨q0, 0, none⟩ x).setCell ⟨q0, 1, none⟩ y).setCell ⟨q0, 2, none⟩ z) := by
  have h3 := h.hS
  have h4 := h.lt
  have h5 := h.hw
  have hI := IntsAt.of_own h.own
  have hfar : ∀ p off, a = some ⟨p, off, none⟩ → q + 1 ≤ p := fun p off e => (h.own.lt p (by rw [e]; rfl)).1
  have hset : ∀ (w0 : World) (o : Nat) (u : Value), w0.grownBy (w0.setCell ⟨q0, o, none⟩ u) (some q0) := fun w0 o u => ⟨rfl, rfl, rfl, by simp [World.setCell], fun i _ hne => Below.heap_setCell w0 _ _ i (by rintro rfl; exact hne rfl)⟩
  have hq : ∀ p off, a = some ⟨p, off, none⟩ → p ≠ q0 := fun p off e => by have := hfar p off e; omega
  refine ⟨name, a, ws, c, hold, rfl, hn, hl, ((hI.grown (hset _ _ _) hq).grown (hset _ _ _) hq).grown (hset _ _ _) hq, fun p off e => by have := hfar p off e; omega, ?_, ?_⟩
  · exact grown_set (grown_set (grown_set h.grown (.inr h5) _) (.inr h5) _) (.inr h5) _
  · exact strm_mono (strm_set (strm_set (strm_set h.strm h3 _) h3 _) h3 _) hK
/-- what the drawn regions keep -/
structure JP (w : World) (S : SC) (q0 q : Nat) (name : ByteArray) (hold : Int) (cur : Value) (ws : List Int) (K0 : Nat) (zs : List Int) (N s1 s3 s4 s5 : Nat) (b : Msk) (v : Nat → Value) (wr : World) : Prop where
  base : SpW w S q0 q name hold cur ws (K0 + (b 4).toNat) wr
  p1 : b 1 = true → v s1 = cur
  p3 : b 3 = true → ∃ h, v s3 = .slice (some ⟨h, 0, none⟩) N N ∧ h ≠ S.g ∧ wr.heap[h]? = some (.cells (zs.map (Value.int .i64)).toArray 3 (0, 0))
  p4 : b 4 = true → ∃ z, v s4 = .int .i64 z ∧ z ∈ zs
  p5 : b 5 = true → ∃ h z, v s5 = .slice (some ⟨h, 0, none⟩) 1 1 ∧ z ∈ zs ∧ h ≠ S.g ∧ wr.cell? ⟨h, 0, none⟩ = some (.int .i64 z)
theorem JP.step {K0 N s1 s3 s4 s5 : Nat} {zs : List Int} {b b' : Msk} {v v' : Nat → Value} (h : JP w S q0 q name hold cur ws K0 zs N s1 s3 s4 s5 b v wr) (k : wr.grownBy wr' (some S.g)) (s : Strm wr' S (K0 + (b' 4).toNat))
    (q1 : b' 1 = true → v' s1 = cur) (q3 : b' 3 = true → (b 3 = true ∧ v' s3 = v s3) ∨ ∃ h, v' s3 = .slice (some ⟨h, 0, none⟩) N N ∧ h ≠ S.g ∧ wr'.heap[h]? = some (.cells (zs.map (Value.int .i64)).toArray 3 (0, 0)))
    (q4 : b' 4 = true → ∃ z, v' s4 = .int .i64 z ∧ z ∈ zs)
    (q5 : b' 5 = true → (b 5 = true ∧ v' s5 = v s5) ∨ ∃ h z, v' s5 = .slice (some ⟨h, 0, none⟩) 1 1 ∧ z ∈ zs ∧ h ≠ S.g ∧ wr'.cell? ⟨h, 0, none⟩ = some (.int .i64 z)) :
    JP w S q0 q name hold cur ws K0 zs N s1 s3 s4 s5 b' v' wr' := by
  refine ⟨h.base.step k s, q1, fun e => ?_, q4, fun e => ?_⟩
  · rcases q3 e with ⟨e', ev⟩ | h'
    · obtain ⟨x, h1, h2, h3⟩ := h.p3 e'
      refine ⟨x, ev.trans h1, h2, (k.block x ?_ (by simpa using h2)).trans h3⟩
      rcases Nat.lt_or_ge x wr.heap.size with h' | h'
      · exact h'
      · rw [Array.getElem?_eq_none h'] at h3; cases h3
    · exact h'
  · rcases q5 e with ⟨e', ev⟩ | h'
    · obtain ⟨x, z, h1, h2, h3, h4⟩ := h.p5 e'
      exact ⟨x, z, ev.trans h1, h2, h3, k.cell h4 (by simpa using h3)⟩
    · exact h'
end

set_option maxRecDepth 100000 in
set_option maxHeartbeats 4000000 in
theorem split_any (S : SC) (K : Nat) (w : World) (s0 : Strm w S K) (hK : K ≤ 10000) :
    Calls Tryd.prog 23 #[S.p] w (GenSp S (K + 30) w) := by
  obtain ⟨i0, hi, hz0, hz1, hz2⟩ := info_parts infoInt
  go_enter Tryd.func23, Tryd.ntmps23
  go_wp2_with fail
  have hg0 := strm_lt s0
  have hb0 := heap_alloc_new w (.cells #[.string ⟨#[]⟩, .slice none 0 0, .int .i64 0] 45)
  have k0 := World.grownBy_alloc w (.cells #[.string ⟨#[]⟩, .slice none 0 0, .int .i64 0] 45) (some S.g)
  have s1 := strm_alloc s0 (.cells #[.string ⟨#[]⟩, .slice none 0 0, .int .i64 0] 45)
  have hz := World.size_alloc w (.cells #[.string ⟨#[]⟩, .slice none 0 0, .int .i64 0] 45)
  generalize w.alloc (.cells #[.string ⟨#[]⟩, .slice none 0 0, .int .i64 0] 45) = w1 at *
  generalize hq0 : w.heap.size = q0 at *
  rw [← hz]
  clear s0
  with_reducible refine (key_at S _ [⟨#[116, 101, 115, 116]⟩, ⟨#[99, 111, 108, 111, 114]⟩] 2 _ _ _ _ s1 (by omega) rfl (by omega) (by omega) (by simp) (by simp)).mono ?_
  rintro e w2 ⟨name, hn, rfl, k2, s2⟩
  have hns : name.size ≤ 100 := by
    rcases hn with h | h <;> simp only [List.mem_cons, List.mem_nil_iff, or_false] at h
    · rcases h with rfl | rfl <;> decide
    · rcases h with rfl | rfl | rfl <;> decide
  have hb2 := (k2.block q0 (by omega) (by simp; omega)).trans hb0
  have g2 := grown_trans k0 k2
  have hz2' := k2.size
  clear hn hb0 k0 k2 s1
  go_wp2_with fail
  with_reducible refine (pick_at S _ [0, 0, 1, 10] 4 _ _ _ _ s2 (by omega) rfl (by omega) (by omega) (by simp) (by simp)).mono ?_
  rintro e w3 ⟨hold, hh, rfl, k3, s3⟩
  have hb3 := (k3.block q0 (by omega) (by simp; omega)).trans hb2
  have g3 := grown_trans g2 k3
  have hz3 := k3.size
  clear hh hb2 g2 k3 s2
  go_wp2_with fail
  have P4 : SpW w S q0 w3.heap.size name hold (.slice none 0 0) [] (K + 3) (w3.alloc (.cells #[.string name, .slice none 0 0, .int .i64 hold] 45)) :=
    ⟨strm_mono (strm_alloc s3 _) (by omega), grown_alloc g3 _, World.ownsRow_nil _ _ _ _, heap_alloc_new _ _, ⟨_, _, _, ((World.grownBy_alloc w3 _ none).block q0 (by omega) (by simp)).trans hb3⟩, by omega, by omega, by omega⟩
  have s4 := P4.strm
  have HP4 := Lib.hid P4
  generalize w3.alloc (.cells #[.string name, .slice none 0 0, .int .i64 hold] 45) = w4 at *
  generalize hq : w3.heap.size = q at *
  have HQ := Lib.hid hq
  have HQ0 := Lib.hid hq0
  clear P4 hb3 g3 s3 hq hq0
  with_reducible refine (range_any S _ _ _ _ s4 (by omega) (by omega) (by omega) (by omega)).mono ?_
  rintro e w5 ⟨m', ⟨hm0, hm1⟩, rfl, k5, s5⟩
  obtain ⟨m, rfl⟩ := Int.eq_ofNat_of_zero_le hm0
  have P5 := HP4.out.step k5 s5
  clear k5 s5 s4 HP4
  go_wp2_with fail
  go_loopw [13] (fun i wr => ∃ (k : Nat) (cur : Value) (ws : List Int), k ≤ m ∧ i = .int .i64 k ∧ ws.length = k ∧ SpW w S q0 q name hold cur ws (K + 4 + k) wr) (fun i _ => m - (intOf i).toNat)
  case atStart => exact ⟨0, _, [], Nat.zero_le _, rfl, rfl, P5⟩
  case round =>
    obtain ⟨k, cur, ws, hk, rfl, hl, hP⟩ := hrel
    have HP := Lib.hid hP
    have hll := Lib.hid hl
    clear hP P5 hl
    by_cases hlt : k < m
    · have hnl : ws.length ≤ 20 := by have := hll.out; omega
      go_upto_region 4 with (fail)
      refine wp_region_any (by kernel_rfl) ?_
      change wpAny _ _ _ _ _ _ _ (World.drew _)
      have HPd := Lib.hid HP.out.drew
      clear HP
      generalize World.drew _ = wd at *
      refine wpAny_take (i := 0) (oi := ⟨some 15, _, _, _, _, _⟩) (v := (.pointer (some ⟨q, 1, none⟩))) rfl (by kernel_rfl) (by kernel_rfl) (by kernel_rfl) (fun _ _ _ h => h) (Or.inl ⟨by rfl, fun w => by go_simp⟩) ?_
      refine wpAny_take (i := 2) (oi := ⟨some 17, _, _, _, _, _⟩) (v := S.p) rfl (by kernel_rfl) (by kernel_rfl) (by kernel_rfl) (fun _ _ _ h => h) (Or.inl ⟨by rfl, fun w => by go_simp⟩) ?_
      refine wpAny_mask (n := 3) (m := 7) #[true, false, true, false, false, false, false, false, false] [1, 3, 4, 5] (fun i => if i = 4 then [3] else if i = 5 then [4] else []) [16, 18, 19, 20] (fun d => if d = 16 then u16 else if d = 18 then u18 else if d = 19 then u19 else u20) (JP w S q0 q name hold cur ws (K + 4 + k) [0, 1, 1, 5, 1000] 5 16 18 19 20) rfl (by decide) (by kernel_rfl) (by kernel_rfl) ?stp ?hsp ?hendp
      case stp => exact ⟨HPd.out, fun e => (by cases e), fun e => (by cases e), fun e => (by cases e), fun e => (by cases e)⟩
      case hsp =>
        intro i hi b u wx hbi hD hJ
        simp only [List.mem_cons, List.mem_nil_iff, or_false] at hi
        have HJ := Lib.hid hJ
        rcases hi with rfl | rfl | rfl | rfl
        · refine wpOp_calm (o := ⟨some 16, ?ap1, ?ap2, ?ap3, ?ap4, ?ap5⟩) ?api ?apg ?_
          case api => exact rfl
          case apg => exact rfl
          intro K' Q' hK'
          have HK := Lib.hid hK'
          clear hK'
          have y1 := hJ.base.cell1
          clear hJ
          simp only [setAll, List.foldl]
          go_simp
          exact HK.out _ _ ⟨upd u 16 cur, by kernel_rfl, ⟨HJ.out.base, fun _ => rfl, fun e => HJ.out.p3 e, fun e => HJ.out.p4 e, fun e => HJ.out.p5 e⟩⟩
        · refine wpOp_calm (o := ⟨some 18, ?bp1, ?bp2, ?bp3, ?bp4, ?bp5⟩) ?bpi ?bpg ?_
          case bpi => exact rfl
          case bpg => exact rfl
          intro K' Q' hK'
          have HK := Lib.hid hK'
          clear hK'
          clear hJ
          simp only [setAll, List.foldl]
          go_simp
          exact HK.out _ _ ⟨upd u 18 (.slice (some ⟨wx.heap.size, 0, none⟩) 5 5), by kernel_rfl, HJ.out.step (World.grownBy_alloc _ _ _) (strm_alloc HJ.out.base.strm _) (fun e => HJ.out.p1 e) (fun _ => .inr ⟨_, rfl, HJ.out.base.new_ne, heap_alloc_new _ _⟩) (fun e => HJ.out.p4 e) (fun e => .inl ⟨e, rfl⟩)⟩
        · refine wpOp_calm (o := ⟨some 19, ?cp1, ?cp2, ?cp3, ?cp4, ?cp5⟩) ?cpi ?cpg ?_
          case cpi => exact rfl
          case cpg => exact rfl
          intro K' Q' hK'
          have HK := Lib.hid hK'
          clear hK'
          obtain ⟨h, hv, hne, hb⟩ := hJ.p3 (hD 3 (by simp))
          have C := pick_any S ((K + 4 + k)) h [0, 1, 1, 5, 1000] 5 5 wx (strm_mono hJ.base.strm (by rw [hbi]; exact Nat.le_refl _)) (by omega) rfl (by omega) (by omega) hb hne
          rw [← hv] at C
          have HC := Lib.hid C
          clear hJ hv hb C
          simp only [setAll, List.foldl]
          go_simp
          refine HC.out.mono ?_
          rintro e w' ⟨z, hz, rfl, k', st⟩
          exact HK.out _ _ ⟨upd u 19 (.int .i64 z), by kernel_rfl, HJ.out.step k' st (fun e => HJ.out.p1 e) (fun e => .inl ⟨e, rfl⟩) (fun _ => ⟨z, rfl, hz⟩) (fun e => .inl ⟨e, rfl⟩)⟩
        · refine wpOp_calm (o := ⟨some 20, ?dp1, ?dp2, ?dp3, ?dp4, ?dp5⟩) ?dpi ?dpg ?_
          case dpi => exact rfl
          case dpg => exact rfl
          intro K' Q' hK'
          have HK := Lib.hid hK'
          clear hK'
          obtain ⟨z, hz, hzm⟩ := HJ.out.p4 (hD 4 (by simp))
          clear hJ
          simp only [setAll, List.foldl, hz]
          go_simp
          exact HK.out _ _ ⟨upd (upd u 19 (.int .i64 z)) 20 (.slice (some ⟨wx.heap.size, 0, none⟩) 1 1), by kernel_rfl, by
            rw [upd_same hz]
            exact HJ.out.step (World.grownBy_alloc _ _ _) (strm_alloc HJ.out.base.strm _) (fun e => HJ.out.p1 e) (fun e => .inl ⟨e, rfl⟩) (fun e => HJ.out.p4 e) (fun _ => .inr ⟨_, z, rfl, hzm, HJ.out.base.new_ne, (XB.new wx [.int .i64 z] 3).2 0 _ rfl⟩)⟩
      case hendp =>
        intro b u wx hb hJ
        obtain ⟨h, z, h5, hzm, hne, hc5⟩ := hJ.p5 (hb 5 (by simp))
        have h1 := hJ.p1 (hb 1 (by simp))
        have HW := Lib.hid (hJ.base.mono (show (K + 4 + k) + (b 4).toNat ≤ (K + 4 + k) + 1 by have := Bool.toNat_le (b 4); omega))
        have hown := HW.out.own
        have hsz := HW.out.lt2
        simp only [setAll, List.foldl, h1, h5]
        clear h1 h5 hb hJ
        refine wpAny_ready (rs := [6]) (by kernel_rfl) (by simp) ?_
        refine AllReady.cons rfl (fun K6 hK6 => ?_) AllReady.nil
        refine step_append_lies (o := ⟨some 21, _, _, _, _, _⟩) _ (by rfl) (.tmp 16) (.tmp 20) 22 (by rfl) (q + 1) 3 i0 (.int .i64 0) 1 8 Tryd.underlying22 hi hz0 hz1 hz2 rfl (by omega) cur ws.length _ (by kernel_rfl) hown ⟨h, 0, none⟩ 1 1 [.int .i64 z] (by kernel_rfl) (by rfl) ?cnp (by simp [Value.oneCell']) (by omega) (by unfold maxLen; omega) (by omega) hsz _ rfl ?_
        case cnp =>
          intro j x hx
          rcases j with _ | j
          · simp at hx; subst hx; simpa [Addr.add] using hc5
          · simp at hx
        intro g cap wy own hgrow hat hlt
        have HWy := Lib.hid (HW.out.app (us := [z]) (n' := 1) hgrow own)
        have f1 := HWy.out.1
        have f2 := HWy.out.2.1
        refine hK6 _ _ ?_
        clear hK6 K6 own hgrow hat hown HW hc5
        refine wpAny_take (i := 7) (oi := ⟨some 22, _, _, _, _, _⟩) (v := (.pointer (some ⟨q, 1, none⟩))) rfl (by kernel_rfl) (by kernel_rfl) (by kernel_rfl) (fun _ _ _ h => h) (Or.inl ⟨by rfl, fun w => by go_simp⟩) ?_
        refine wpAny_ready (rs := [8]) (by kernel_rfl) (by simp) ?_
        refine AllReady.cons rfl (fun K8 hK8 => ?_) AllReady.nil
        go_simp
        refine hK8 _ _ ?_
        clear hK8 K8
        refine wpAny_done (by kernel_rfl) ?_ _
        have HS := Lib.hid HWy.out.2.2
        clear HWy f1 f2
        go_wp2_with fail
        go_roundw
        case rel => exact ⟨k + 1, _, ws ++ [z], by omega, by go_num, by simp [hll.out], HS.out.mono (by omega)⟩
        case measure => simp [intOf]; omega
    · obtain rfl : k = m := by omega
      have hnl : ws.length ≤ 4 := by have := hll.out; omega
      have s6 := HP.out.strm
      go_wp2_with fail
      with_reducible refine (flip_any S _ _ _ s6 (by omega) (by omega)).mono ?_
      rintro e w7 ⟨b, rfl, k7, s7⟩
      have HP7 := Lib.hid ((HP.out.step k7 s7).mono (show K + 4 + k + 1 ≤ K + 9 by omega))
      clear HP k7 s7 s6
      go_upto_if 25 with (fail)
      go_cut [3] (fun p wx => ∃ cur ws, p = .pointer (some ⟨q, 0, none⟩) ∧ ws.length ≤ 5 ∧ SpW w S q0 q name hold cur ws (K + 10) wx)
      case first =>
        cases b with
        | false =>
          go_wp2_with fail
          go_meet
          exact ⟨cur, ws, rfl, by omega, HP7.out.mono (by omega)⟩
        | true =>
          have HP := HP7
          clear HP7
          go_upto_region 7 with (fail)
          refine wp_region_any (by kernel_rfl) ?_
          change wpAny _ _ _ _ _ _ _ (World.drew _)
          have HPd := Lib.hid HP.out.drew
          clear HP
          generalize World.drew _ = wd at *
          refine wpAny_take (i := 0) (oi := ⟨some 26, _, _, _, _, _⟩) (v := (.pointer (some ⟨q, 1, none⟩))) rfl (by kernel_rfl) (by kernel_rfl) (by kernel_rfl) (fun _ _ _ h => h) (Or.inl ⟨by rfl, fun w => by go_simp⟩) ?_
          refine wpAny_take (i := 2) (oi := ⟨some 28, _, _, _, _, _⟩) (v := S.p) rfl (by kernel_rfl) (by kernel_rfl) (by kernel_rfl) (fun _ _ _ h => h) (Or.inl ⟨by rfl, fun w => by go_simp⟩) ?_
          refine wpAny_mask (n := 3) (m := 7) #[true, false, true, false, false, false, false, false, false] [1, 3, 4, 5] (fun i => if i = 4 then [3] else if i = 5 then [4] else []) [27, 29, 30, 31] (fun _ => undef) (JP w S q0 q name hold cur ws (K + 9) [-1, 1001] 2 27 29 30 31) rfl (by decide) (by kernel_rfl) (by kernel_rfl) ?stz ?hsz ?hendz
          case stz => exact ⟨HPd.out, fun e => (by cases e), fun e => (by cases e), fun e => (by cases e), fun e => (by cases e)⟩
          case hsz =>
            intro i hi b u wx hbi hD hJ
            simp only [List.mem_cons, List.mem_nil_iff, or_false] at hi
            have HJ := Lib.hid hJ
            rcases hi with rfl | rfl | rfl | rfl
            · refine wpOp_calm (o := ⟨some 27, ?az1, ?az2, ?az3, ?az4, ?az5⟩) ?azi ?azg ?_
              case azi => exact rfl
              case azg => exact rfl
              intro K' Q' hK'
              have HK := Lib.hid hK'
              clear hK'
              have y1 := hJ.base.cell1
              clear hJ
              simp only [setAll, List.foldl]
              go_simp
              exact HK.out _ _ ⟨upd u 27 cur, by kernel_rfl, ⟨HJ.out.base, fun _ => rfl, fun e => HJ.out.p3 e, fun e => HJ.out.p4 e, fun e => HJ.out.p5 e⟩⟩
            · refine wpOp_calm (o := ⟨some 29, ?bz1, ?bz2, ?bz3, ?bz4, ?bz5⟩) ?bzi ?bzg ?_
              case bzi => exact rfl
              case bzg => exact rfl
              intro K' Q' hK'
              have HK := Lib.hid hK'
              clear hK'
              clear hJ
              simp only [setAll, List.foldl]
              go_simp
              exact HK.out _ _ ⟨upd u 29 (.slice (some ⟨wx.heap.size, 0, none⟩) 2 2), by kernel_rfl, HJ.out.step (World.grownBy_alloc _ _ _) (strm_alloc HJ.out.base.strm _) (fun e => HJ.out.p1 e) (fun _ => .inr ⟨_, rfl, HJ.out.base.new_ne, heap_alloc_new _ _⟩) (fun e => HJ.out.p4 e) (fun e => .inl ⟨e, rfl⟩)⟩
            · refine wpOp_calm (o := ⟨some 30, ?cz1, ?cz2, ?cz3, ?cz4, ?cz5⟩) ?czi ?czg ?_
              case czi => exact rfl
              case czg => exact rfl
              intro K' Q' hK'
              have HK := Lib.hid hK'
              clear hK'
              obtain ⟨h, hv, hne, hb⟩ := hJ.p3 (hD 3 (by simp))
              have C := pick_any S ((K + 9)) h [-1, 1001] 2 2 wx (strm_mono hJ.base.strm (by rw [hbi]; exact Nat.le_refl _)) (by omega) rfl (by omega) (by omega) hb hne
              rw [← hv] at C
              have HC := Lib.hid C
              clear hJ hv hb C
              simp only [setAll, List.foldl]
              go_simp
              refine HC.out.mono ?_
              rintro e w' ⟨z, hz, rfl, k', st⟩
              exact HK.out _ _ ⟨upd u 30 (.int .i64 z), by kernel_rfl, HJ.out.step k' st (fun e => HJ.out.p1 e) (fun e => .inl ⟨e, rfl⟩) (fun _ => ⟨z, rfl, hz⟩) (fun e => .inl ⟨e, rfl⟩)⟩
            · refine wpOp_calm (o := ⟨some 31, ?dz1, ?dz2, ?dz3, ?dz4, ?dz5⟩) ?dzi ?dzg ?_
              case dzi => exact rfl
              case dzg => exact rfl
              intro K' Q' hK'
              have HK := Lib.hid hK'
              clear hK'
              obtain ⟨z, hz, hzm⟩ := HJ.out.p4 (hD 4 (by simp))
              clear hJ
              simp only [setAll, List.foldl, hz]
              go_simp
              exact HK.out _ _ ⟨upd (upd u 30 (.int .i64 z)) 31 (.slice (some ⟨wx.heap.size, 0, none⟩) 1 1), by kernel_rfl, by
                rw [upd_same hz]
                exact HJ.out.step (World.grownBy_alloc _ _ _) (strm_alloc HJ.out.base.strm _) (fun e => HJ.out.p1 e) (fun e => .inl ⟨e, rfl⟩) (fun e => HJ.out.p4 e) (fun _ => .inr ⟨_, z, rfl, hzm, HJ.out.base.new_ne, (XB.new wx [.int .i64 z] 3).2 0 _ rfl⟩)⟩
          case hendz =>
            intro b u wx hb hJ
            obtain ⟨h, z, h5, hzm, hne, hc5⟩ := hJ.p5 (hb 5 (by simp))
            have h1 := hJ.p1 (hb 1 (by simp))
            have HW := Lib.hid (hJ.base.mono (show (K + 9) + (b 4).toNat ≤ (K + 9) + 1 by have := Bool.toNat_le (b 4); omega))
            have hown := HW.out.own
            have hsz := HW.out.lt2
            simp only [setAll, List.foldl, h1, h5]
            clear h1 h5 hb hJ
            refine wpAny_ready (rs := [6]) (by kernel_rfl) (by simp) ?_
            refine AllReady.cons rfl (fun K6 hK6 => ?_) AllReady.nil
            refine step_append_lies (o := ⟨some 32, _, _, _, _, _⟩) _ (by rfl) (.tmp 27) (.tmp 31) 22 (by rfl) (q + 1) 3 i0 (.int .i64 0) 1 8 Tryd.underlying22 hi hz0 hz1 hz2 rfl (by omega) cur ws.length _ (by kernel_rfl) hown ⟨h, 0, none⟩ 1 1 [.int .i64 z] (by kernel_rfl) (by rfl) ?cnz (by simp [Value.oneCell']) (by omega) (by unfold maxLen; omega) (by omega) hsz _ rfl ?_
            case cnz =>
              intro j x hx
              rcases j with _ | j
              · simp at hx; subst hx; simpa [Addr.add] using hc5
              · simp at hx
            intro g cap wy own hgrow hat hlt
            have HWy := Lib.hid (HW.out.app (us := [z]) (n' := 1) hgrow own)
            have f1 := HWy.out.1
            have f2 := HWy.out.2.1
            refine hK6 _ _ ?_
            clear hK6 K6 own hgrow hat hown HW hc5
            refine wpAny_take (i := 7) (oi := ⟨some 33, _, _, _, _, _⟩) (v := (.pointer (some ⟨q, 1, none⟩))) rfl (by kernel_rfl) (by kernel_rfl) (by kernel_rfl) (fun _ _ _ h => h) (Or.inl ⟨by rfl, fun w => by go_simp⟩) ?_
            refine wpAny_ready (rs := [8]) (by kernel_rfl) (by simp) ?_
            refine AllReady.cons rfl (fun K8 hK8 => ?_) AllReady.nil
            go_simp
            refine hK8 _ _ ?_
            clear hK8 K8
            refine wpAny_done (by kernel_rfl) ?_ _
            have HS := Lib.hid HWy.out.2.2
            clear HWy f1 f2
            go_wp2_with fail
            go_meet
            exact ⟨_, ws ++ [z], rfl, by simp; omega, HS.out.mono (by omega)⟩
      case rest =>
        obtain ⟨cur, ws, rfl, hnl, hP⟩ := hcut
        clear HP7
        have HP := Lib.hid hP
        have s8 := hP.strm
        clear hP
        go_wp2_with fail
        with_reducible refine (flip_any S _ _ _ s8 (by omega) (by omega)).mono ?_
        rintro e w8 ⟨b8, rfl, k8, s8'⟩
        have P8 := HP.out.step k8 s8'
        clear k8 s8' HP s8
        cases b8 with
        | false =>
          have c0 := P8.cell0
          have c1 := P8.cell1
          have c2 := P8.cell2
          obtain ⟨⟨x0, d0⟩, ⟨x1, d1⟩, ⟨x2, d2⟩, e0, e1, e2⟩ := P8.res
          obtain ⟨a, c, rfl, -⟩ := row_form P8.own
          have HP8 := Lib.hid P8
          have hne : ¬ q0 = q := by have := P8.lt; omega
          clear P8
          go_wp2_with fail
          refine bodyPost_ret (v := .agg #[.string name, .slice a ws.length c, .int .i64 hold]) (by simp [results, Tryd.results23, go_sem, d0, d1, d2]) rfl ?_
          exact HP8.out.done (by omega) hns (by omega)
        | true =>
          have c1 := P8.cell1
          have f1 := P8.free1
          have own8 := P8.own
          have hlt2 := P8.lt2
          have HP8 := Lib.hid P8
          clear P8
          go_wp2_with (at_builtin; refine wpList_append_zeros _ rfl _ _ 22 3 rfl (q + 1) 3 i0 (.int .i64 0) Tryd.underlying22 Tryd.underlying3 hi hz0 hz1 hz2 rfl rfl _ _ _ rfl own8 10 rfl (by omega) (by omega) (by omega) (by omega) ?_)
          intro v' w9 own9 hgrow9 hat9
          obtain ⟨g, cap, cur', hv', -⟩ := (own9.2).resolve_left (fun h => by omega)
          subst hv'
          have own9' : w9.ownsRow (q + 1) 3 1 (.slice (some ⟨g, 0, none⟩) (ws.length + 10) cap) (ws.length + 10) (ws.map (Value.int .i64) ++ (List.replicate 10 (0 : Int)).map (Value.int .i64)) := own9
          have HP9 := Lib.hid (HP8.out.app (us := List.replicate 10 0) (n' := 10) hgrow9 own9')
          have c9 := HP9.out.1
          have f9 := HP9.out.2.1
          clear own9 own9' hgrow9 hat9 own8 c1 f1 HP8
          have P10 := HP9.out.2.2
          have b0 := P10.cell0
          have b1 := P10.cell1
          have b2 := P10.cell2
          obtain ⟨⟨x0, d0⟩, ⟨x1, d1⟩, ⟨x2, d2⟩, e0, e1, e2⟩ := P10.res
          have hne : ¬ q0 = q := by have := P10.lt; omega
          have HP10 := Lib.hid P10
          clear P10 HP9
          go_upto_region 10 with (fail)
          generalize w9.setCell ⟨q, 1, none⟩ (.slice (some ⟨g, 0, none⟩) (ws.length + 10) cap) = w10 at *
          have e : ws.length + 10 = (ws ++ List.replicate 10 0).length := by simp
          have HP11 := HP10.out
          rw [e] at HP11
          have HP12 := Lib.hid HP11
          have HE := Lib.hid e
          clear e HP11 HP10
          go_wp2_with fail
          refine bodyPost_ret (v := .agg #[.string name, .slice (some ⟨g, 0, none⟩) (ws.length + 10) cap, .int .i64 hold]) (by simp [results, Tryd.results23, go_sem, d0, d1, d2]) rfl ?_
          rw [HE.out]
          exact HP12.out.done (by omega) hns (by simp; omega)
end Go.Proofs.YtdnikegakcdcnaaDoor
