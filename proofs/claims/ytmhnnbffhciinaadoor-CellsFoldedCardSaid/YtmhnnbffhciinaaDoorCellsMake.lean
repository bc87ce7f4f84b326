/- The maker of cells: Stream.Cells. -/
import Derived.Test.YtmhnnbffhciinaaDoorLstT
import Derived.Test.YtmhnnbffhciinaaDoorCeSpec
import Derived.Test.YtmhnnbffhciinaaDoorFlip
import Derived.Test.YtmhnnbffhciinaaDoorPickAt
import Derived.Test.YtmhnnbffhciinaaDoorRange
import Derived.Test.YtmhnnbffhciinaaDoorOne
import Derived.Test.YtmhnnbffhciinaaDoorMask
import Derived.Test.YtmhnnbffhciinaaDoorKyF
import Derived.Test.YtmhnnbffhciinaaDoorGrow
import Derived.Deep.AppendLies
import Derived.Deep.DeepCutAuto
import Derived.Deep.CutBlock
set_option linter.unusedVariables false
namespace Go.Proofs.YtmhnnbffhciinaaDoor
open Go.RowKit

theorem infoSt : (Tryd.prog.info? 9).map (fun i => (i.zero, i.size, i.bytes)) = some (some (.string ⟨#[]⟩), 1, 16) := by kernel_rfl
theorem infoCeM : (Tryd.prog.info? 44).map (fun i => (i.zero, i.size, i.bytes)) = some (some (.agg #[.slice none 0 0, .int .i64 0, .int .i64 0]), 3, 40) := by kernel_rfl
/-- a cell that is made: its keys begin a block -/
def CeM (x : Ce) : Prop := (x.keys.length ≤ 4 ∧ (∀ s ∈ x.keys, s.size ≤ 100)) ∧ (∃ h, x.tv = some ⟨h, 0, none⟩) ∧ -1 ≤ x.many ∧ x.many ≤ 1000001 ∧ -1000000000001 ≤ x.cents ∧ x.cents ≤ 1000000000001
theorem CeM.ok {x : Ce} (h : CeM x) : x.ok := by
  obtain ⟨⟨h1, h2⟩, -, h4, h5, h6, h7⟩ := h
  exact ⟨by omega, h2, by omega, by omega, by omega, by omega⟩
/-- the cells made so far -/
def CM (w : World) (S : SC) (K N : Nat) (wr : World) (v : Value) (l : List Ce) : Prop := LT w w.heap.size wr S K 44 3 Ce.cells Ce.tv Ce.keys v l ∧ l.length ≤ N ∧ ∀ x ∈ l, CeM x
theorem CM.draw {w wr wr' : World} {S : SC} {K K' N : Nat} {v : Value} {l : List Ce} (h : CM w S K N wr v l) (k : wr.grownBy wr' (some S.g)) (s : Strm wr' S K') (hS : S.g < w.heap.size) : CM w S K' N wr' v l := ⟨h.1.draw k s hS, h.2⟩
theorem CM.mono {w wr : World} {S : SC} {K K' N N' : Nat} {v : Value} {l : List Ce} (h : CM w S K N wr v l) (hK : K ≤ K') (hN : N ≤ N') : CM w S K' N' wr v l := ⟨h.1.mono hK, by have := h.2.1; omega, h.2.2⟩
theorem CM.alloc {w wr : World} {S : SC} {K N : Nat} {v : Value} {l : List Ce} (h : CM w S K N wr v l) (o : Obj) (hS : S.g < w.heap.size) : CM w S K N (wr.alloc o) v l := ⟨h.1.alloc o hS, h.2⟩
/-- what the drawn region keeps -/
structure JC (w : World) (S : SC) (K0 N dn : Nat) (xs : List ByteArray) (cur : Value) (l : List Ce) (T1 T2 T3 : Nat) (Z1 Z2 Z3 : List ByteArray) (b : Msk) (v : Nat → Value) (wr : World) : Prop where
  base : CM w S (K0 + (b 9).toNat + (b 12).toNat) N wr cur l
  t1 : TgF wr S (some ⟨T1, 0, none⟩) Z1
  t2 : TgF wr S (some ⟨T2, 0, none⟩) Z2
  t3 : TgF wr S (some ⟨T3, 0, none⟩) Z3
  p4 : b 4 = true → ∃ h, v 62 = .slice (some ⟨h, 0, none⟩) 3 3 ∧ TgF wr S (some ⟨h, 0, none⟩) xs
  p6 : b 6 = true → ∃ h, v 64 = .slice (some ⟨h, 0, none⟩) dn 3 ∧ TgF wr S (some ⟨h, 0, none⟩) xs
  p8 : b 8 = true → ∃ h, v 66 = .slice (some ⟨h, 0, none⟩) 5 5 ∧ h ≠ S.g ∧ wr.heap[h]? = some (.cells (([0, 1, 5, 999999, 1000000] : List Int).map (Value.int .i64)).toArray 3 (0, 0))
  p9 : b 9 = true → ∃ z, v 67 = .int .i64 z ∧ 0 ≤ z ∧ z ≤ 1000000
  p11 : b 11 = true → ∃ h, v 69 = .slice (some ⟨h, 0, none⟩) 5 5 ∧ h ≠ S.g ∧ wr.heap[h]? = some (.cells (([0, 7, -7, 1000000000000, -1000000000000] : List Int).map (Value.int .i64)).toArray 3 (0, 0))
  p12 : b 12 = true → ∃ z, v 70 = .int .i64 z ∧ -1000000000000 ≤ z ∧ z ≤ 1000000000000
section
variable {w wr wr' : World} {S : SC} {K0 N dn T1 T2 T3 : Nat} {xs Z1 Z2 Z3 : List ByteArray} {cur : Value} {l : List Ce}
theorem blk_kept {h : Nat} {o : Obj} (hb : wr.heap[h]? = some o) (hne : h ≠ S.g) (k : wr.grownBy wr' (some S.g)) : wr'.heap[h]? = some o := by
  refine (k.block h ?_ (by simpa using hne)).trans hb
  rcases Nat.lt_or_ge h wr.heap.size with h' | h'
  · exact h'
  · rw [Array.getElem?_eq_none h'] at hb; cases hb
theorem JC.step {b b' : Msk} {v v' : Nat → Value} (h : JC w S K0 N dn xs cur l T1 T2 T3 Z1 Z2 Z3 b v wr) (k : wr.grownBy wr' (some S.g)) (s : Strm wr' S (K0 + (b' 9).toNat + (b' 12).toNat)) (hS : S.g < w.heap.size)
    (q4 : b' 4 = true → (b 4 = true ∧ v' 62 = v 62) ∨ ∃ h, v' 62 = .slice (some ⟨h, 0, none⟩) 3 3 ∧ TgF wr' S (some ⟨h, 0, none⟩) xs)
    (q6 : b' 6 = true → (b 6 = true ∧ v' 64 = v 64) ∨ ∃ h, v' 64 = .slice (some ⟨h, 0, none⟩) dn 3 ∧ TgF wr' S (some ⟨h, 0, none⟩) xs)
    (q8 : b' 8 = true → (b 8 = true ∧ v' 66 = v 66) ∨ ∃ h, v' 66 = .slice (some ⟨h, 0, none⟩) 5 5 ∧ h ≠ S.g ∧ wr'.heap[h]? = some (.cells (([0, 1, 5, 999999, 1000000] : List Int).map (Value.int .i64)).toArray 3 (0, 0)))
    (q9 : b' 9 = true → (b 9 = true ∧ v' 67 = v 67) ∨ ∃ z, v' 67 = .int .i64 z ∧ 0 ≤ z ∧ z ≤ 1000000)
    (q11 : b' 11 = true → (b 11 = true ∧ v' 69 = v 69) ∨ ∃ h, v' 69 = .slice (some ⟨h, 0, none⟩) 5 5 ∧ h ≠ S.g ∧ wr'.heap[h]? = some (.cells (([0, 7, -7, 1000000000000, -1000000000000] : List Int).map (Value.int .i64)).toArray 3 (0, 0)))
    (q12 : b' 12 = true → (b 12 = true ∧ v' 70 = v 70) ∨ ∃ z, v' 70 = .int .i64 z ∧ -1000000000000 ≤ z ∧ z ≤ 1000000000000) :
    JC w S K0 N dn xs cur l T1 T2 T3 Z1 Z2 Z3 b' v' wr' := by
  refine ⟨h.base.draw k s hS, h.t1.draw k, h.t2.draw k, h.t3.draw k, fun e => ?_, fun e => ?_, fun e => ?_, fun e => ?_, fun e => ?_, fun e => ?_⟩
  · rcases q4 e with ⟨e', ev⟩ | h'
    · obtain ⟨x, h1, h2⟩ := h.p4 e'
      exact ⟨x, ev.trans h1, h2.draw k⟩
    · exact h'
  · rcases q6 e with ⟨e', ev⟩ | h'
    · obtain ⟨x, h1, h2⟩ := h.p6 e'
      exact ⟨x, ev.trans h1, h2.draw k⟩
    · exact h'
  · rcases q8 e with ⟨e', ev⟩ | h'
    · obtain ⟨x, h1, h2, h3⟩ := h.p8 e'
      exact ⟨x, ev.trans h1, h2, blk_kept h3 h2 k⟩
    · exact h'
  · rcases q9 e with ⟨e', ev⟩ | h'
    · obtain ⟨x, h1, h2⟩ := h.p9 e'
      exact ⟨x, ev.trans h1, h2⟩
    · exact h'
  · rcases q11 e with ⟨e', ev⟩ | h'
    · obtain ⟨x, h1, h2, h3⟩ := h.p11 e'
      exact ⟨x, ev.trans h1, h2, blk_kept h3 h2 k⟩
    · exact h'
  · rcases q12 e with ⟨e', ev⟩ | h'
    · obtain ⟨x, h1, h2⟩ := h.p12 e'
      exact ⟨x, ev.trans h1, h2⟩
    · exact h'
theorem step_append_own {P : Program} {ops : Array Oper} {o : Oper} {a : Act} {K : Act → World → Prop} {Q : Exit → Act → World → Prop} {E : Prop} (w : World) (hgd : o.guard = none) (s x : Operand) (t : TypeId)
    (ho : o.op = .call { callee := .builtin .append, args := #[s, x], argTypes := #[t, t] })
    (base : Nat) (e : TypeId) (i : TypeInfo) (z : Value) (size bytes : Nat) (ht : P.underlying t = some (.slice e)) (hi : P.info? e = some i) (hz : i.zero = some z)
    (hsize : i.size = size) (hby : i.bytes = bytes) (hzs : z.cells.size = size) (hsz : 0 < size)
    (v : Value) (n : Nat) (xs : List Value) (hs : a.eval s = v) (hown : w.ownsRow base e size v n xs)
    (ad : Addr) (m c : Nat) (news : List Value) (hx : a.eval x = .slice (some ad) m c) (hl : news.length = m * size) (hnews : ∀ j u, news[j]? = some u → w.cell? (ad.add j) = some u) (h1 : ∀ u ∈ news, u.oneCell' = true)
    (h63 : n + m ≤ maxLen) (hbytes : (n + m) * bytes ≤ 140737488355328) (hbase : base ≤ w.heap.size)
    (h : ∀ v' w', w'.ownsRow base e size v' (n + m) (xs ++ news) → w.grownBy w' v.ownBlock → K (a.put o.dst v') w') :
    if Region.wanted o (yielded ops a.tmps) = true then Oper.wp P o a w K Q else E := by
  have hw : Region.wanted o (yielded ops a.tmps) = true := by simp [Region.wanted, hgd]
  rw [if_pos hw]
  exact wp_append_own w s x t ho base e i z size bytes ht hi hz hsize hby hzs hsz v n xs hs hown ad m c news hx hl hnews h1 h63 hbytes hbase (fun v' w' h2 h3 _ => h v' w' h2 h3)
/-- what the region keeps in which keys are put ahead -/
structure JD (S : SC) (K0 : Nat) (wd : World) (cur : Value) (b : Msk) (v : Nat → Value) (wr : World) : Prop where
  gr : wd.grownBy wr (some S.g)
  st : Strm wr S (K0 + (b 3).toNat)
  p2 : b 2 = true → ∃ h, v 102 = .slice (some ⟨h, 0, none⟩) 3 3 ∧ h ≠ S.g ∧ wr.heap[h]? = some (.cells (([⟨#[97]⟩, ⟨#[]⟩, ⟨#[122]⟩] : List ByteArray).map Value.string).toArray 9 (0, 0))
  p3 : b 3 = true → ∃ s, v 103 = .string s ∧ s.size ≤ 100
  p4 : b 4 = true → ∃ h s, v 104 = .slice (some ⟨h, 0, none⟩) 1 1 ∧ s.size ≤ 100 ∧ wd.heap.size ≤ h ∧ h ≠ S.g ∧ wr.heap[h]? = some (.cells #[.string s] 9 (0, 0))
  p8 : b 8 = true → v 108 = cur
theorem JD.step {S : SC} {K0 : Nat} {wd wr wr' : World} {cur : Value} {b b' : Msk} {v v' : Nat → Value} (h : JD S K0 wd cur b v wr) (k : wr.grownBy wr' (some S.g)) (s : Strm wr' S (K0 + (b' 3).toNat))
    (q2 : b' 2 = true → (b 2 = true ∧ v' 102 = v 102) ∨ ∃ h, v' 102 = .slice (some ⟨h, 0, none⟩) 3 3 ∧ h ≠ S.g ∧ wr'.heap[h]? = some (.cells (([⟨#[97]⟩, ⟨#[]⟩, ⟨#[122]⟩] : List ByteArray).map Value.string).toArray 9 (0, 0)))
    (q3 : b' 3 = true → (b 3 = true ∧ v' 103 = v 103) ∨ ∃ s, v' 103 = .string s ∧ s.size ≤ 100)
    (q4 : b' 4 = true → (b 4 = true ∧ v' 104 = v 104) ∨ ∃ h s, v' 104 = .slice (some ⟨h, 0, none⟩) 1 1 ∧ s.size ≤ 100 ∧ wd.heap.size ≤ h ∧ h ≠ S.g ∧ wr'.heap[h]? = some (.cells #[.string s] 9 (0, 0)))
    (q8 : b' 8 = true → (b 8 = true ∧ v' 108 = v 108) ∨ v' 108 = cur) : JD S K0 wd cur b' v' wr' := by
  refine ⟨grown_trans h.gr k, s, fun e => ?_, fun e => ?_, fun e => ?_, fun e => ?_⟩
  · rcases q2 e with ⟨e', ev⟩ | h'
    · obtain ⟨x, h1, h2, h3⟩ := h.p2 e'
      exact ⟨x, ev.trans h1, h2, blk_kept h3 h2 k⟩
    · exact h'
  · rcases q3 e with ⟨e', ev⟩ | h'
    · obtain ⟨x, h1, h2⟩ := h.p3 e'
      exact ⟨x, ev.trans h1, h2⟩
    · exact h'
  · rcases q4 e with ⟨e', ev⟩ | h'
    · obtain ⟨x, s, h1, h2, h3, h4, h5⟩ := h.p4 e'
      exact ⟨x, s, ev.trans h1, h2, h3, h4, blk_kept h5 h4 k⟩
    · exact h'
  · rcases q8 e with ⟨e', ev⟩ | h'
    · exact ev.trans (h.p8 e')
    · exact h'
theorem old {α : Prop} {b b' : Msk} {i j : Nat} {x y : Value} (hb : b' = mset b i) (h : j ≠ i) (hv : x = y) (e : b' j = true) : (b j = true ∧ x = y) ∨ α := by
  subst hb
  rw [mset_ne _ h] at e
  exact .inl ⟨e, hv⟩
end

set_option maxRecDepth 100000 in
set_option maxHeartbeats 16000000 in
theorem cells_make (S : SC) (K : Nat) (w : World) (s0 : Strm w S K) (hK : K ≤ 10000) :
    Calls Tryd.prog 4 #[S.p] w (GenT S (K + 40) w 3 Ce.cells Ce.tv Ce.keys fun l => l.length ≤ 8 ∧ ∀ x ∈ l, x.ok) := by
  obtain ⟨i0, hi, hz0, hz1, hz2⟩ := info_parts infoCeM
  obtain ⟨j0, hjj, hy0, hy1, hy2⟩ := info_parts infoSt
  have hS0 := strm_lt s0
  go_enter Tryd.func4, Tryd.ntmps4
  go_wp2_with fail
  with_reducible refine (range_any S _ _ _ _ s0 (by omega) (by omega) (by omega) (by omega)).mono ?_
  rintro e w1 ⟨m', ⟨hm0, hmx⟩, rfl, k1, s1⟩
  obtain ⟨dn, rfl⟩ := Int.eq_ofNat_of_zero_le hm0
  have hdn : dn ≤ 3 := by omega
  have HC1 : Hid (CM w S (K + 1) 0 w1 (.slice none 0 0) []) := Lib.hid ⟨LT.nil ⟨World.ownsRow_nil _ _ _ _, s1, k1, k1.size⟩, Nat.le_refl _, by simp⟩
  have hS1 := strm_lt s1
  have HT1 := Lib.hid (TgF.new w1 S [⟨#[97]⟩, ⟨#[98]⟩] hS1)
  have HC2 := Lib.hid (HC1.out.alloc (.cells (([⟨#[97]⟩, ⟨#[98]⟩] : List ByteArray).map Value.string).toArray 9) hS0)
  simp only [List.map_cons, List.map_nil] at HT1 HC2
  clear k1 s1 hm0 hmx s0 HC1 hS1
  go_wp2_with fail
  generalize w1.alloc (.cells [Value.string ⟨#[97]⟩, .string ⟨#[98]⟩].toArray 9) = w2 at *
  generalize w1.heap.size = p1 at *
  go_loopw [3, 6, 8, 10, 16] (fun v _ _ _ i wr => ∃ (i1 : Nat) (l : List Ce), i1 ≤ 2 ∧ i = .int .i64 i1 ∧ Hid (CM w S (K + 1 + 12 * i1) (4 * i1) wr v l) ∧ Hid (TgF wr S (some ⟨p1, 0, none⟩) [⟨#[97]⟩, ⟨#[98]⟩])) (fun _ _ _ _ i _ => 2 - (intOf i).toNat)
  case atStart => exact ⟨0, [], Nat.zero_le _, rfl, HC2, HT1⟩
  case round =>
    obtain ⟨wo, rfl⟩ : ∃ wo : World, wo = wr := ⟨_, rfl⟩
    obtain ⟨i1, l, hi1, rfl, HC, HT⟩ := hrel
    by_cases hlt1 : i1 < 2
    · skip
      obtain ⟨p', off', e, hp', c0⟩ := HT.out.strs i1 (by simp; omega)
      injection e with e
      injection e with e1 e2
      subst e1 e2
      rw [Nat.zero_add] at c0
      have hz1' : (([⟨#[97]⟩, ⟨#[98]⟩] : List ByteArray)[i1]'(by simp; omega)).size ≤ 1 := by
        rcases (show i1 = 0 ∨ i1 = 1 by omega) with rfl | rfl <;> exact Nat.le_refl 1
      generalize ([⟨#[97]⟩, ⟨#[98]⟩] : List ByteArray)[i1]'(by simp; omega) = sa at *
      have hSo := strm_lt HC.out.1.strm
      have HT2 := Lib.hid (TgF.new wo S [⟨#[120]⟩, ⟨#[121]⟩] hSo)
      have HCa := Lib.hid (HC.out.alloc (.cells (([⟨#[120]⟩, ⟨#[121]⟩] : List ByteArray).map Value.string).toArray 9) hS0)
      have HTa := Lib.hid (HT.out.alloc (.cells (([⟨#[120]⟩, ⟨#[121]⟩] : List ByteArray).map Value.string).toArray 9))
      simp only [List.map_cons, List.map_nil] at HT2 HCa HTa
      clear HC HT hSo
      go_wp2_with fail
      generalize wo.alloc (.cells [Value.string ⟨#[120]⟩, .string ⟨#[121]⟩].toArray 9) = wa at *
      generalize wo.heap.size = p2 at *
      clear c0
      go_loopw [3, 8, 10, 22] (fun v _ _ i wr => ∃ (i2 : Nat) (l : List Ce), i2 ≤ 2 ∧ i = .int .i64 i2 ∧ Hid (CM w S (K + 1 + 12 * i1 + 6 * i2) (4 * i1 + 2 * i2) wr v l) ∧ Hid (TgF wr S (some ⟨p1, 0, none⟩) [⟨#[97]⟩, ⟨#[98]⟩]) ∧ Hid (TgF wr S (some ⟨p2, 0, none⟩) [⟨#[120]⟩, ⟨#[121]⟩])) (fun _ _ _ i _ => 2 - (intOf i).toNat)
      case atStart => exact ⟨0, l, Nat.zero_le _, rfl, HCa, HTa, HT2⟩
      case round =>
        obtain ⟨wb, rfl⟩ : ∃ wb : World, wb = wr := ⟨_, rfl⟩
        obtain ⟨i2, l, hi2, rfl, HC, HT, HU⟩ := hrel
        by_cases hlt2 : i2 < 2
        · obtain ⟨p', off', e, hp', c0⟩ := HU.out.strs i2 (by simp; omega)
          injection e with e
          injection e with e1 e2
          subst e1 e2
          rw [Nat.zero_add] at c0
          have hz2' : (([⟨#[120]⟩, ⟨#[121]⟩] : List ByteArray)[i2]'(by simp; omega)).size ≤ 1 := by
            rcases (show i2 = 0 ∨ i2 = 1 by omega) with rfl | rfl <;> exact Nat.le_refl 1
          generalize ([⟨#[120]⟩, ⟨#[121]⟩] : List ByteArray)[i2]'(by simp; omega) = sb at *
          have hSo := strm_lt HC.out.1.strm
          have HT2 := Lib.hid (TgF.new wb S [⟨#[109]⟩, ⟨#[110]⟩] hSo)
          have HCa := Lib.hid (HC.out.alloc (.cells (([⟨#[109]⟩, ⟨#[110]⟩] : List ByteArray).map Value.string).toArray 9) hS0)
          have HTa := Lib.hid (HT.out.alloc (.cells (([⟨#[109]⟩, ⟨#[110]⟩] : List ByteArray).map Value.string).toArray 9))
          have HUa := Lib.hid (HU.out.alloc (.cells (([⟨#[109]⟩, ⟨#[110]⟩] : List ByteArray).map Value.string).toArray 9))
          simp only [List.map_cons, List.map_nil] at HT2 HCa HTa HUa
          clear HC HT HU hSo
          go_wp2_with fail
          generalize wb.alloc (.cells [Value.string ⟨#[109]⟩, .string ⟨#[110]⟩].toArray 9) = wc at *
          generalize wb.heap.size = p3 at *
          clear c0
          go_loopw [3, 10, 28] (fun v _ i wr => ∃ (i3 : Nat) (l : List Ce), i3 ≤ 2 ∧ i = .int .i64 i3 ∧ Hid (CM w S (K + 1 + 12 * i1 + 6 * i2 + 3 * i3) (4 * i1 + 2 * i2 + i3) wr v l) ∧ Hid (TgF wr S (some ⟨p1, 0, none⟩) [⟨#[97]⟩, ⟨#[98]⟩]) ∧ Hid (TgF wr S (some ⟨p2, 0, none⟩) [⟨#[120]⟩, ⟨#[121]⟩]) ∧ Hid (TgF wr S (some ⟨p3, 0, none⟩) [⟨#[109]⟩, ⟨#[110]⟩])) (fun _ _ i _ => 2 - (intOf i).toNat)
          case atStart => exact ⟨0, l, Nat.zero_le _, rfl, HCa, HTa, HUa, HT2⟩
          case round =>
            obtain ⟨i3, l, hi3, rfl, HC, HT, HU, HV⟩ := hrel
            by_cases hlt3 : i3 < 2
            · obtain ⟨p', off', e, hp', c0⟩ := HV.out.strs i3 (by simp; omega)
              injection e with e
              injection e with e1 e2
              subst e1 e2
              rw [Nat.zero_add] at c0
              have hz3' : (([⟨#[109]⟩, ⟨#[110]⟩] : List ByteArray)[i3]'(by simp; omega)).size ≤ 1 := by
                rcases (show i3 = 0 ∨ i3 = 1 by omega) with rfl | rfl <;> exact Nat.le_refl 1
              generalize ([⟨#[109]⟩, ⟨#[110]⟩] : List ByteArray)[i3]'(by simp; omega) = sc at *
              have s4 := HC.out.1.strm
              go_upto_region 12 with (fail)
              go_cut [57] (fun u wx => ∃ b, u = .bool b ∧ wr.grownBy wx (some S.g) ∧ Strm wx S (K + 1 + 12 * i1 + 6 * i2 + 3 * i3 + 1))
              case first =>
                have hk1 : K + 1 + 12 * i1 + 6 * i2 + 3 * i3 ≤ 1099511627776 := by omega
                have hd0 : (0 : Int) ≤ (dn : Int) := by omega
                rcases (show dn = 0 ∨ dn = 1 ∨ dn = 2 ∨ dn = 3 by omega) with rfl | rfl | rfl | rfl
                all_goals
                  clear hd0
                  go_wp2_with fail
                  all_goals first
                    | (go_meet; exact ⟨_, rfl, grown_same _ _, strm_mono s4 (by omega)⟩)
                    | ((with_reducible refine (flip_any S _ _ _ s4 hk1 (by omega)).mono ?_); rintro e w3 ⟨b, rfl, k3, s3⟩; go_wp2_with fail; go_meet; exact ⟨_, rfl, k3, s3⟩)
              case rest =>
              obtain ⟨b, rfl, k5, s5⟩ := hcut
              have HC5 := Lib.hid (HC.out.draw k5 s5 hS0)
              have HT5 := Lib.hid (HT.out.draw k5)
              have HU5 := Lib.hid (HU.out.draw k5)
              have HV5 := Lib.hid (HV.out.draw k5)
              clear HC HT HU HV k5 s4 s5 c0
              cases b with
              | true =>
                go_wp2_with fail
                go_roundw
                case rel => exact ⟨i3 + 1, l, by omega, by go_num, HC5.out.mono (by omega) (by omega), HT5, HU5, HV5⟩
                case measure => simp [intOf]; omega
              | false =>
                have HTZ := Lib.hid (show ∀ x ∈ ([sa, sb, sc] : List ByteArray), x.size ≤ 100 from fun x hx => by
                  simp only [List.mem_cons, List.mem_nil_iff, or_false] at hx
                  rcases hx with rfl | rfl | rfl <;> omega)
                clear hz1' hz2' hz3'
                go_upto_region 13 with (fail)
                refine wp_region_any (by kernel_rfl) ?_
                change wpAny _ _ _ _ _ _ _ (World.drew _)
                have HCd := Lib.hid (show CM w S (K + 1 + 12 * i1 + 6 * i2 + 3 * i3 + 1) (4 * i1 + 2 * i2 + i3) (World.drew _) u3 l from HC5.out.draw (grown_drew (grown_same _ _)) (strm_drew HC5.out.1.strm) hS0)
                have HTd := Lib.hid (show TgF (World.drew _) S _ _ from HT5.out.drewN 1)
                have HUd := Lib.hid (show TgF (World.drew _) S _ _ from HU5.out.drewN 1)
                have HVd := Lib.hid (show TgF (World.drew _) S _ _ from HV5.out.drewN 1)
                clear HC5 HT5 HU5 HV5
                generalize World.drew _ = wd at *
                refine wpAny_take (i := 0) (oi := ⟨some 58, _, _, _, _, _⟩) (v := u3) rfl (by kernel_rfl) (by kernel_rfl) (by kernel_rfl) (fun _ _ _ h => h) (Or.inl ⟨by rfl, fun w => by go_simp⟩) ?_
                refine wpAny_take (i := 1) (oi := ⟨some 59, _, _, _, _, _⟩) (v := .string sa) rfl (by kernel_rfl) (by kernel_rfl) (by kernel_rfl) (fun _ _ _ h => h) (Or.inl ⟨by rfl, fun w => by go_simp⟩) ?_
                refine wpAny_take (i := 2) (oi := ⟨some 60, _, _, _, _, _⟩) (v := .string sb) rfl (by kernel_rfl) (by kernel_rfl) (by kernel_rfl) (fun _ _ _ h => h) (Or.inl ⟨by rfl, fun w => by go_simp⟩) ?_
                refine wpAny_take (i := 3) (oi := ⟨some 61, _, _, _, _, _⟩) (v := .string sc) rfl (by kernel_rfl) (by kernel_rfl) (by kernel_rfl) (fun _ _ _ h => h) (Or.inl ⟨by rfl, fun w => by go_simp⟩) ?_
                refine wpAny_take (i := 5) (oi := ⟨some 63, _, _, _, _, _⟩) (v := .int .i64 (dn : Int)) rfl (by kernel_rfl) (by kernel_rfl) (by kernel_rfl) (fun _ _ _ h => h) (Or.inl ⟨by rfl, fun w => by go_simp⟩) ?_
                refine wpAny_take (i := 7) (oi := ⟨some 65, _, _, _, _, _⟩) (v := S.p) rfl (by kernel_rfl) (by kernel_rfl) (by kernel_rfl) (fun _ _ _ h => h) (Or.inl ⟨by rfl, fun w => by go_simp⟩) ?_
                refine wpAny_take (i := 10) (oi := ⟨some 68, _, _, _, _, _⟩) (v := S.p) rfl (by kernel_rfl) (by kernel_rfl) (by kernel_rfl) (fun _ _ _ h => h) (Or.inl ⟨by rfl, fun w => by go_simp⟩) ?_
                refine wpAny_mask (n := 4) (m := 10) #[true, true, true, true, false, true, false, true, false, false, true, false, false, false, false, false, false] [4, 6, 8, 9, 11, 12] (fun i => if i = 6 then [4] else if i = 9 then [8] else if i = 12 then [9, 11] else []) [62, 64, 66, 67, 69, 70] (fun d => if d = 62 then u62 else if d = 64 then u64 else if d = 66 then u66 else if d = 67 then u67 else if d = 69 then u69 else u70) (JC w S (K + 1 + 12 * i1 + 6 * i2 + 3 * i3 + 1) (4 * i1 + 2 * i2 + i3) dn [sa, sb, sc] u3 l p1 p2 p3 [⟨#[97]⟩, ⟨#[98]⟩] [⟨#[120]⟩, ⟨#[121]⟩] [⟨#[109]⟩, ⟨#[110]⟩]) rfl (by decide) (by kernel_rfl) (by kernel_rfl) ?stc ?hsc ?hendc
                case stc => exact ⟨HCd.out, HTd.out, HUd.out, HVd.out, fun e => (by cases e), fun e => (by cases e), fun e => (by cases e), fun e => (by cases e), fun e => (by cases e), fun e => (by cases e)⟩
                case hsc =>
                  intro i hi' b u wx hbi hD hJ
                  simp only [List.mem_cons, List.mem_nil_iff, or_false] at hi'
                  have HJ := Lib.hid hJ
                  have hSx := strm_lt hJ.base.1.strm
                  clear hJ HCd HTd HUd HVd
                  rcases hi' with rfl | rfl | rfl | rfl | rfl | rfl
                  · --@m4
                    refine wpOp_calm (o := ⟨some 62, ?ap1, ?ap2, ?ap3, ?ap4, ?ap5⟩) ?api ?apg ?_
                    case api => exact rfl
                    case apg => exact rfl
                    intro K' Q' hK'
                    have HK := Lib.hid hK'
                    clear hK'
                    have HN := Lib.hid (TgF.new wx S [sa, sb, sc] hSx)
                    simp only [List.map_cons, List.map_nil] at HN
                    simp only [setAll, List.foldl]
                    go_simp
                    exact HK.out _ _ ⟨upd u 62 (.slice (some ⟨wx.heap.size, 0, none⟩) 3 3), by kernel_rfl, HJ.out.step (World.grownBy_alloc _ _ _) (strm_alloc HJ.out.base.1.strm _) hS0 (fun _ => .inr ⟨_, rfl, HN.out⟩) (old rfl (by decide) rfl) (old rfl (by decide) rfl) (old rfl (by decide) rfl) (old rfl (by decide) rfl) (old rfl (by decide) rfl)⟩
                    --@end
                  · --@m6
                    obtain ⟨h, hv, hT⟩ := HJ.out.p4 (hD 4 (by simp))
                    have HH := Lib.hid hT
                    clear hT hD
                    refine wpOp_calm (o := ⟨some 64, ?bp1, ?bp2, ?bp3, ?bp4, ?bp5⟩) ?bpi ?bpg ?_
                    case bpi => exact rfl
                    case bpg => exact rfl
                    intro K' Q' hK'
                    have HK := Lib.hid hK'
                    clear hK'
                    have hdn3 : (dn : Int) ≤ 3 := by omega
                    simp only [setAll, List.foldl, hv]
                    go_simp
                    exact HK.out _ _ ⟨upd (upd u 62 (.slice (some ⟨h, 0, none⟩) 3 3)) 64 (.slice (some ⟨h, 0, none⟩) dn 3), by kernel_rfl, by
                      rw [upd_same hv]
                      exact HJ.out.step (grown_same _ _) HJ.out.base.1.strm hS0 (old rfl (by decide) rfl) (fun _ => .inr ⟨_, rfl, HH.out⟩) (old rfl (by decide) rfl) (old rfl (by decide) rfl) (old rfl (by decide) rfl) (old rfl (by decide) rfl)⟩
                    --@end
                  · --@m8
                    refine wpOp_calm (o := ⟨some 66, ?cp1, ?cp2, ?cp3, ?cp4, ?cp5⟩) ?cpi ?cpg ?_
                    case cpi => exact rfl
                    case cpg => exact rfl
                    intro K' Q' hK'
                    have HK := Lib.hid hK'
                    clear hK' hD
                    simp only [setAll, List.foldl]
                    go_simp
                    exact HK.out _ _ ⟨upd u 66 (.slice (some ⟨wx.heap.size, 0, none⟩) 5 5), by kernel_rfl, HJ.out.step (World.grownBy_alloc _ _ _) (strm_alloc HJ.out.base.1.strm _) hS0 (old rfl (by decide) rfl) (old rfl (by decide) rfl) (fun _ => .inr ⟨_, rfl, by omega, heap_alloc_new _ _⟩) (old rfl (by decide) rfl) (old rfl (by decide) rfl) (old rfl (by decide) rfl)⟩
                    --@end
                  · --@m9
                    obtain ⟨h, hv, hne, hb⟩ := HJ.out.p8 (hD 8 (by simp))
                    have C := pick_any S (K + 1 + 12 * i1 + 6 * i2 + 3 * i3 + 1 + (b 12).toNat) h [0, 1, 5, 999999, 1000000] 5 5 wx (strm_mono HJ.out.base.1.strm (by rw [hbi]; exact Nat.le_refl _)) (by have := Bool.toNat_le (b 12); omega) rfl (by omega) (by omega) hb hne
                    rw [← hv] at C
                    have HCP := Lib.hid C
                    clear hv hb C hD hne
                    refine wpOp_calm (o := ⟨some 67, ?dp1, ?dp2, ?dp3, ?dp4, ?dp5⟩) ?dpi ?dpg ?_
                    case dpi => exact rfl
                    case dpg => exact rfl
                    intro K' Q' hK'
                    have HK := Lib.hid hK'
                    clear hK'
                    simp only [setAll, List.foldl]
                    go_simp
                    refine HCP.out.mono ?_
                    rintro e w' ⟨z, hz, rfl, k', st⟩
                    have hz2 : 0 ≤ z ∧ z ≤ 1000000 := by
                      simp only [List.mem_cons, List.mem_nil_iff, or_false] at hz
                      omega
                    exact HK.out _ _ ⟨upd u 67 (.int .i64 z), by kernel_rfl, HJ.out.step k' (strm_mono st (by simp only [mset_at, mset_ne _ (show 12 ≠ 9 by decide)]; simp; omega)) hS0 (old rfl (by decide) rfl) (old rfl (by decide) rfl) (old rfl (by decide) rfl) (fun _ => .inr ⟨z, rfl, hz2⟩) (old rfl (by decide) rfl) (old rfl (by decide) rfl)⟩
                    --@end
                  · --@m11
                    refine wpOp_calm (o := ⟨some 69, ?ep1, ?ep2, ?ep3, ?ep4, ?ep5⟩) ?epi ?epg ?_
                    case epi => exact rfl
                    case epg => exact rfl
                    intro K' Q' hK'
                    have HK := Lib.hid hK'
                    clear hK' hD
                    simp only [setAll, List.foldl]
                    go_simp
                    exact HK.out _ _ ⟨upd u 69 (.slice (some ⟨wx.heap.size, 0, none⟩) 5 5), by kernel_rfl, HJ.out.step (World.grownBy_alloc _ _ _) (strm_alloc HJ.out.base.1.strm _) hS0 (old rfl (by decide) rfl) (old rfl (by decide) rfl) (old rfl (by decide) rfl) (old rfl (by decide) rfl) (fun _ => .inr ⟨_, rfl, by omega, heap_alloc_new _ _⟩) (old rfl (by decide) rfl)⟩
                    --@end
                  · --@m12
                    obtain ⟨h, hv, hne, hb⟩ := HJ.out.p11 (hD 11 (by simp))
                    have C := pick_any S (K + 1 + 12 * i1 + 6 * i2 + 3 * i3 + 1 + (b 9).toNat) h [0, 7, -7, 1000000000000, -1000000000000] 5 5 wx (strm_mono HJ.out.base.1.strm (by rw [hbi]; exact Nat.le_refl _)) (by have := Bool.toNat_le (b 9); omega) rfl (by omega) (by omega) hb hne
                    rw [← hv] at C
                    have HCP := Lib.hid C
                    clear hv hb C hD hne
                    refine wpOp_calm (o := ⟨some 70, ?fp1, ?fp2, ?fp3, ?fp4, ?fp5⟩) ?fpi ?fpg ?_
                    case fpi => exact rfl
                    case fpg => exact rfl
                    intro K' Q' hK'
                    have HK := Lib.hid hK'
                    clear hK'
                    simp only [setAll, List.foldl]
                    go_simp
                    refine HCP.out.mono ?_
                    rintro e w' ⟨z, hz, rfl, k', st⟩
                    have hz2 : -1000000000000 ≤ z ∧ z ≤ 1000000000000 := by
                      simp only [List.mem_cons, List.mem_nil_iff, or_false] at hz
                      omega
                    exact HK.out _ _ ⟨upd u 70 (.int .i64 z), by kernel_rfl, HJ.out.step k' (strm_mono st (by simp only [mset_at, mset_ne _ (show 9 ≠ 12 by decide)]; simp)) hS0 (old rfl (by decide) rfl) (old rfl (by decide) rfl) (old rfl (by decide) rfl) (old rfl (by decide) rfl) (old rfl (by decide) rfl) (fun _ => .inr ⟨z, rfl, hz2⟩)⟩
                    --@end
                case hendc =>
                  --@endc
                  intro b u wx hb hJ
                  obtain ⟨h, hv6, hT6⟩ := hJ.p6 (hb 6 (by simp))
                  obtain ⟨z1, hv9, hz9a, hz9b⟩ := hJ.p9 (hb 9 (by simp))
                  obtain ⟨z2, hv12, hz12a, hz12b⟩ := hJ.p12 (hb 12 (by simp))
                  have HB := Lib.hid (hJ.base.mono (show K + 1 + 12 * i1 + 6 * i2 + 3 * i3 + 1 + (b 9).toNat + (b 12).toNat ≤ K + 1 + 12 * i1 + 6 * i2 + 3 * (i3 + 1) by have := Bool.toNat_le (b 9); have := Bool.toNat_le (b 12); omega) (Nat.le_refl _))
                  have H1 := Lib.hid hJ.t1
                  have H2 := Lib.hid hJ.t2
                  have H3 := Lib.hid hJ.t3
                  have H6 := Lib.hid hT6
                  have hlen := hJ.base.2.1
                  clear hJ hb hT6 HCd HTd HUd HVd
                  simp only [setAll, List.foldl, hv6, hv9, hv12]
                  clear hv6 hv9 hv12
                  refine wpAny_take (i := 13) (oi := ⟨some 71, _, _, _, _, _⟩) (v := .agg #[.slice (some ⟨h, 0, none⟩) dn 3, .int .i64 z1, .int .i64 z2]) rfl (by kernel_rfl) (by kernel_rfl) (by kernel_rfl) (fun _ _ _ h => h) (Or.inl ⟨by rfl, fun w => by go_simp⟩) ?_
                  refine wpAny_ready (rs := [14]) (by kernel_rfl) (by simp) ?_
                  refine AllReady.cons rfl (fun K14 hK14 => ?_) AllReady.nil
                  go_simp
                  refine hK14 _ _ ?_
                  clear hK14 K14
                  have own9 := HB.out.1.1.1.alloc (.cells #[.slice (some ⟨h, 0, none⟩) dn 3, .int .i64 z1, .int .i64 z2] 44)
                  have hsz9 := HB.out.1.size
                  refine wpAny_ready (rs := [15]) (by kernel_rfl) (by simp) ?_
                  refine AllReady.cons rfl (fun K15 hK15 => ?_) AllReady.nil
                  refine step_append_lies (o := ⟨some 73, _, _, _, _, _⟩) _ (by rfl) (.tmp 58) (.tmp 72) 26 (by rfl) w.heap.size 44 i0 _ 3 40 Tryd.underlying26 hi hz0 hz1 hz2 rfl (by omega) u3 l.length _ (by kernel_rfl) own9 ⟨wx.heap.size, 0, none⟩ 1 1 [.slice (some ⟨h, 0, none⟩) dn 3, .int .i64 z1, .int .i64 z2] (by kernel_rfl) (by rfl) (cells_new wx #[.slice (some ⟨h, 0, none⟩) dn 3, .int .i64 z1, .int .i64 z2] 44) (by simp [Value.oneCell']) (by omega) (by unfold maxLen; omega) (by omega) (by simp; omega) _ rfl ?_
                  intro g cap wy own hgrow hat hlt
                  have hks : (([sa, sb, sc] : List ByteArray).take dn).length = dn := by simp; omega
                  have HXN := Lib.hid (show CM w S (K + 1 + 12 * i1 + 6 * i2 + 3 * (i3 + 1)) (4 * i1 + 2 * i2 + (i3 + 1)) wy (.slice (some ⟨g, 0, none⟩) (l.length + 1) cap) (l ++ [⟨some ⟨h, 0, none⟩, 3, ([sa, sb, sc] : List ByteArray).take dn, z1, z2⟩]) from ⟨HB.out.1.snoc (x := ⟨some ⟨h, 0, none⟩, 3, ([sa, sb, sc] : List ByteArray).take dn, z1, z2⟩) (by
                      rcases H6.out with e | ⟨p, cur, e1, e2, e3, e4⟩
                      · exact absurd e (by simp)
                      · refine .inr ⟨p, cur, e1, e2, e3, ?_⟩
                        rw [hks]
                        show _ = (List.take dn [sa, sb, sc]).map Value.string
                        rw [List.map_take, ← e4, List.take_take]
                        congr 1
                        simp
                        omega) ce_ty hS0 (Nat.le_refl _) (by simp only [Ce.cells, hks]; exact own) hgrow, by simp; omega, fun x hx => by
                      rcases List.mem_append.1 hx with hx | hx
                      · exact HB.out.2.2 x hx
                      · obtain rfl := List.mem_singleton.1 hx
                        refine ⟨⟨by rw [hks]; omega, fun s hs => HTZ.out s (List.mem_of_mem_take hs)⟩, ⟨h, rfl⟩, ?_, ?_, ?_, ?_⟩ <;> (simp only; omega)⟩)
                  have H1' := Lib.hid (H1.out.app HB.out.1.1.1 ce_ty hgrow)
                  have H2' := Lib.hid (H2.out.app HB.out.1.1.1 ce_ty hgrow)
                  have H3' := Lib.hid (H3.out.app HB.out.1.1.1 ce_ty hgrow)
                  refine hK15 _ _ ?_
                  clear hK15 K15 own hgrow hat HB H1 H2 H3 H6 own9
                  refine wpAny_take (i := 16) (oi := ⟨some 3, _, _, _, _, _⟩) (v := .slice (some ⟨g, 0, none⟩) (l.length + 1) cap) rfl (by kernel_rfl) (by kernel_rfl) (by kernel_rfl) (fun _ _ _ h => h) (Or.inl ⟨by rfl, fun w => by go_simp⟩) ?_
                  refine wpAny_done (by kernel_rfl) ?_ _
                  go_wp2_with fail
                  go_roundw
                  case rel => exact ⟨i3 + 1, _, by omega, by go_num, HXN, H1', H2', H3'⟩
                  case measure => simp [intOf]; omega
                  --@end
            · obtain rfl : i3 = 2 := by omega
              go_wp2_with fail
              go_roundw
              case rel => exact ⟨i2 + 1, l, by omega, by go_num, HC.out.mono (by omega) (by omega), HT, HU⟩
              case measure => simp [intOf]; omega
        · obtain rfl : i2 = 2 := by omega
          go_wp2_with fail
          go_roundw
          case rel => exact ⟨i1 + 1, l, by omega, by go_num, HC.out.mono (by omega) (by omega), HT⟩
          case measure => simp [intOf]; omega
    · obtain rfl : i1 = 2 := by omega
      have s6 := HC.out.1.strm
      go_wp2_with fail
      with_reducible refine (flip_any S _ _ _ s6 (by omega) (by omega)).mono ?_
      rintro e w7 ⟨b, rfl, k7, s7⟩
      have HC7 := Lib.hid (HC.out.draw k7 s7 hS0)
      have HG7 := Lib.hid (LT.gen (K' := K + 40) (P := fun l => l.length ≤ 8 ∧ ∀ x ∈ l, x.ok) HC7.out.1 hS0 (by omega) (fun x _ => x.len) ⟨HC7.out.2.1, fun x hx => (HC7.out.2.2 x hx).ok⟩)
      clear HC HT k7 s6 s7
      cases b with
      | false =>
        go_wp2_with fail
        go_ret
        exact HG7.out
      | true =>
        rcases HC7.out.1.1.1.2 with ⟨rfl, h0⟩ | ⟨g, cap, cur, rfl, hbg, hg, hnc, hcm, hcs, htake⟩
        · go_wp2_with fail
          go_ret
          exact HG7.out
        · clear hg hcs htake
          obtain ⟨n, hn⟩ : ∃ n, l.length = n := ⟨_, rfl⟩
          rw [hn] at hnc HG7 HC7 ⊢
          have hll := Lib.hid hn
          clear hn
          by_cases hk0 : n = 0
          · subst hk0
            go_wp2_with fail
            go_ret
            exact HG7.out
          · have hlp : 0 < n := by omega
            have hn8 : n ≤ 8 := by have := HC7.out.2.1; have := hll.out; omega
            have s8 := HC7.out.1.strm
            clear HG7
            go_wp2_with fail
            with_reducible refine (next_any S _ _ _ s8 (by omega) (by omega)).mono ?_
            rintro e w8 ⟨r, ⟨hr0, hr1, -⟩, rfl, k8, s9⟩
            have hr2 := hr1 (by omega)
            obtain ⟨j, rfl⟩ := Int.eq_ofNat_of_zero_le hr0
            have hj : j < n := by omega
            have HC8 := Lib.hid (HC7.out.draw k8 s9 hS0)
            clear hr0 hr1 hr2 HC7 k8 s8
            go_wp2_with fail
            with_reducible refine (next_any S _ _ _ s9 (by omega) (by omega)).mono ?_
            rintro e w9 ⟨r, ⟨hr0, hr1, -⟩, rfl, k9, s10⟩
            have hr2 := hr1 (by omega)
            have HC9 := Lib.hid (HC8.out.draw k9 s10 hS0)
            clear hr1 HC8 k9 s9
            have hjl : j < l.length := by have := hll.out; omega
            have HXO := Lib.hid (HC9.out.2.2 l[j] (List.getElem_mem hjl))
            have hfl := Lib.hid (fun (x : Ce) (_ : x ∈ l) => x.len)
            rcases (show r = 0 ∨ r = 1 ∨ r = 2 by omega) with rfl | rfl | rfl
            · skip
              obtain ⟨ph, hph⟩ := HXO.out.2.1
              have HXK := Lib.hid HXO.out.1
              have HTJ := Lib.hid (HC9.out.1.2 l[j] (List.getElem_mem hjl))
              have d0 := HC9.out.1.cell (j := j) (i := 0) hll.out hfl.out hjl (by omega) (u := .slice l[j].tv l[j].keys.length l[j].tc) rfl
              simp only [Nat.add_zero] at d0
              rw [hph] at d0 HTJ
              obtain ⟨ks, hks⟩ : ∃ ks, l[j].keys = ks := ⟨_, rfl⟩
              obtain ⟨tc, htc⟩ : ∃ z, l[j].tc = z := ⟨_, rfl⟩
              rw [hks] at d0 HTJ
              rw [htc] at d0
              have hk20 : ks.length ≤ 4 ∧ ∀ s ∈ ks, s.size ≤ 100 := by rw [← hks]; exact HXK.out
              have HKO := Lib.hid hk20.2
              obtain ⟨nk, hnk⟩ : ∃ z, ks.length = z := ⟨_, rfl⟩
              have hk4 : nk ≤ 4 := by rw [← hnk]; exact hk20.1
              rw [hnk] at d0
              have HNK := Lib.hid hnk
              clear hnk hks htc hph hk20
              have hgS : g ≠ S.g := by omega
              go_upto_region 22 with (fail)
              refine wp_region_any (by kernel_rfl) ?_
              change wpAny _ _ _ _ _ _ _ (World.drew _)
              have HCd := Lib.hid (show CM w S (K + 1 + 12 * 2 + 1 + 1 + 1) 8 (World.drew _) _ l from HC9.out.draw (grown_drew (grown_same _ _)) (strm_drew HC9.out.1.strm) hS0)
              have HTd := Lib.hid (show TgF (World.drew _) S _ _ from HTJ.out.drewN 1)
              have HDd := Lib.hid (show (World.drew _).cell? ⟨g, j * 3, none⟩ = some _ from d0)
              clear HC9 HTJ d0 s10
              generalize World.drew _ = wd at *
              refine wpAny_take (i := 0) (oi := ⟨some 100, _, _, _, _, _⟩) (v := .pointer (some ⟨g, j * 3, none⟩)) rfl (by kernel_rfl) (by kernel_rfl) (by kernel_rfl) (fun _ _ _ h => h) (Or.inl ⟨by rfl, fun w => by go_simp⟩) ?_
              refine wpAny_take (i := 1) (oi := ⟨some 101, _, _, _, _, _⟩) (v := S.p) rfl (by kernel_rfl) (by kernel_rfl) (by kernel_rfl) (fun _ _ _ h => h) (Or.inl ⟨by rfl, fun w => by go_simp⟩) ?_
              refine wpAny_take (i := 5) (oi := ⟨some 105, _, _, _, _, _⟩) (v := .pointer (some ⟨g, j * 3, none⟩)) rfl (by kernel_rfl) (by kernel_rfl) (by kernel_rfl) (fun _ _ _ h => h) (Or.inl ⟨by rfl, fun w => by go_simp⟩) ?_
              refine wpAny_take (i := 6) (oi := ⟨some 106, _, _, _, _, _⟩) (v := .pointer (some ⟨g, j * 3, none⟩)) rfl (by kernel_rfl) (by kernel_rfl) (by kernel_rfl) (fun _ _ _ h => h) (Or.inl ⟨by rfl, fun w => by go_simp⟩) ?_
              refine wpAny_take (i := 7) (oi := ⟨some 107, _, _, _, _, _⟩) (v := .pointer (some ⟨g, j * 3, none⟩)) rfl (by kernel_rfl) (by kernel_rfl) (by kernel_rfl) (fun _ _ _ h => h) (Or.inl ⟨by rfl, fun w => by go_simp⟩) ?_
              refine wpAny_mask (n := 4) (m := 8) #[true, true, false, false, false, true, true, true, false, false, false, false, false] [2, 3, 4, 8] (fun i => if i = 3 then [2] else if i = 4 then [3] else []) [102, 103, 104, 108] (fun d => if d = 102 then undef else if d = 103 then undef else if d = 104 then undef else undef) (JD S (K + 1 + 12 * 2 + 1 + 1 + 1) wd (.slice (some ⟨ph, 0, none⟩) nk tc)) rfl (by decide) (by kernel_rfl) (by kernel_rfl) ?std ?hsd ?hendd
              case std => exact ⟨grown_same _ _, HCd.out.1.strm, fun e => (by cases e), fun e => (by cases e), fun e => (by cases e), fun e => (by cases e)⟩
              case hsd =>
                intro i hi' b u wx hbi hD hJ
                simp only [List.mem_cons, List.mem_nil_iff, or_false] at hi'
                have HJ := Lib.hid hJ
                have hSx := strm_lt hJ.st
                clear hJ
                rcases hi' with rfl | rfl | rfl | rfl
                · --@n2
                  refine wpOp_calm (o := ⟨some 102, ?qa1, ?qa2, ?qa3, ?qa4, ?qa5⟩) ?qai ?qag ?_
                  case qai => exact rfl
                  case qag => exact rfl
                  intro K' Q' hK'
                  have HK := Lib.hid hK'
                  clear hK' hD HCd HTd HDd
                  simp only [setAll, List.foldl]
                  go_simp
                  exact HK.out _ _ ⟨upd u 102 (.slice (some ⟨wx.heap.size, 0, none⟩) 3 3), by kernel_rfl, HJ.out.step (World.grownBy_alloc _ _ _) (strm_alloc HJ.out.st _) (fun _ => .inr ⟨_, rfl, by omega, heap_alloc_new _ _⟩) (old rfl (by decide) rfl) (old rfl (by decide) rfl) (old rfl (by decide) rfl)⟩
                  --@end
                · --@n3
                  obtain ⟨h, hv, hne, hb⟩ := HJ.out.p2 (hD 2 (by simp))
                  have C := one_any S (K + 1 + 12 * 2 + 1 + 1 + 1) h [⟨#[97]⟩, ⟨#[]⟩, ⟨#[122]⟩] 3 3 wx (strm_mono HJ.out.st (by rw [hbi]; exact Nat.le_refl _)) (by omega) rfl (by omega) (by omega) hb hne
                  rw [← hv] at C
                  have HCP := Lib.hid C
                  clear hv hb C hD hne HCd HTd HDd
                  refine wpOp_calm (o := ⟨some 103, ?qb1, ?qb2, ?qb3, ?qb4, ?qb5⟩) ?qbi ?qbg ?_
                  case qbi => exact rfl
                  case qbg => exact rfl
                  intro K' Q' hK'
                  have HK := Lib.hid hK'
                  clear hK'
                  simp only [setAll, List.foldl]
                  go_simp
                  refine HCP.out.mono ?_
                  rintro e w' ⟨z, hz, rfl, k', st⟩
                  have hz2 : z.size ≤ 100 := by
                    simp only [List.mem_cons, List.mem_nil_iff, or_false] at hz
                    rcases hz with rfl | rfl | rfl <;> decide
                  exact HK.out _ _ ⟨upd u 103 (.string z), by kernel_rfl, HJ.out.step k' (strm_mono st (by simp only [mset_at]; simp)) (old rfl (by decide) rfl) (fun _ => .inr ⟨z, rfl, hz2⟩) (old rfl (by decide) rfl) (old rfl (by decide) rfl)⟩
                  --@end
                · --@n4
                  obtain ⟨s, hv, hs⟩ := HJ.out.p3 (hD 3 (by simp))
                  have hgr := HJ.out.gr.size
                  clear hD HCd HTd HDd
                  refine wpOp_calm (o := ⟨some 104, ?qc1, ?qc2, ?qc3, ?qc4, ?qc5⟩) ?qci ?qcg ?_
                  case qci => exact rfl
                  case qcg => exact rfl
                  intro K' Q' hK'
                  have HK := Lib.hid hK'
                  clear hK'
                  simp only [setAll, List.foldl, hv]
                  go_simp
                  exact HK.out _ _ ⟨upd (upd u 103 (.string s)) 104 (.slice (some ⟨wx.heap.size, 0, none⟩) 1 1), by kernel_rfl, by
                    rw [upd_same hv]
                    exact HJ.out.step (World.grownBy_alloc _ _ _) (strm_alloc HJ.out.st _) (old rfl (by decide) rfl) (old rfl (by decide) rfl) (fun _ => .inr ⟨_, s, rfl, hs, hgr, by omega, heap_alloc_new _ _⟩) (old rfl (by decide) rfl)⟩
                  --@end
                · --@n8
                  have y0 := HJ.out.gr.cell HDd.out (by simpa using hgS)
                  clear hD HCd HTd HDd
                  refine wpOp_calm (o := ⟨some 108, ?qd1, ?qd2, ?qd3, ?qd4, ?qd5⟩) ?qdi ?qdg ?_
                  case qdi => exact rfl
                  case qdg => exact rfl
                  intro K' Q' hK'
                  have HK := Lib.hid hK'
                  clear hK'
                  simp only [setAll, List.foldl]
                  go_simp
                  exact HK.out _ _ ⟨upd u 108 (.slice (some ⟨ph, 0, none⟩) nk tc), by kernel_rfl, HJ.out.step (grown_same _ _) HJ.out.st (old rfl (by decide) rfl) (old rfl (by decide) rfl) (old rfl (by decide) rfl) (fun _ => .inr rfl)⟩
                  --@end
              case hendd =>
                --@endd
                intro b u wx hb hJ
                obtain ⟨h, s, hv4, hss, hhw, hhS, hhb⟩ := hJ.p4 (hb 4 (by simp))
                have hv8 := hJ.p8 (hb 8 (by simp))
                have HG := Lib.hid hJ.gr
                have HST := Lib.hid (strm_mono hJ.st (show K + 1 + 12 * 2 + 1 + 1 + 1 + (b 3).toNat ≤ K + 40 by have := Bool.toNat_le (b 3); omega))
                have hSd := strm_lt HCd.out.1.strm
                have hgsz := hJ.gr.size
                clear hJ hb
                simp only [setAll, List.foldl, hv4, hv8]
                clear hv4 hv8
                have own9 : wx.ownsRow wd.heap.size 9 1 (.slice (some ⟨h, 0, none⟩) 1 1) 1 [.string s] := ⟨rfl, .inr ⟨h, 1, _, rfl, hhw, hhb, Nat.le_refl _, by unfold maxLen; omega, rfl, rfl⟩⟩
                have HTx := Lib.hid ((HTd.out.draw HG.out).strs)
                refine wpAny_ready (rs := [9]) (by kernel_rfl) (by simp) ?_
                refine AllReady.cons rfl (fun K9 hK9 => ?_) AllReady.nil
                refine step_append_own (o := ⟨some 109, _, _, _, _, _⟩) _ (by rfl) (.tmp 104) (.tmp 108) 41 (by rfl) wd.heap.size 9 j0 _ 1 16 Tryd.underlying41 hjj hy0 hy1 hy2 rfl (by omega) (.slice (some ⟨h, 0, none⟩) 1 1) 1 _ (by kernel_rfl) own9 ⟨ph, 0, none⟩ nk tc (ks.map Value.string) (by kernel_rfl) (by rw [List.length_map, HNK.out, Nat.mul_one]) ?cks (by simp [Value.oneCell']) (by unfold maxLen; omega) (by omega) (by omega) ?_
                case cks =>
                  intro t y hy
                  rw [List.getElem?_map] at hy
                  rcases hq : ks[t]? with _ | q
                  · rw [hq] at hy; cases hy
                  · rw [hq] at hy
                    obtain ⟨ht, rfl⟩ := List.getElem?_eq_some_iff.1 hq
                    obtain ⟨p', o', e1, -, e3⟩ := HTx.out t ht
                    injection e1 with e1
                    injection e1 with e1 e2
                    subst e1 e2
                    rw [Addr.add_lit, e3]
                    exact hy
                intro v' wy own hgrow
                have hlen : (s :: ks).length = 1 + nk := by rw [List.length_cons, HNK.out]; omega
                obtain ⟨g2, cap2, rfl⟩ : ∃ g2 cap2, v' = .slice (some ⟨g2, 0, none⟩) (1 + nk) cap2 := by
                  rcases own.2 with ⟨-, e⟩ | ⟨g2, cap2, cur2, e, -⟩
                  · omega
                  · exact ⟨g2, cap2, e⟩
                have hg2 : wd.grownBy wy (some S.g) := ⟨hgrow.os.trans HG.out.os, hgrow.tape.trans HG.out.tape, hgrow.output.trans HG.out.output, Nat.le_trans HG.out.size hgrow.size, fun k hk hne => (hgrow.block k (Nat.lt_of_lt_of_le hk hgsz) (fun e => by have : k = h := Option.some.inj e; omega)).trans (HG.out.block k hk hne)⟩
                have hst := strm_own HST.out hgrow (fun x hx => by have : h = x := by simpa [Value.ownBlock] using hx
                                                                   omega)
                have HCy := Lib.hid (HCd.out.draw hg2 hst hS0)
                have HTy := Lib.hid (show TgF wy S (some ⟨g2, 0, none⟩) (s :: ks) from TgF.own (b0 := wd.heap.size) (c := cap2) (v := .slice (some ⟨g2, 0, none⟩) (1 + nk) cap2) (by rw [hlen]; exact own) (by rw [hlen]) hSd)
                have d1 := hg2.cell HDd.out (by simpa using hgS)
                have f1 := HCy.out.1.free hll.out (j * 3)
                have HS := Lib.hid (HCy.out.1.put (j := j) (i := 0) (u := .slice (some ⟨g2, 0, none⟩) (1 + nk) cap2) (x' := { l[j] with tv := some ⟨g2, 0, none⟩, tc := cap2, keys := s :: ks }) ce_ty hS0 (Nat.le_refl _) hll.out hfl.out hjl (by omega) (by simp only [Ce.cells, hlen]; rfl) HTy.out)
                have HR := Lib.hid (LT.gen (K' := K + 40) (P := fun l => l.length ≤ 8 ∧ ∀ x ∈ l, x.ok) HS.out hS0 (Nat.le_refl _) (fun x _ => x.len) ⟨by rw [List.length_set]; have := hll.out; omega, fun y hy => by
                  rcases List.mem_or_eq_of_mem_set hy with hy | rfl
                  · exact (HCd.out.2.2 y hy).ok
                  · obtain ⟨o1, o2, o3, o4, o5, o6⟩ := HXO.out.ok
                    refine ⟨by simp only [hlen]; omega, fun q hq => ?_, o3, o4, o5, o6⟩
                    rcases List.mem_cons.1 hq with rfl | hq
                    · exact hss
                    · exact HKO.out q hq⟩)
                simp only [Nat.add_zero] at HR
                refine hK9 _ _ ?_
                clear hK9 K9 own hgrow hg2 hst HCy HTy HS own9 HTx HG HST HCd HTd HDd hhb hhw hhS hss
                refine wpAny_take (i := 10) (oi := ⟨some 110, _, _, _, _, _⟩) (v := .pointer (some ⟨g, j * 3, none⟩)) rfl (by kernel_rfl) (by kernel_rfl) (by kernel_rfl) (fun _ _ _ h => h) (Or.inl ⟨by rfl, fun w => by go_simp⟩) ?_
                refine wpAny_take (i := 11) (oi := ⟨some 111, _, _, _, _, _⟩) (v := .pointer (some ⟨g, j * 3, none⟩)) rfl (by kernel_rfl) (by kernel_rfl) (by kernel_rfl) (fun _ _ _ h => h) (Or.inl ⟨by rfl, fun w => by go_simp⟩) ?_
                refine wpAny_ready (rs := [12]) (by kernel_rfl) (by simp) ?_
                refine AllReady.cons rfl (fun K12 hK12 => ?_) AllReady.nil
                go_simp
                refine hK12 _ _ ?_
                clear hK12 K12 d1 f1
                refine wpAny_done (by kernel_rfl) ?_ _
                go_wp2_with fail
                go_ret
                exact HR.out
                --@end
            · --@c1
              go_wp2_with fail
              with_reducible refine (pick_at S _ [-1, 1000001] 2 _ _ _ _ s10 (by omega) rfl (by omega) (by omega) (by simp) (by simp)).mono ?_
              rintro e w6 ⟨z, hm, rfl, k6, s6⟩
              have hz : -1 ≤ z ∧ z ≤ 1000001 := by
                simp only [List.mem_cons, List.mem_nil_iff, or_false] at hm
                omega
              have HL6 := Lib.hid (HC9.out.draw k6 s6 hS0)
              have HOK := Lib.hid HC9.out.2.2
              clear HC9 k6 s10 hm
              have c1 := HL6.out.1.cell (j := j) (i := 1) hll.out hfl.out hjl (by omega) (u := .int .i64 l[j].many) rfl
              have f1 := HL6.out.1.free hll.out (j * 3 + 1)
              have HS := Lib.hid (HL6.out.1.put (j := j) (i := 1) (u := .int .i64 z) (x' := { l[j] with many := z }) ce_ty hS0 (Nat.le_refl _) hll.out hfl.out hjl (by omega) rfl (HL6.out.1.2 l[j] (List.getElem_mem hjl)))
              have HG := Lib.hid (LT.gen (K' := K + 40) (P := fun l => l.length ≤ 8 ∧ ∀ x ∈ l, x.ok) HS.out hS0 (by omega) (fun x _ => x.len) ⟨by rw [List.length_set]; have := hll.out; omega, fun y hy => by
                rcases List.mem_or_eq_of_mem_set hy with hy | rfl
                · exact (HOK.out y hy).ok
                · obtain ⟨o1, o2, o3, o4, o5, o6⟩ := HXO.out.ok
                  exact ⟨o1, o2, by simp only; omega, by simp only; omega, o5, o6⟩⟩)
              clear HL6 HS
              go_wp2_with fail
              go_ret
              exact HG.out
              --@end
            · --@c2
              go_wp2_with fail
              with_reducible refine (pick_at S _ [1000000000001, -1000000000001] 2 _ _ _ _ s10 (by omega) rfl (by omega) (by omega) (by simp) (by simp)).mono ?_
              rintro e w6 ⟨z, hm, rfl, k6, s6⟩
              have hz : -1000000000001 ≤ z ∧ z ≤ 1000000000001 := by
                simp only [List.mem_cons, List.mem_nil_iff, or_false] at hm
                omega
              have HL6 := Lib.hid (HC9.out.draw k6 s6 hS0)
              have HOK := Lib.hid HC9.out.2.2
              clear HC9 k6 s10 hm
              have c2 := HL6.out.1.cell (j := j) (i := 2) hll.out hfl.out hjl (by omega) (u := .int .i64 l[j].cents) rfl
              have f2 := HL6.out.1.free hll.out (j * 3 + 2)
              have HS := Lib.hid (HL6.out.1.put (j := j) (i := 2) (u := .int .i64 z) (x' := { l[j] with cents := z }) ce_ty hS0 (Nat.le_refl _) hll.out hfl.out hjl (by omega) rfl (HL6.out.1.2 l[j] (List.getElem_mem hjl)))
              have HG := Lib.hid (LT.gen (K' := K + 40) (P := fun l => l.length ≤ 8 ∧ ∀ x ∈ l, x.ok) HS.out hS0 (by omega) (fun x _ => x.len) ⟨by rw [List.length_set]; have := hll.out; omega, fun y hy => by
                rcases List.mem_or_eq_of_mem_set hy with hy | rfl
                · exact (HOK.out y hy).ok
                · obtain ⟨o1, o2, o3, o4, o5, o6⟩ := HXO.out.ok
                  exact ⟨o1, o2, o3, o4, by simp only; omega, by simp only; omega⟩⟩)
              clear HL6 HS
              go_wp2_with fail
              go_ret
              exact HG.out
              --@end
end Go.Proofs.YtmhnnbffhciinaaDoor
