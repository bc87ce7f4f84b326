/- The makers of a basket and of a moment: Stream.Basket, Stream.At (printed by gen_bkmake.py). -/
import Derived.Test.YtdefjnefkdemiaaGreatDoorM1
import Derived.Deep.RegionHeld3
import Derived.StillTailTactics
import Derived.Tactics2
import Derived.Deep.RegionWith
import Derived.Deep.DeepCutAuto
import Derived.Deep.CutBlock
set_option linter.unusedVariables false
namespace Go.Proofs.YtdefjnefkdemiaaGreatDoor
open Go.RowKit

/-- four lists of tags, and the list of them -/
theorem tags4 {w : World} {S : SC} (hS : S.g < w.heap.size) (z a b c : List ByteArray) (cs : List Value) (t : TypeId) :
    let W := ((((w.alloc (.cells (z.map Value.string).toArray 9)).alloc (.cells (a.map Value.string).toArray 9)).alloc (.cells (b.map Value.string).toArray 9)).alloc (.cells (c.map Value.string).toArray 9)).alloc (.cells cs.toArray t)
    TgF W S (some ⟨w.heap.size, 0, none⟩) z ∧ TgF W S (some ⟨w.heap.size + 1, 0, none⟩) a ∧ TgF W S (some ⟨w.heap.size + 2, 0, none⟩) b ∧ TgF W S (some ⟨w.heap.size + 3, 0, none⟩) c ∧ OB W (w.heap.size + 4) cs t := by
  intro W
  have z1 : (w.alloc (.cells (z.map Value.string).toArray 9)).heap.size = w.heap.size + 1 := by simp
  have h := tags3 (w := w.alloc (.cells (z.map Value.string).toArray 9)) (S := S) (by rw [z1]; omega) a b c cs t
  rw [z1] at h
  exact ⟨((((TgF.new w S z hS).alloc _).alloc _).alloc _).alloc _, h.1, h.2.1, h.2.2.1, h.2.2.2⟩
theorem It.ok.ok_key {x : It} (h : x.ok) (v : ByteArray) (h0 : v.size ≤ 100) : ({ x with key := v } : It).ok := by
  obtain ⟨o1, o2, o3, o4, o5, o6, o7⟩ := h
  exact ⟨h0, o2, o3, o4, o5, o6, o7⟩
theorem It.ok.ok_cents {x : It} (h : x.ok) (v : Int) (h0 : -100000000 ≤ v) (h1 : v ≤ 100000000) : ({ x with cents := v } : It).ok := by
  obtain ⟨o1, o2, o3, o4, o5, o6, o7⟩ := h
  exact ⟨o1, h0, h1, o4, o5, o6, o7⟩
theorem It.ok.ok_many {x : It} (h : x.ok) (v : Int) (h0 : -1000 ≤ v) (h1 : v ≤ 1000) : ({ x with many := v } : It).ok := by
  obtain ⟨o1, o2, o3, o4, o5, o6, o7⟩ := h
  exact ⟨o1, o2, o3, h0, h1, o6, o7⟩
theorem It.ok.ok_tags {x : It} (h : x.ok) (tv : Option Addr) (tc : Nat) (tags : List ByteArray) (h0 : tags.length ≤ 20) (h1 : ∀ s ∈ tags, s.size ≤ 100) : ({ x with tv := tv, tc := tc, tags := tags } : It).ok := by
  obtain ⟨o1, o2, o3, o4, o5, o6, o7⟩ := h
  exact ⟨o1, o2, o3, o4, o5, h0, h1⟩
theorem iok_set {l : List It} {j : Nat} {x : It} (h : ∀ x ∈ l, x.ok) (hx : x.ok) : ∀ y ∈ l.set j x, y.ok := fun y hy => by
  rcases List.mem_or_eq_of_mem_set hy with hy | rfl
  · exact h y hy
  · exact hx
theorem infoIt : (Tryz.prog.info? 60).map (fun i => (i.zero, i.size, i.bytes)) = some (some (.agg #[.string ⟨#[]⟩, .int .i64 0, .int .i64 0, .slice none 0 0]), 4, 56) := by kernel_rfl
theorem it_ty : 60 ≠ 9 := by decide
theorem bk_ty : 30 ≠ 9 := by decide

theorem LT.other {α : Type} {w wr : World} {b0 K p i : Nat} {S : SC} {t t0 : TypeId} {C : Nat} {f : α → List Value} {tv : α → Option Addr} {tags : α → List ByteArray} {v u : Value} {l : List α} {cs : List Value}
    (h : LT w b0 wr S K t C f tv tags v l) (hp : p < b0) (hS : S.g < p) (hw : w.heap.size ≤ p) (hb : OB wr p cs t0) (ht : t0 ≠ 9) : LT w b0 (wr.setCell ⟨p, i, none⟩ u) S K t C f tv tags v l := by
  obtain ⟨⟨own, s, g, hs⟩, h2⟩ := h
  refine ⟨⟨own.kept (grown_set (grown_same wr (some p)) (p := ⟨p, i, none⟩) (.inl rfl) u) ?_, strm_set s (by show S.g < p; omega) u, grown_set g (.inr (by show w.heap.size ≤ p; omega)) u, by simpa [World.setCell] using hs⟩, fun x hx => (h2 x hx).set hb ht⟩
  cases hv : v.ownBlock with
  | none => exact .inl rfl
  | some q =>
    refine .inr fun e => ?_
    have := (own.lt q hv).1
    simp at e
    omega

/-- a basket that is being made: block q0 is the result's, block q the basket's own; its items grow -/
structure BkW (w : World) (S : SC) (q0 q : Nat) (cur : Value) (ship : Int) (l : List It) (K : Nat) (wr : World) : Prop where
  its : LT w (q + 1) wr S K 60 4 It.cells It.tv It.tags cur l
  box : OB wr q [cur, .int .i64 ship] 30
  res : OB wr q0 [.slice none 0 0, .int .i64 0] 30
  lt : q0 < q
  hw : w.heap.size ≤ q0
  hS : S.g < q0
/-- what the maker of a basket leaves -/
def GenBk (S : SC) (K : Nat) (w : World) (e : Ending) (w' : World) : Prop :=
  ∃ a c l ship, e = .returned (.agg #[.slice a l.length c, .int .i64 ship]) ∧ l.length ≤ 4 ∧ (∀ x ∈ l, x.ok) ∧ -1 ≤ ship ∧ ship ≤ 1000000000001 ∧ l.length ≤ c ∧ c ≤ maxLen ∧ Kp S (fun w => RAt w a 4 It.cells l) w' ∧ Kp S (fun w => TagsAt It.tv It.tags w l) w' ∧ w.grownBy w' (some S.g) ∧ Strm w' S K
/-- .. and that its items are a row of its own -/
def GenBO (S : SC) (K : Nat) (w : World) (e : Ending) (w' : World) : Prop :=
  ∃ a c l ship, e = .returned (.agg #[.slice a l.length c, .int .i64 ship]) ∧ l.length ≤ 4 ∧ (∀ x ∈ l, x.ok) ∧ -1 ≤ ship ∧ ship ≤ 1000000000001 ∧ l.length ≤ c ∧ c ≤ maxLen ∧ Kp S (fun w => RAt w a 4 It.cells l) w' ∧ Kp S (fun w => TagsAt It.tv It.tags w l) w' ∧ w.grownBy w' (some S.g) ∧ Strm w' S K ∧ w'.ownsRow w.heap.size 60 4 (.slice a l.length c) l.length (l.flatMap It.cells) ∧ ∀ x ∈ l, TgF w' S x.tv x.tags
theorem own_base {w : World} {b b' C n : Nat} {t : TypeId} {v : Value} {xs : List Value} (h : w.ownsRow b t C v n xs) (hb : b' ≤ b) : w.ownsRow b' t C v n xs := by
  refine ⟨h.1, ?_⟩
  rcases h.2 with h2 | ⟨g, cap, cur, e, hbg, r⟩
  · exact .inl h2
  · exact .inr ⟨g, cap, cur, e, by omega, r⟩
section
variable {w wr wr' : World} {S : SC} {q0 q : Nat} {cur : Value} {ship : Int} {l : List It} {K K' : Nat}
theorem BkW.strm (h : BkW w S q0 q cur ship l K wr) : Strm wr S K := h.its.strm
theorem BkW.mono (h : BkW w S q0 q cur ship l K wr) (hK : K ≤ K') : BkW w S q0 q cur ship l K' wr := ⟨h.its.mono hK, h.box, h.res, h.lt, h.hw, h.hS⟩
theorem BkW.draw (h : BkW w S q0 q cur ship l K wr) (k : wr.grownBy wr' (some S.g)) (s : Strm wr' S K') : BkW w S q0 q cur ship l K' wr' := by
  have h1 := h.lt
  have h2 := h.hS
  exact ⟨h.its.draw k s (by omega), h.box.grown k (by simp; omega), h.res.grown k (by simp; omega), h.lt, h.hw, h.hS⟩
theorem BkW.alloc (h : BkW w S q0 q cur ship l K wr) (o : Obj) : BkW w S q0 q cur ship l K (wr.alloc o) := h.draw (World.grownBy_alloc _ _ _) (strm_alloc h.strm o)
theorem BkW.drew (h : BkW w S q0 q cur ship l K wr) : BkW w S q0 q cur ship l K wr.drew := h.draw (grown_drew (grown_same _ _)) (strm_drew h.strm)
/-- a block apart is written -/
theorem BkW.other {p i : Nat} {u : Value} {cs : List Value} {t : TypeId} (h : BkW w S q0 q cur ship l K wr) (hp : OB wr p cs t) (ht : t ≠ 9) (hti : t ≠ 60 ∨ ∀ g, cur.ownBlock = some g → g ≠ p) (hq : p ≠ q) (hq0 : p ≠ q0) (hS : S.g < p) (hw : w.heap.size ≤ p) : BkW w S q0 q cur ship l K (wr.setCell ⟨p, i, none⟩ u) := by
  refine ⟨?_, h.box.other hq _ _, h.res.other hq0 _ _, h.lt, h.hw, h.hS⟩
  obtain ⟨⟨own, s, g, hs⟩, h2⟩ := h.its
  refine ⟨⟨own.kept (grown_set (grown_same wr (some p)) (p := ⟨p, i, none⟩) (.inl rfl) u) ?_, strm_set s (by show S.g < p; omega) u, grown_set g (.inr (by show w.heap.size ≤ p; omega)) u, by simpa [World.setCell] using hs⟩, fun x hx => (h2 x hx).set hp ht⟩
  cases hv : cur.ownBlock with
  | none => exact .inl rfl
  | some b =>
    refine .inr fun e => ?_
    injection e with e
    rcases hti with hti | hti
    · rcases own.2 with ⟨rfl, _⟩ | ⟨g', cap', cur', rfl, _, hg, _⟩
      · cases hv
      · have e1 : g' = b := Option.some.inj hv
        rw [e1, e] at hg
        have hp' := hp
        unfold OB at hp'
        rw [hp'] at hg
        injection hg with hg
        injection hg with _ hg _
        exact hti hg
    · exact hti b hv e
/-- an item more, and the store of the new list -/
theorem BkW.app {o : Obj} {v' : Value} {x : It} (h : BkW w S q0 q cur ship l K wr) (hx : TgF wr S x.tv x.tags) (own' : wr'.ownsRow (q + 1) 60 4 v' (l.length + 1) (l.flatMap It.cells ++ It.cells x)) (k : (wr.alloc o).grownBy wr' cur.ownBlock) :
    wr'.cell? ⟨q, 0, none⟩ = some cur ∧ wr'.frozen? ⟨q, 0, none⟩ = false ∧ BkW w S q0 q v' ship (l ++ [x]) K (wr'.setCell ⟨q, 0, none⟩ v') := by
  have h1 := h.lt
  have h2 := h.hS
  have h3 := h.hw
  have hr : ∀ z, cur.ownBlock = some z → q + 1 ≤ z := fun z hz => (h.its.1.1.lt z hz).1
  have L := h.its.snoc hx it_ty (by omega) (by omega) own' k
  have B : OB wr' q [cur, .int .i64 ship] 30 := (h.box.alloc o).grown k (fun e => by have := hr q e; omega)
  have R : OB wr' q0 [.slice none 0 0, .int .i64 0] 30 := (h.res.alloc o).grown k (fun e => by have := hr q0 e; omega)
  exact ⟨B.cell 0 _ rfl, B.free 0, L.other (by omega) (by omega) (by omega) B bk_ty, B.put 0 v' rfl, R.other (by omega) _ _, h1, h3, h2⟩
theorem BkW.setShip (h : BkW w S q0 q cur ship l K wr) (z : Int) : BkW w S q0 q cur z l K (wr.setCell ⟨q, 1, none⟩ (.int .i64 z)) := by
  have h1 := h.lt
  have h2 := h.hS
  have h3 := h.hw
  exact ⟨h.its.other (by omega) (by omega) (by omega) h.box bk_ty, h.box.put 1 _ rfl, h.res.other (by omega) _ _, h1, h3, h2⟩
theorem BkW.put {g n cap j i : Nat} {u : Value} {x' : It} (h : BkW w S q0 q (.slice (some ⟨g, 0, none⟩) n cap) ship l K wr) (hn : l.length = n) (hj : j < l.length) (hi : i < 4) (hx : It.cells x' = (It.cells l[j]).set i u) (htg : TgF wr S x'.tv x'.tags) :
    BkW w S q0 q (.slice (some ⟨g, 0, none⟩) n cap) ship (l.set j x') K (wr.setCell ⟨g, j * 4 + i, none⟩ u) := by
  have h1 := h.lt
  have h2 := h.hS
  have h3 := h.hw
  have hg := (h.its.1.1.lt g (by simp [Value.ownBlock])).1
  exact ⟨h.its.put it_ty (by omega) (by omega) hn (fun x _ => x.len) hj hi hx htg, h.box.other (by omega) _ _, h.res.other (by omega) _ _, h1, h3, h2⟩
theorem BkW.done (h : BkW w S q0 q cur ship l K wr) (hK : K ≤ K') (hl : l.length ≤ 4) (hok : ∀ x ∈ l, x.ok) (h0 : -1 ≤ ship) (h9 : ship ≤ 1000000000001) (u : Value) (z : Value) : GenBO S K' w (.returned (.agg #[cur, .int .i64 ship])) ((wr.setCell ⟨q0, 0, none⟩ u).setCell ⟨q0, 1, none⟩ z) := by
  have h1 := h.lt
  have h2 := h.hS
  have h3 := h.hw
  have L := (h.its.other (i := 0) (u := u) (by omega) h2 h3 h.res bk_ty).other (p := q0) (i := 1) (u := z) (by omega) h2 h3 (h.res.set 0 u) bk_ty
  obtain ⟨a, c, l', hP, e, hc1, hc2, k1, k2, g, s⟩ := L.gen (P := fun l' => l' = l) (K' := K') (by omega) hK (fun x _ => x.len) rfl
  subst hP
  have e' := Ending.returned.inj e
  subst e'
  exact ⟨a, c, l', ship, rfl, hl, hok, h0, h9, hc1, hc2, k1, k2, g, s, own_base L.1.1 (by omega), L.2⟩
end

theorem k6_cell {w w' : World} {S : SC} {q : Nat} {v : Value} (k : w.grownBy w' (some S.g)) (h : w.cell? ⟨q, 0, none⟩ = some v) (hq : S.g < q) : w'.cell? ⟨q, 0, none⟩ = some v := k.cell h (by simp; omega)

set_option maxRecDepth 100000 in
set_option maxHeartbeats 16000000 in
theorem basket_own (S : SC) (K : Nat) (w : World) (s0 : Strm w S K) (hK : K ≤ 6000) :
    Calls Tryz.prog 6 #[S.p] w (GenBO S (K + 30) w) := by
  obtain ⟨i0, hi, hz0, hz1, hz2⟩ := info_parts infoIt
  have hg0 := strm_lt s0
  have R1 := Lib.hid (OB.new w [.slice none 0 0, .int .i64 0] 30)
  have G1 := Lib.hid (World.grownBy_alloc w (.cells #[.slice none 0 0, .int .i64 0] 30) (some S.g))
  have s1 := strm_alloc s0 (.cells #[.slice none 0 0, .int .i64 0] 30)
  have hz1' : (w.alloc (.cells #[.slice none 0 0, .int .i64 0] 30)).heap.size = w.heap.size + 1 := by simp
  simp only [List.toArray] at R1
  clear s0
  go_enter Tryz.func6, Tryz.ntmps6
  go_upto_region 1 with (fail)
  generalize w.alloc (.cells #[.slice none 0 0, .int .i64 0] 30) = w1 at *
  obtain ⟨q0, hq0⟩ : ∃ q, w.heap.size = q := ⟨_, rfl⟩
  rw [hq0] at R1 hz1' hg0 ⊢
  have HQ0 := Lib.hid hq0
  clear hq0
  go_wp2_with fail
  with_reducible refine (pick_at S _ [0, 0, 495, 1000, 1000000000000] 5 _ _ _ _ s1 (by omega) rfl (by omega) (by omega) (by first | (simp; done) | omega) (by simp)).mono ?_
  rintro e w2 ⟨ship, hm, rfl, k2, s2⟩
  have hsh : 0 ≤ ship ∧ ship ≤ 1000000000000 := by
    simp only [List.mem_cons, List.mem_nil_iff, or_false] at hm
    omega
  have R2 := Lib.hid (R1.out.grown k2 (by simp; omega))
  have G2 := Lib.hid (grown_trans G1.out k2)
  have hz2' := k2.size
  obtain ⟨q, hq⟩ : ∃ q, w2.heap.size = q := ⟨_, rfl⟩
  have hsz3 : q + 1 ≤ (w2.alloc (.cells #[.slice none 0 0, .int .i64 ship] 30)).heap.size := by rw [World.size_alloc]; omega
  have P3 : BkW w S q0 q (.slice none 0 0) ship [] (K + 1) (w2.alloc (.cells #[.slice none 0 0, .int .i64 ship] 30)) :=
    ⟨LT.nil ⟨World.ownsRow_nil _ _ _ _, strm_alloc s2 _, grown_alloc G2.out _, hsz3⟩, by rw [← hq]; exact heap_alloc_new _ _, R2.out.alloc _, by omega, by rw [HQ0.out]; omega, by omega⟩
  clear R1 G1 R2 G2 k2 s1 s2 hm
  go_upto_region 2 with (fail)
  generalize w2.alloc (.cells #[.slice none 0 0, .int .i64 ship] 30) = w3 at *
  rw [hq] at hz2'
  have HP3 := Lib.hid P3
  have s3 := HP3.out.strm
  have hqq := HP3.out.lt
  clear P3 hsz3 hz2' hz1' hq
  obtain ⟨hsh0, hsh1⟩ := hsh
  go_wp2_with fail
  with_reducible refine (next_any S _ _ _ s3 (by omega) (by omega)).mono ?_
  rintro e w4 ⟨m', ⟨hm0, hmx, -⟩, rfl, k4, s4⟩
  have hmx2 := hmx (by omega)
  obtain ⟨n, rfl⟩ := Int.eq_ofNat_of_zero_le hm0
  have hn4 : n ≤ 4 := by omega
  have HP4 := Lib.hid (HP3.out.draw k4 s4)
  clear k4 s4 s3 HP3 hm0 hmx hmx2
  go_wp2_with fail
  go_loopw [4, 5, 13] (fun _ _ i wr => ∃ (k : Nat) (cur : Value) (l : List It), k ≤ n ∧ i = .int .i64 k ∧ l.length = k ∧ Hid (∀ x ∈ l, x.ok) ∧ BkW w S q0 q cur ship l (K + 2 + 3 * k) wr) (fun _ _ i _ => n - (intOf i).toNat)
  case atStart => exact ⟨0, _, [], Nat.zero_le _, rfl, rfl, Lib.hid (by simp), HP4.out⟩
  case round =>
    obtain ⟨k, cur, l, hk, rfl, hl, HOK, hP⟩ := hrel
    have HP := Lib.hid hP
    have hll := Lib.hid hl
    have s2 := hP.strm
    clear hP HP4 hl
    by_cases hlt : k < n
    · obtain ⟨R, hR⟩ : ∃ R, Utf8.encode (97 + (k : Int)) = R := ⟨_, rfl⟩
      have hRs : R.size ≤ 4 := by rw [← hR]; exact enc_size _ (by omega) (by omega)
      go_wp2_with fail
      clear hR
      have HID := Lib.hid (size_pre 105 R hRs)
      generalize (⟨#[105]⟩ : ByteArray) ++ R = id at *
      have hids := HID.out
      with_reducible refine (pick_at S _ [0, 1, 99, 300, 1000, 2001, 10000000] 7 _ _ _ _ s2 (by omega) rfl (by omega) (by omega) (by simp) (by simp)).mono ?_
      rintro e w5 ⟨ce, hm, rfl, k5, s5⟩
      have hce : 0 ≤ ce ∧ ce ≤ 10000000 := by
        simp only [List.mem_cons, List.mem_nil_iff, or_false] at hm
        omega
      have HP5 := Lib.hid (HP.out.draw k5 s5)
      clear HP k5 s2 hm
      go_wp2_with fail
      with_reducible refine (pick_at S _ [1, 1, 2, 3, 7, 100] 6 _ _ _ _ s5 (by omega) rfl (by omega) (by omega) (by simp) (by simp)).mono ?_
      rintro e w6 ⟨ma, hm, rfl, k6, s6⟩
      have hma : 1 ≤ ma ∧ ma ≤ 100 := by
        simp only [List.mem_cons, List.mem_nil_iff, or_false] at hm
        omega
      have HP6 := Lib.hid (HP5.out.draw k6 s6)
      have hz6 := HP6.out.its.size
      clear HP5 k6 s5 hm s6
      obtain ⟨qx, hqx⟩ : ∃ z, w6.heap.size = z := ⟨_, rfl⟩
      rw [hqx] at hz6
      have HCB : Hid (∀ g, cur.ownBlock = some g → g < qx) := Lib.hid (fun g hg => by rw [← hqx]; exact (HP6.out.its.1.1.lt g hg).2)
      have HX7 := Lib.hid (OB.new w6 [.string id, .int .i64 ce, .int .i64 ma, .slice none 0 0] 60)
      have HP7 := Lib.hid (HP6.out.alloc (.cells #[.string id, .int .i64 ce, .int .i64 ma, .slice none 0 0] 60))
      simp only [List.toArray] at HX7
      rw [hqx] at HX7
      go_upto_region 6 with (fail)
      generalize w6.alloc (.cells #[.string id, .int .i64 ce, .int .i64 ma, .slice none 0 0] 60) = w7 at *
      clear HP6 hqx
      obtain ⟨hce0, hce1⟩ := hce
      obtain ⟨hma0, hma1⟩ := hma
      have HIO := Lib.hid (show (It.mk id ce ma none 0 []).ok from ⟨by simp only; omega, by simp only; omega, by simp only; omega, by simp only; omega, by simp only; omega, by simp, by simp⟩)
      go_cut [] (fun wx => ∃ y : It, Hid y.ok ∧ BkW w S q0 q cur ship l (K + 2 + 3 * k + 3) wx ∧ OB wx qx y.cells 60 ∧ TgF wx S y.tv y.tags)
      case first =>
        · skip
          go_wp2_with fail
          generalize hW : ((((w7.alloc (.cells #[.string ⟨#[104, 97, 116]⟩] 9)).alloc (.cells #[.string ⟨#[99, 97, 112]⟩] 9)).alloc (.cells #[.string ⟨#[99, 97, 112]⟩, .string ⟨#[104, 97, 116]⟩] 9)).alloc (.cells #[.string ⟨#[115, 104, 111, 101]⟩] 9)).alloc (.cells #[.slice none 0 0, .slice (some ⟨w7.heap.size, 0, none⟩) 1 1, .slice (some ⟨w7.heap.size + 1, 0, none⟩) 1 1, .slice (some ⟨w7.heap.size + 2, 0, none⟩) 2 2, .slice (some ⟨w7.heap.size + 3, 0, none⟩) 1 1] 35) = w9
          have hgs := strm_lt HP7.out.strm
          have HT : Hid (TgF w9 S (some ⟨w7.heap.size, 0, none⟩) [⟨#[104, 97, 116]⟩] ∧ TgF w9 S (some ⟨w7.heap.size + 1, 0, none⟩) [⟨#[99, 97, 112]⟩] ∧ TgF w9 S (some ⟨w7.heap.size + 2, 0, none⟩) [⟨#[99, 97, 112]⟩, ⟨#[104, 97, 116]⟩] ∧ TgF w9 S (some ⟨w7.heap.size + 3, 0, none⟩) [⟨#[115, 104, 111, 101]⟩] ∧ OB w9 (w7.heap.size + 4) [.slice none 0 0, .slice (some ⟨w7.heap.size, 0, none⟩) 1 1, .slice (some ⟨w7.heap.size + 1, 0, none⟩) 1 1, .slice (some ⟨w7.heap.size + 2, 0, none⟩) 2 2, .slice (some ⟨w7.heap.size + 3, 0, none⟩) 1 1] 35) := by
            rw [← hW]
            have h := tags4 hgs [⟨#[104, 97, 116]⟩] [⟨#[99, 97, 112]⟩] [⟨#[99, 97, 112]⟩, ⟨#[104, 97, 116]⟩] [⟨#[115, 104, 111, 101]⟩] [.slice none 0 0, .slice (some ⟨w7.heap.size, 0, none⟩) 1 1, .slice (some ⟨w7.heap.size + 1, 0, none⟩) 1 1, .slice (some ⟨w7.heap.size + 2, 0, none⟩) 2 2, .slice (some ⟨w7.heap.size + 3, 0, none⟩) 1 1] 35
            exact Lib.hid ⟨h.1, h.2.1, h.2.2.1, h.2.2.2.1, h.2.2.2.2⟩
          have HP9 : Hid (BkW w S q0 q cur ship l (K + 2 + 3 * k + 1 + 1) w9) := by
            rw [← hW]
            exact Lib.hid (((((HP7.out.alloc _).alloc _).alloc _).alloc _).alloc _)
          have HX9 : Hid (OB w9 qx [.string id, .int .i64 ce, .int .i64 ma, .slice none 0 0] 60) := by
            rw [← hW]
            exact Lib.hid (((((HX7.out.alloc _).alloc _).alloc _).alloc _).alloc _)
          clear hW HP7 HX7
          have s9 := HP9.out.strm
          with_reducible refine (next_any S _ _ _ s9 (by omega) (by omega)).mono ?_
          rintro e w10 ⟨r, ⟨hr0, hr1, -⟩, rfl, k10, s10⟩
          have hr2 := hr1 (by omega)
          have HP10 := Lib.hid (HP9.out.draw k10 s10)
          have HTa := Lib.hid (HT.out.1.draw k10)
          have HTb := Lib.hid (HT.out.2.1.draw k10)
          have HTc := Lib.hid (HT.out.2.2.1.draw k10)
          have HTe := Lib.hid (HT.out.2.2.2.1.draw k10)
          have HTd := Lib.hid (HT.out.2.2.2.2.grown k10 (by simp; omega))
          have hsq := HP10.out.hS
          have hwq := HP10.out.hw
          have HX10 := Lib.hid (HX9.out.grown k10 (by simp; omega))
          clear HT HP9 HX9 k10 s9 hr1
          have c1 := HX10.out.cell 3 _ rfl
          have f1 := HX10.out.free 3
          have d0 := HTd.out.cell 0 _ rfl
          have d1 := HTd.out.cell 1 _ rfl
          have d2 := HTd.out.cell 2 _ rfl
          have d3 := HTd.out.cell 3 _ rfl
          have d4 := HTd.out.cell 4 _ rfl
          have dl := HTd.out.lt
          have HQ := Lib.hid (fun (u : Value) => HP10.out.other (i := 3) (u := u) HX10.out it_ty (.inr (fun g hg e => by have := HCB.out g hg; omega)) (by omega) (by omega) (by omega) (by omega))
          rcases (show r = 0 ∨ r = 1 ∨ r = 2 ∨ r = 3 ∨ r = 4 by omega) with rfl | rfl | rfl | rfl | rfl
          · go_wp2_with fail
            go_meet
            exact ⟨⟨id, ce, ma, none, 0, []⟩, HIO, HQ.out _, HX10.out.put 3 _ rfl, TgF.nil _ _ _⟩
          · go_wp2_with fail
            go_meet
            exact ⟨⟨id, ce, ma, some ⟨w7.heap.size, 0, none⟩, 1, [⟨#[104, 97, 116]⟩]⟩, Lib.hid (HIO.out.ok_tags _ _ _ (by decide) (by decide)), HQ.out _, HX10.out.put 3 _ rfl, HTa.out.set HX10.out it_ty⟩
          · go_wp2_with fail
            go_meet
            exact ⟨⟨id, ce, ma, some ⟨w7.heap.size + 1, 0, none⟩, 1, [⟨#[99, 97, 112]⟩]⟩, Lib.hid (HIO.out.ok_tags _ _ _ (by decide) (by decide)), HQ.out _, HX10.out.put 3 _ rfl, HTb.out.set HX10.out it_ty⟩
          · go_wp2_with fail
            go_meet
            exact ⟨⟨id, ce, ma, some ⟨w7.heap.size + 2, 0, none⟩, 2, [⟨#[99, 97, 112]⟩, ⟨#[104, 97, 116]⟩]⟩, Lib.hid (HIO.out.ok_tags _ _ _ (by decide) (by decide)), HQ.out _, HX10.out.put 3 _ rfl, HTc.out.set HX10.out it_ty⟩
          · go_wp2_with fail
            go_meet
            exact ⟨⟨id, ce, ma, some ⟨w7.heap.size + 3, 0, none⟩, 1, [⟨#[115, 104, 111, 101]⟩]⟩, Lib.hid (HIO.out.ok_tags _ _ _ (by decide) (by decide)), HQ.out _, HX10.out.put 3 _ rfl, HTe.out.set HX10.out it_ty⟩
      case rest =>
      clear HX7 HP7 HIO
      obtain ⟨y, HYO, hP, hX, hT⟩ := hcut
      have HP := Lib.hid hP
      have HX := Lib.hid hX
      have HT := Lib.hid hT
      clear hP hX hT
      have c0 := HP.out.box.cell 0 _ rfl
      obtain ⟨yk, yc, ym, yv, ytc, yt⟩ := y
      obtain ⟨x0, x1, x2, x3⟩ := HX.out.xb.at4
      have own3 := HP.out.its.1.1
      have hw3 := HP.out.its.size
      rw [hll.out] at own3
      go_wp2_with (at_builtin; refine wpList_append_own _ rfl _ _ 28 rfl (q + 1) 60 i0 _ 4 56 Tryz.underlying28 hi hz0 hz1 hz2 rfl (by decide) _ _ _ rfl (own3.alloc _) ⟨wc.heap.size, 0, none⟩ 1 1 [.string yk, .int .i64 yc, .int .i64 ym, .slice yv yt.length ytc] rfl rfl ?c1 ?c2 ?c3 ?c4 ?c5 ?_)
      first | (case c1 => exact cells_new wc #[.string yk, .int .i64 yc, .int .i64 ym, .slice yv yt.length ytc] 60) | skip
      case c2 => simp [Value.oneCell']
      case c3 => unfold maxLen; omega
      case c4 => omega
      case c5 => first | (simp; done) | (simp; omega) | omega
      intro v2 w8 own8 hgrow8 hne8
      rw [← hll.out] at own8
      obtain ⟨g9, cap9, rfl⟩ : ∃ g9 cap9, v2 = .slice (some ⟨g9, 0, none⟩) (l.length + 1) cap9 := by
        rcases own8.2 with ⟨_, h0⟩ | ⟨g9, cap9, cu9, e, _⟩
        · omega
        · exact ⟨g9, cap9, e⟩
      obtain ⟨d0, d1, hP8⟩ := HP.out.app (x := ⟨yk, yc, ym, yv, ytc, yt⟩) HT.out own8 hgrow8
      have HP8 := Lib.hid hP8
      clear hne8 own8 hgrow8 HP own3 hP8 c0 x0 x1 x2 x3
      go_wp2_with fail
      go_roundw
      case rel => exact ⟨k + 1, .slice (some ⟨g9, 0, none⟩) (l.length + 1) cap9, l ++ [⟨yk, yc, ym, yv, ytc, yt⟩], by omega, by go_num, by rw [List.length_append, hll.out]; rfl, Lib.hid (fun x hx => (by
          rcases List.mem_append.1 hx with hx | hx
          · exact HOK.out x hx
          · obtain rfl := List.mem_singleton.1 hx
            exact HYO.out)), HP8.out.mono (by omega)⟩
      case measure => simp [intOf]; omega
    · obtain rfl : k = n := by omega
      clear hlt hk
      go_wp2_with fail
      with_reducible refine (flip_any S _ _ _ s2 (by omega) (by omega)).mono ?_
      rintro e w3 ⟨b, rfl, k3, s3⟩
      have HP3 := Lib.hid (HP.out.draw k3 s3)
      clear HP k3 s2
      go_upto_if 46 with (fail)
      go_cut [] (fun wx => ∃ z : Int, -1 ≤ z ∧ z ≤ 1000000000001 ∧ BkW w S q0 q cur z l (K + 2 + 3 * k + 2) wx)
      case first =>
        cases b with
        | false =>
          go_wp2_with fail
          go_meet
          exact ⟨ship, by omega, by omega, HP3.out.mono (by omega)⟩
        | true =>
          go_wp2_with fail
          with_reducible refine (pick_at S _ [-1, 1000000000001, 0] 3 _ _ _ _ s3 (by omega) rfl (by omega) (by omega) (by simp) (by simp)).mono ?_
          rintro e w5 ⟨z, hm, rfl, k5, s5⟩
          have hz : -1 ≤ z ∧ z ≤ 1000000000001 := by
            simp only [List.mem_cons, List.mem_nil_iff, or_false] at hm
            omega
          have HP5 := Lib.hid (HP3.out.draw k5 s5)
          clear HP3 k5 s5 hm
          have c1 := HP5.out.box.cell 1 _ rfl
          have f1 := HP5.out.box.free 1
          go_wp2_with fail
          go_meet
          exact ⟨z, hz.1, hz.2, HP5.out.setShip z⟩
      case rest =>
      clear HP3 s3 hsh0 hsh1
      obtain ⟨z, hz0', hz1', hP⟩ := hcut
      have HP := Lib.hid hP
      have s4 := hP.strm
      clear hP
      go_wp2_with fail
      with_reducible refine (flip_any S _ _ _ s4 (by omega) (by omega)).mono ?_
      rintro e w5 ⟨b, rfl, k5, s5⟩
      have HP5 := Lib.hid (HP.out.draw k5 s5)
      clear HP k5 s4
      have hl4 := Lib.hid (show l.length ≤ 4 by have := hll.out; omega)
      have HG := Lib.hid (fun (u v : Value) => HP5.out.done (K' := K + 30) (by omega) hl4.out HOK.out hz0' hz1' u v)
      have hqn : q0 ≠ q := by omega
      have c0 := HP5.out.box.cell 0 _ rfl
      have c1 := HP5.out.box.cell 1 _ rfl
      have r0 := HP5.out.res.cell 0 _ rfl
      have r1 := HP5.out.res.cell 1 _ rfl
      have rf0 := HP5.out.res.free 0
      have rf1 := HP5.out.res.free 1
      rcases HP5.out.its.1.1.2 with ⟨rfl, h0⟩ | ⟨g, cap, cu, rfl, hbg, hg, hnc, hcm, hcs, htake⟩
      · cases b <;> (go_wp2_with fail; refine bodyPost_ret (v := .agg #[.slice none 0 0, .int .i64 z]) (by simp [results, Tryz.results6, go_sem, r0, r1]) rfl ?_; exact HG.out _ _)
      · clear hg hcs htake
        rw [hll.out] at hnc HG HP5 c0
        cases b with
        | false =>
          go_wp2_with fail
          refine bodyPost_ret (v := .agg #[.slice (some ⟨g, 0, none⟩) k cap, .int .i64 z]) (by simp [results, Tryz.results6, go_sem, r0, r1]) rfl ?_
          exact HG.out _ _
        | true =>
          by_cases hk0 : k = 0
          · subst hk0
            go_wp2_with fail
            refine bodyPost_ret (v := .agg #[.slice (some ⟨g, 0, none⟩) 0 cap, .int .i64 z]) (by simp [results, Tryz.results6, go_sem, r0, r1]) rfl ?_
            exact HG.out _ _
          · have hlp : 0 < k := by omega
            clear HG c1 r0 r1 rf0 rf1
            have hSq : S.g < q := by have := HP5.out.lt; have := HP5.out.hS; omega
            go_upto_region 12 with (fail)
            have sd := HP5.out.drew.strm
            have HPd := Lib.hid HP5.out.drew
            clear HP5
            have hkp : (1 : Int) ≤ (k : Int) := by omega
            have CN := Lib.hid (next_any S _ (k : Int) _ sd (by omega) (by omega))
            go_region_held3 (fun w' => w'.cell? ⟨q, 0, none⟩ = some (.slice (some ⟨g, 0, none⟩) k cap))
              (first | go_keep | (refine k6_cell k6 ?_ hSq <;> first | assumption | (go_simp; done)))
              (first | (go_at_call 21; (with_reducible refine CN.out.mono ?_); rintro e w6 ⟨r, hr, rfl, k6, s6⟩; obtain ⟨hr0, hr1, hr9⟩ := hr; have hr2 := hr1 hkp; obtain ⟨j, rfl⟩ := Int.eq_ofNat_of_zero_le hr0; have hjk := Int.ofNat_lt.1 hr2))
            have hj : j < k := hjk
            have HP6 := Lib.hid (HPd.out.draw k6 s6)
            clear hr0 hr1 hr2 hr9 hjk HPd k6 sd CN
            go_wp2_with fail
            with_reducible refine (next_any S _ _ _ s6 (by omega) (by omega)).mono ?_
            rintro e w7 ⟨r, ⟨hr0, hr1, -⟩, rfl, k7, s7⟩
            have hr2 := hr1 (by omega)
            have HP7 := Lib.hid (HP6.out.draw k7 s7)
            clear hr1 HP6 k7 s6
            have hjl : j < l.length := by have := hll.out; omega
            have HX := Lib.hid (HOK.out l[j] (List.getElem_mem hjl))
            have HTG := Lib.hid (fun (w' : World) (h : ∀ x ∈ l, TgF w' S x.tv x.tags) => h l[j] (List.getElem_mem hjl))
            have hfl := Lib.hid (fun (x : It) (_ : x ∈ l) => x.len)
            rcases (show r = 0 ∨ r = 1 ∨ r = 2 ∨ r = 3 by omega) with rfl | rfl | rfl | rfl
            · go_wp2_with fail
              with_reducible refine (one_at S _ [⟨#[]⟩, ⟨#[105, 97]⟩, ⟨#[73]⟩] 3 _ _ _ _ s7 (by omega) rfl (by omega) (by omega) (by simp) (by simp)).mono ?_
              rintro e w8 ⟨z2, hm, rfl, k8, s8⟩
              have hz2 : z2.size ≤ 100 := by
                simp only [List.mem_cons, List.mem_nil_iff, or_false] at hm
                rcases hm with rfl | rfl | rfl <;> decide
              have HP8 := Lib.hid (HP7.out.draw k8 s8)
              clear HP7 k8 s7 hm
              have e0 := HP8.out.box.cell 0 _ rfl
              have e1 := HP8.out.box.cell 1 _ rfl
              have r0 := HP8.out.res.cell 0 _ rfl
              have r1 := HP8.out.res.cell 1 _ rfl
              have rf0 := HP8.out.res.free 0
              have rf1 := HP8.out.res.free 1
              have c0 := HP8.out.its.cell (j := j) (i := 0) hll.out hfl.out hjl (by omega) (u := .string l[j].key) rfl
              have f0 := HP8.out.its.free hll.out (j * 4 + 0)
              simp only [Nat.add_zero] at c0 f0
              have hgq : g ≠ q := by have := (HP8.out.its.1.1.lt g (by simp [Value.ownBlock])).1; omega
              have hgq0 : g ≠ q0 := by have := (HP8.out.its.1.1.lt g (by simp [Value.ownBlock])).1; have := HP8.out.lt; omega
              have HS := Lib.hid (HP8.out.put (j := j) (i := 0) (u := .string z2) (x' := { l[j] with key := z2 }) hll.out hjl (by omega) rfl (HTG.out _ HP8.out.its.2))
              simp only [Nat.add_zero] at HS
              have HG := Lib.hid (fun (u v : Value) => HS.out.done (K' := K + 30) (by omega) (by rw [List.length_set]; exact hl4.out) (iok_set HOK.out (HX.out.ok_key z2 hz2)) hz0' hz1' u v)
              clear HP8 HS
              go_wp2_with fail
              refine bodyPost_ret (v := .agg #[.slice (some ⟨g, 0, none⟩) k cap, .int .i64 z]) (by simp [results, Tryz.results6, go_sem, r0, r1]) rfl ?_
              exact HG.out _ _
            · go_wp2_with fail
              with_reducible refine (pick_at S _ [-1, 10000001] 2 _ _ _ _ s7 (by omega) rfl (by omega) (by omega) (by simp) (by simp)).mono ?_
              rintro e w8 ⟨z2, hm, rfl, k8, s8⟩
              have hz2 : -1 ≤ z2 ∧ z2 ≤ 10000001 := by
                simp only [List.mem_cons, List.mem_nil_iff, or_false] at hm
                omega
              have HP8 := Lib.hid (HP7.out.draw k8 s8)
              clear HP7 k8 s7 hm
              have e0 := HP8.out.box.cell 0 _ rfl
              have e1 := HP8.out.box.cell 1 _ rfl
              have r0 := HP8.out.res.cell 0 _ rfl
              have r1 := HP8.out.res.cell 1 _ rfl
              have rf0 := HP8.out.res.free 0
              have rf1 := HP8.out.res.free 1
              have c1 := HP8.out.its.cell (j := j) (i := 1) hll.out hfl.out hjl (by omega) (u := .int .i64 l[j].cents) rfl
              have f1 := HP8.out.its.free hll.out (j * 4 + 1)
              have hgq : g ≠ q := by have := (HP8.out.its.1.1.lt g (by simp [Value.ownBlock])).1; omega
              have hgq0 : g ≠ q0 := by have := (HP8.out.its.1.1.lt g (by simp [Value.ownBlock])).1; have := HP8.out.lt; omega
              have HS := Lib.hid (HP8.out.put (j := j) (i := 1) (u := .int .i64 z2) (x' := { l[j] with cents := z2 }) hll.out hjl (by omega) rfl (HTG.out _ HP8.out.its.2))
              have HG := Lib.hid (fun (u v : Value) => HS.out.done (K' := K + 30) (by omega) (by rw [List.length_set]; exact hl4.out) (iok_set HOK.out (HX.out.ok_cents z2 (by omega) (by omega))) hz0' hz1' u v)
              clear HP8 HS
              go_wp2_with fail
              refine bodyPost_ret (v := .agg #[.slice (some ⟨g, 0, none⟩) k cap, .int .i64 z]) (by simp [results, Tryz.results6, go_sem, r0, r1]) rfl ?_
              exact HG.out _ _
            · go_wp2_with fail
              with_reducible refine (pick_at S _ [0, 101] 2 _ _ _ _ s7 (by omega) rfl (by omega) (by omega) (by simp) (by simp)).mono ?_
              rintro e w8 ⟨z2, hm, rfl, k8, s8⟩
              have hz2 : 0 ≤ z2 ∧ z2 ≤ 101 := by
                simp only [List.mem_cons, List.mem_nil_iff, or_false] at hm
                omega
              have HP8 := Lib.hid (HP7.out.draw k8 s8)
              clear HP7 k8 s7 hm
              have e0 := HP8.out.box.cell 0 _ rfl
              have e1 := HP8.out.box.cell 1 _ rfl
              have r0 := HP8.out.res.cell 0 _ rfl
              have r1 := HP8.out.res.cell 1 _ rfl
              have rf0 := HP8.out.res.free 0
              have rf1 := HP8.out.res.free 1
              have c2 := HP8.out.its.cell (j := j) (i := 2) hll.out hfl.out hjl (by omega) (u := .int .i64 l[j].many) rfl
              have f2 := HP8.out.its.free hll.out (j * 4 + 2)
              have hgq : g ≠ q := by have := (HP8.out.its.1.1.lt g (by simp [Value.ownBlock])).1; omega
              have hgq0 : g ≠ q0 := by have := (HP8.out.its.1.1.lt g (by simp [Value.ownBlock])).1; have := HP8.out.lt; omega
              have HS := Lib.hid (HP8.out.put (j := j) (i := 2) (u := .int .i64 z2) (x' := { l[j] with many := z2 }) hll.out hjl (by omega) rfl (HTG.out _ HP8.out.its.2))
              have HG := Lib.hid (fun (u v : Value) => HS.out.done (K' := K + 30) (by omega) (by rw [List.length_set]; exact hl4.out) (iok_set HOK.out (HX.out.ok_many z2 (by omega) (by omega))) hz0' hz1' u v)
              clear HP8 HS
              go_wp2_with fail
              refine bodyPost_ret (v := .agg #[.slice (some ⟨g, 0, none⟩) k cap, .int .i64 z]) (by simp [results, Tryz.results6, go_sem, r0, r1]) rfl ?_
              exact HG.out _ _
            · go_wp2_with fail
              generalize hW : (((w7.alloc (.cells #[.string ⟨#[98]⟩, .string ⟨#[97]⟩] 9)).alloc (.cells #[.string ⟨#[]⟩] 9)).alloc (.cells #[.string ⟨#[120]⟩, .string ⟨#[120]⟩] 9)).alloc (.cells #[.slice (some ⟨w7.heap.size, 0, none⟩) 2 2, .slice (some ⟨w7.heap.size + 1, 0, none⟩) 1 1, .slice (some ⟨w7.heap.size + 2, 0, none⟩) 2 2] 35) = w9
              have hgs := strm_lt HP7.out.strm
              have HT : Hid (TgF w9 S (some ⟨w7.heap.size, 0, none⟩) [⟨#[98]⟩, ⟨#[97]⟩] ∧ TgF w9 S (some ⟨w7.heap.size + 1, 0, none⟩) [⟨#[]⟩] ∧ TgF w9 S (some ⟨w7.heap.size + 2, 0, none⟩) [⟨#[120]⟩, ⟨#[120]⟩] ∧ OB w9 (w7.heap.size + 3) [.slice (some ⟨w7.heap.size, 0, none⟩) 2 2, .slice (some ⟨w7.heap.size + 1, 0, none⟩) 1 1, .slice (some ⟨w7.heap.size + 2, 0, none⟩) 2 2] 35) := by
                rw [← hW]
                have h := tags3 hgs [⟨#[98]⟩, ⟨#[97]⟩] [⟨#[]⟩] [⟨#[120]⟩, ⟨#[120]⟩] [.slice (some ⟨w7.heap.size, 0, none⟩) 2 2, .slice (some ⟨w7.heap.size + 1, 0, none⟩) 1 1, .slice (some ⟨w7.heap.size + 2, 0, none⟩) 2 2] 35
                exact Lib.hid ⟨h.1, h.2.1, h.2.2.1, h.2.2.2⟩
              have HP9 : Hid (BkW w S q0 q (.slice (some ⟨g, 0, none⟩) k cap) z l (K + 2 + 3 * k + 1 + 1 + 1 + 1 + 1) w9) := by
                rw [← hW]
                exact Lib.hid ((((HP7.out.alloc _).alloc _).alloc _).alloc _)
              clear hW HP7
              have s9 := HP9.out.strm
              with_reducible refine (next_any S _ _ _ s9 (by omega) (by omega)).mono ?_
              rintro e w10 ⟨r, ⟨hr0, hr1, -⟩, rfl, k10, s10⟩
              have hr2 := hr1 (by omega)
              have HP10 := Lib.hid (HP9.out.draw k10 s10)
              have HTa := Lib.hid (HT.out.1.draw k10)
              have HTb := Lib.hid (HT.out.2.1.draw k10)
              have HTc := Lib.hid (HT.out.2.2.1.draw k10)
              have HTd := Lib.hid (HT.out.2.2.2.grown k10 (by simp; omega))
              clear HT HP9 k10 s9 hr1
              have d0 := HTd.out.cell 0 _ rfl
              have d1 := HTd.out.cell 1 _ rfl
              have d2 := HTd.out.cell 2 _ rfl
              have dl := HTd.out.lt
              rcases (show r = 0 ∨ r = 1 ∨ r = 2 by omega) with rfl | rfl | rfl
              · have e0 := HP10.out.box.cell 0 _ rfl
                have e1 := HP10.out.box.cell 1 _ rfl
                have r0 := HP10.out.res.cell 0 _ rfl
                have r1 := HP10.out.res.cell 1 _ rfl
                have rf0 := HP10.out.res.free 0
                have rf1 := HP10.out.res.free 1
                have c3 := HP10.out.its.cell (j := j) (i := 3) hll.out hfl.out hjl (by omega) (u := .slice l[j].tv l[j].tags.length l[j].tc) rfl
                have f3 := HP10.out.its.free hll.out (j * 4 + 3)
                have hgq : g ≠ q := by have := (HP10.out.its.1.1.lt g (by simp [Value.ownBlock])).1; omega
                have hgq0 : g ≠ q0 := by have := (HP10.out.its.1.1.lt g (by simp [Value.ownBlock])).1; have := HP10.out.lt; omega
                have HS := Lib.hid (HP10.out.put (j := j) (i := 3) (u := .slice (some ⟨w7.heap.size, 0, none⟩) 2 2) (x' := { l[j] with tv := some ⟨w7.heap.size, 0, none⟩, tc := 2, tags := [⟨#[98]⟩, ⟨#[97]⟩] }) hll.out hjl (by omega) rfl (HTa.out))
                have HG := Lib.hid (fun (u v : Value) => HS.out.done (K' := K + 30) (by omega) (by rw [List.length_set]; exact hl4.out) (iok_set HOK.out (HX.out.ok_tags _ _ _ (by decide) (by decide))) hz0' hz1' u v)
                clear HP10 HS
                go_wp2_with fail
                refine bodyPost_ret (v := .agg #[.slice (some ⟨g, 0, none⟩) k cap, .int .i64 z]) (by simp [results, Tryz.results6, go_sem, r0, r1]) rfl ?_
                exact HG.out _ _
              · have e0 := HP10.out.box.cell 0 _ rfl
                have e1 := HP10.out.box.cell 1 _ rfl
                have r0 := HP10.out.res.cell 0 _ rfl
                have r1 := HP10.out.res.cell 1 _ rfl
                have rf0 := HP10.out.res.free 0
                have rf1 := HP10.out.res.free 1
                have c3 := HP10.out.its.cell (j := j) (i := 3) hll.out hfl.out hjl (by omega) (u := .slice l[j].tv l[j].tags.length l[j].tc) rfl
                have f3 := HP10.out.its.free hll.out (j * 4 + 3)
                have hgq : g ≠ q := by have := (HP10.out.its.1.1.lt g (by simp [Value.ownBlock])).1; omega
                have hgq0 : g ≠ q0 := by have := (HP10.out.its.1.1.lt g (by simp [Value.ownBlock])).1; have := HP10.out.lt; omega
                have HS := Lib.hid (HP10.out.put (j := j) (i := 3) (u := .slice (some ⟨w7.heap.size + 1, 0, none⟩) 1 1) (x' := { l[j] with tv := some ⟨w7.heap.size + 1, 0, none⟩, tc := 1, tags := [⟨#[]⟩] }) hll.out hjl (by omega) rfl (HTb.out))
                have HG := Lib.hid (fun (u v : Value) => HS.out.done (K' := K + 30) (by omega) (by rw [List.length_set]; exact hl4.out) (iok_set HOK.out (HX.out.ok_tags _ _ _ (by decide) (by decide))) hz0' hz1' u v)
                clear HP10 HS
                go_wp2_with fail
                refine bodyPost_ret (v := .agg #[.slice (some ⟨g, 0, none⟩) k cap, .int .i64 z]) (by simp [results, Tryz.results6, go_sem, r0, r1]) rfl ?_
                exact HG.out _ _
              · have e0 := HP10.out.box.cell 0 _ rfl
                have e1 := HP10.out.box.cell 1 _ rfl
                have r0 := HP10.out.res.cell 0 _ rfl
                have r1 := HP10.out.res.cell 1 _ rfl
                have rf0 := HP10.out.res.free 0
                have rf1 := HP10.out.res.free 1
                have c3 := HP10.out.its.cell (j := j) (i := 3) hll.out hfl.out hjl (by omega) (u := .slice l[j].tv l[j].tags.length l[j].tc) rfl
                have f3 := HP10.out.its.free hll.out (j * 4 + 3)
                have hgq : g ≠ q := by have := (HP10.out.its.1.1.lt g (by simp [Value.ownBlock])).1; omega
                have hgq0 : g ≠ q0 := by have := (HP10.out.its.1.1.lt g (by simp [Value.ownBlock])).1; have := HP10.out.lt; omega
                have HS := Lib.hid (HP10.out.put (j := j) (i := 3) (u := .slice (some ⟨w7.heap.size + 2, 0, none⟩) 2 2) (x' := { l[j] with tv := some ⟨w7.heap.size + 2, 0, none⟩, tc := 2, tags := [⟨#[120]⟩, ⟨#[120]⟩] }) hll.out hjl (by omega) rfl (HTc.out))
                have HG := Lib.hid (fun (u v : Value) => HS.out.done (K' := K + 30) (by omega) (by rw [List.length_set]; exact hl4.out) (iok_set HOK.out (HX.out.ok_tags _ _ _ (by decide) (by decide))) hz0' hz1' u v)
                clear HP10 HS
                go_wp2_with fail
                refine bodyPost_ret (v := .agg #[.slice (some ⟨g, 0, none⟩) k cap, .int .i64 z]) (by simp [results, Tryz.results6, go_sem, r0, r1]) rfl ?_
                exact HG.out _ _
theorem basket_any (S : SC) (K : Nat) (w : World) (s0 : Strm w S K) (hK : K ≤ 6000) :
    Calls Tryz.prog 6 #[S.p] w (GenBk S (K + 30) w) :=
  (basket_own S K w s0 hK).mono fun _ _ ⟨a, c, l, sh, h1, h2, h3, h4, h5, h6, h7, h8, h9, h10, h11, _, _⟩ => ⟨a, c, l, sh, h1, h2, h3, h4, h5, h6, h7, h8, h9, h10, h11⟩
end Go.Proofs.YtdefjnefkdemiaaGreatDoor
