/- offer.price (printed by gen_price.py). -/
import Derived.Test.YtdefjnefkdemiaaGreatDoorApply
import Derived.Test.YtdefjnefkdemiaaGreatDoorM3
import Derived.BigRegion
set_option linter.unusedVariables false
namespace Go.Proofs.YtdefjnefkdemiaaGreatDoor
open Go.RowKit Go.Sort

def TkC (x : ByteArray × Int) : List Value := [.string x.1, .int .i64 x.2]
theorem TkC_len (x : ByteArray × Int) : (TkC x).length = 2 := rfl
theorem infoTk : (Tryz.prog.info? 79).map (fun i => (i.zero, i.size, i.bytes)) = some (some (.agg #[.string ⟨#[]⟩, .int .i64 0]), 2, 24) := by kernel_rfl
/-- what is left of a basket, as it lies in memory, in blocks from b on -/
def PrcAt (w : World) (b : Nat) (v : Value) (s : PrS) : Prop := ∃ la cl lc cc, v = .agg #[.slice la s.left.length cl, .int .i64 (s.ship : Int), .slice lc s.cuts.length cc, .int .i64 ((s.ship + s.left.sum : Nat) : Int)] ∧ natsAt w la s.left ∧ RAt w lc 2 TkC s.cuts ∧ s.left.length ≤ cl ∧ s.cuts.length ≤ cc ∧ (∀ p off, la = some ⟨p, off, none⟩ → b ≤ p) ∧ (∀ p off, lc = some ⟨p, off, none⟩ → b ≤ p)
theorem PrcAt.below {w w' : World} {b : Nat} {v : Value} {s : PrS} (h : PrcAt w b v s) (hb : Below w.heap.size w w') : PrcAt w' b v s := by
  obtain ⟨la, cl, lc, cc, e, h1, h2, h3, h4, h5, h6⟩ := h
  exact ⟨la, cl, lc, cc, e, h1.below hb, h2.below hb, h3, h4, h5, h6⟩
theorem PrcAt.grown {w w' : World} {b g : Nat} {v : Value} {s : PrS} (h : PrcAt w b v s) (hb : w.grownBy w' (some g)) (hg : g < b) : PrcAt w' b v s := by
  obtain ⟨la, cl, lc, cc, e, h1, h2, h3, h4, h5, h6⟩ := h
  exact ⟨la, cl, lc, cc, e, IntsAt.grown h1 hb (fun p off hp => by have := h5 p off hp; omega), h2.grown hb (fun p off hp => by have := h6 p off hp; omega), h3, h4, h5, h6⟩
theorem PrcAt.mono {w : World} {b b' : Nat} {v : Value} {s : PrS} (h : PrcAt w b v s) (hb : b' ≤ b) : PrcAt w b' v s := by
  obtain ⟨la, cl, lc, cc, e, h1, h2, h3, h4, h5, h6⟩ := h
  exact ⟨la, cl, lc, cc, e, h1, h2, h3, h4, fun p off hp => Nat.le_trans hb (h5 p off hp), fun p off hp => Nat.le_trans hb (h6 p off hp)⟩
theorem s3_set {w : World} {a b c p : Addr} {x y z u : Value} (k : w.cell? a = some x ∧ w.cell? b = some y ∧ w.cell? c = some z) (ha : a.block ≠ p.block) (hb : b.block ≠ p.block) (hc : c.block ≠ p.block) : (w.setCell p u).cell? a = some x ∧ (w.setCell p u).cell? b = some y ∧ (w.setCell p u).cell? c = some z :=
  s3_grown (grown_set (grown_same w (some p.block)) (.inl rfl) u) k (by simpa using ha) (by simpa using hb) (by simpa using hc)
theorem own_grown {w w' : World} {b0 C n : Nat} {t : TypeId} {v : Value} {xs : List Value} {row : Option Nat} (own : w.ownsRow b0 t C v n xs) (hb : w.grownBy w' row) (h : ∀ g, v.ownBlock = some g → row ≠ some g) : w'.ownsRow b0 t C v n xs := by
  refine own.kept hb ?_
  cases hv : v.ownBlock with
  | none => exact .inl rfl
  | some g => exact .inr (fun e => h g hv e.symm)
theorem grown_set3 (w : World) (q i j k : Nat) (a b c : Value) : w.grownBy (((w.setCell ⟨q, i, none⟩ a).setCell ⟨q, j, none⟩ b).setCell ⟨q, k, none⟩ c) (some q) := grown_set (p := ⟨q, k, none⟩) (grown_set (p := ⟨q, j, none⟩) (grown_set (p := ⟨q, i, none⟩) (grown_same w _) (.inl rfl) a) (.inl rfl) b) (.inl rfl) c
theorem grown_set4 (w : World) (q : Nat) (a b c d : Value) : w.grownBy ((((w.setCell ⟨q, 0, none⟩ a).setCell ⟨q, 1, none⟩ b).setCell ⟨q, 2, none⟩ c).setCell ⟨q, 3, none⟩ d) (some q) := grown_set (p := ⟨q, 3, none⟩) (grown_set3 w q 0 1 2 a b c) (.inl rfl) d
theorem own_rat {α : Type} {w : World} {b0 C n c : Nat} {t : TypeId} {a : Option Addr} {f : α → List Value} {l : List α} (h : w.ownsRow b0 t C (.slice a n c) n (l.flatMap f)) (hn : l.length = n) (hf : ∀ x ∈ l, (f x).length = C) : RAt w a C f l := by
  subst hn
  obtain ⟨a', c', e, hR, -, -⟩ := RAt.of_own h hf
  injection e with e1 e2 e3
  subst e1
  exact hR
theorem line_bd {y : It} (h : itB y = true) : 0 ≤ y.cents * y.many ∧ y.cents * y.many ≤ 1000000000 := it_mul h

set_option maxRecDepth 100000 in
set_option maxHeartbeats 16000000 in
theorem price_any (a : Option Addr) (l : List Of) (n c : Nat) (ai : Option Addr) (li : List It) (ni ci sp : Nat) (w : World) (hn : l.length = n) (hn1 : n ≤ 12) (hI : RAt w a 12 Of.cells l) (hTG : TagsAt Of.tv Of.tags w l) (hok : ∀ x ∈ l, x.ok) (hof : ∀ x ∈ l, ofB x = true)
    (hni : li.length = ni) (hni1 : ni < 20) (hIi : RAt w ai 4 It.cells li) (hTi : TagsAt It.tv It.tags w li) (hoki : ∀ y ∈ li, y.ok) (hit : ∀ y ∈ li, itB y = true) (hs : sp ≤ 1000000000000) :
    Calls Tryz.prog 32 #[.slice a n c, .agg #[.slice ai ni ci, .int .i64 (sp : Nat)]] w fun e w' => ∃ v, e = .returned v ∧ PrcAt w' w.heap.size v (goP li (startP li sp) (srtO l) n) ∧ Below w.heap.size w w' := by
  obtain ⟨i0, hi, hz0, hz1, hz2⟩ := info_parts infoP_int
  obtain ⟨j0, hj, hy0, hy1, hy2⟩ := info_parts infoTk
  have HNI := Lib.hid hni
  have HIi := Lib.hid hIi
  have HIT := Lib.hid hit
  have CO := Lib.hid (fun w' (hbl : Below w.heap.size w w') => ordered_any a l n c w' hn hn1 (hI.below hbl))
  have HSL := Lib.hid ((srtO_len l).trans hn)
  have HINV := Lib.hid ((PrI.start li sp hit).go li (srtO l))
  obtain ⟨s0, hs0⟩ : ∃ s, startP li sp = s := ⟨_, rfl⟩
  have HS0 : Hid (s0.left = li.map (fun y => (y.cents * y.many).toNat) ∧ s0.ship = sp ∧ s0.cuts = []) := Lib.hid (by rw [← hs0]; exact ⟨rfl, rfl, rfl⟩)
  have HSTEP := Lib.hid (fun k hk => goP_succ li s0 (srtO l) k hk)
  have HCA := Lib.hid (fun (x : Of) (w' : World) (q la left cl sh b0 tq) (hx : x ∈ srtO l) (hbl : Below w.heap.size w w') (hQ : OB w' q [.slice ai ni ci, .int .i64 (sp : Int), .slice la ni cl, .int .i64 (sh : Nat)] tq) (hO : w'.ownsRow b0 3 1 (.slice la ni cl) ni (natV left)) (hq : q < b0) (hlen : left.length = ni) (hb : ∀ z ∈ left, z ≤ 1000000000) (hsh : sh ≤ 1000000000000) =>
    apply_any x q ai li ni ci sp la left cl sh b0 tq w' (hok x ((srtO_mem l x).1 hx)) (hof x ((srtO_mem l x).1 hx)) ((hTG x ((srtO_mem l x).1 hx)).below hbl) hQ hO hq hni hlen hni1 (hIi.below hbl) (hTi.below hbl) hoki hit hb hsh)
  rw [hs0] at HINV ⊢
  clear hn hI hTG hok hof hni hIi hTi hoki hit hs0
  have HY0 := Lib.hid (((XB.new w [.slice ai ni ci, .int .i64 (sp : Nat)] 30).alloc (.cells #[.slice none 0 0, .int .i64 0, .slice none 0 0, .int .i64 0] 42)).alloc (.cells #[.slice ai ni ci, .int .i64 (sp : Int), .slice none 0 0, .int .i64 (sp : Int)] 90))
  have HZ0 := Lib.hid ((OB.new (w.alloc (.cells #[.slice ai ni ci, .int .i64 (sp : Nat)] 30)) [.slice none 0 0, .int .i64 0, .slice none 0 0, .int .i64 0] 42).alloc (.cells #[.slice ai ni ci, .int .i64 (sp : Int), .slice none 0 0, .int .i64 (sp : Int)] 90))
  have HQ0 := Lib.hid (OB.new ((w.alloc (.cells #[.slice ai ni ci, .int .i64 (sp : Nat)] 30)).alloc (.cells #[.slice none 0 0, .int .i64 0, .slice none 0 0, .int .i64 0] 42)) [.slice ai ni ci, .int .i64 (sp : Int), .slice none 0 0, .int .i64 (sp : Int)] 90)
  have HB0 := Lib.hid ((((Below.refl w.heap.size w).alloc (Nat.le_refl _) (.cells #[.slice ai ni ci, .int .i64 (sp : Nat)] 30)).alloc (by simp) (.cells #[.slice none 0 0, .int .i64 0, .slice none 0 0, .int .i64 0] 42)).alloc (by simp; omega) (.cells #[.slice ai ni ci, .int .i64 (sp : Int), .slice none 0 0, .int .i64 (sp : Int)] 90))
  simp only [List.toArray] at HY0 HZ0 HQ0
  have hz1' : (w.alloc (.cells #[.slice ai ni ci, .int .i64 (sp : Nat)] 30)).heap.size = w.heap.size + 1 := by simp
  have hz2' : ((w.alloc (.cells #[.slice ai ni ci, .int .i64 (sp : Nat)] 30)).alloc (.cells #[.slice none 0 0, .int .i64 0, .slice none 0 0, .int .i64 0] 42)).heap.size = w.heap.size + 2 := by simp
  have hz3' : (((w.alloc (.cells #[.slice ai ni ci, .int .i64 (sp : Nat)] 30)).alloc (.cells #[.slice none 0 0, .int .i64 0, .slice none 0 0, .int .i64 0] 42)).alloc (.cells #[.slice ai ni ci, .int .i64 (sp : Int), .slice none 0 0, .int .i64 (sp : Int)] 90)).heap.size = w.heap.size + 3 := by simp
  obtain ⟨H, hH⟩ : ∃ H, w.heap.size = H := ⟨_, rfl⟩
  obtain ⟨qz, hqz⟩ : ∃ q, H + 1 = q := ⟨_, rfl⟩
  obtain ⟨q, hq⟩ : ∃ q, qz + 1 = q := ⟨_, rfl⟩
  rw [hz1', hH, hqz] at HZ0
  rw [hz2', hH, show H + 2 = q by omega] at HQ0
  rw [hH] at HY0 hz3'
  have HYa := Lib.hid ((XB.new w [.slice ai ni ci, .int .i64 (sp : Nat)] 30).alloc (.cells #[.slice none 0 0, .int .i64 0, .slice none 0 0, .int .i64 0] 42))
  simp only [List.toArray] at HYa
  rw [hH] at HYa
  have ya0 := HYa.out.2 0 _ rfl
  have ya1 := HYa.out.2 1 _ rfl
  have yal := HYa.out.1
  clear HYa
  have HQZ := Lib.hid hqz
  have HQQ := Lib.hid hq
  have HH := Lib.hid hH
  clear hz1' hz2'
  go_enter Tryz.func32, Tryz.ntmps32
  go_upto_region 2 with (fail)
  clear ya0 ya1 yal
  generalize ((w.alloc (.cells #[.slice ai ni ci, .int .i64 (sp : Nat)] 30)).alloc (.cells #[.slice none 0 0, .int .i64 0, .slice none 0 0, .int .i64 0] 42)).alloc (.cells #[.slice ai ni ci, .int .i64 (sp : Int), .slice none 0 0, .int .i64 (sp : Int)] 90) = w1 at *
  have HQR : Hid (q = H + 2 ∧ qz = H + 1) := Lib.hid (by omega)
  clear hH hqz hq
  have y0 := HY0.out.2 0 _ rfl
  have hyl := HY0.out.1
  go_wp2_with fail
  clear y0 hyl
  go_loopw [7, 21] (fun _ i wr => ∃ (k : Nat) (v : Value), k ≤ ni ∧ i = .int .i64 k ∧ OB wr q [.slice ai ni ci, .int .i64 (sp : Int), v, .int .i64 (sp : Int)] 90 ∧ wr.ownsRow (H + 3) 3 1 v k (natV (s0.left.take k)) ∧ OB wr qz [.slice none 0 0, .int .i64 0, .slice none 0 0, .int .i64 0] 42 ∧ Below w.heap.size w wr ∧ H + 3 ≤ wr.heap.size) (fun _ i _ => ni - (intOf i).toNat)
  case atStart => exact ⟨0, _, Nat.zero_le _, rfl, HQ0.out, World.ownsRow_nil _ _ _ _, HZ0.out, HB0.out, by omega⟩
  case round =>
    obtain ⟨k, v, hk, rfl, hQ, own, hZ, hB, hsz⟩ := hrel
    have HQ := Lib.hid hQ
    have HZ := Lib.hid hZ
    have HB := Lib.hid hB
    have HO := Lib.hid own
    clear HY0 HZ0 HQ0 HB0 hz3' hQ hZ own
    by_cases hlt : k < ni
    · have hkl : k < li.length := by have := HNI.out; omega
      obtain ⟨p2, off2, rfl, hp2, c0, c1, c2, c3⟩ := (HIi.out.below hB).at4 hkl (v0 := .string li[k].key) (v1 := .int .i64 li[k].cents) (v2 := .int .i64 li[k].many) (v3 := .slice li[k].tv li[k].tags.length li[k].tc) rfl
      have HLK : Hid (s0.left.take (k + 1) = s0.left.take k ++ [(li[k].cents * li[k].many).toNat]) := Lib.hid (by
        have hkz : k < s0.left.length := by rw [HS0.out.1]; simpa using hkl
        rw [List.take_succ_eq_append_getElem hkz]
        congr 1
        simp only [HS0.out.1, List.getElem_map])
      obtain ⟨l0, l9⟩ := line_bd (HIT.out li[k] (List.getElem_mem hkl))
      generalize li[k] = y at *
      obtain ⟨yk, yc, ym, yv, ytc, yt⟩ := y
      simp only at c0 c1 c2 c3 HLK l0 l9
      obtain ⟨z, hz⟩ : ∃ z : Nat, yc * ym = z := ⟨(yc * ym).toNat, by omega⟩
      rw [hz, Int.toNat_natCast] at HLK
      rw [hz] at l0 l9
      have HBa := Lib.hid (HB.out.alloc HB.out.size (.cells #[.string yk, .int .i64 yc, .int .i64 ym, .slice yv yt.length ytc] 60))
      have X0 := Lib.hid (XB.new wr [.string yk, .int .i64 yc, .int .i64 ym, .slice yv yt.length ytc] 60)
      have HQa := Lib.hid (HQ.out.alloc (.cells #[.string yk, .int .i64 yc, .int .i64 ym, .slice yv yt.length ytc] 60))
      have HZa := Lib.hid (HZ.out.alloc (.cells #[.string yk, .int .i64 yc, .int .i64 ym, .slice yv yt.length ytc] 60))
      have HOa := Lib.hid (own_below HO.out ((Below.refl _ _).alloc (Nat.le_refl _) (.cells #[.string yk, .int .i64 yc, .int .i64 ym, .slice yv yt.length ytc] 60)))
      have hsa : (wr.alloc (.cells #[.string yk, .int .i64 yc, .int .i64 ym, .slice yv yt.length ytc] 60)).heap.size = wr.heap.size + 1 := by simp
      simp only [List.toArray] at X0
      have HOB : Hid (∀ g, v.ownBlock = some g → H + 3 ≤ g ∧ g < wr.heap.size) := Lib.hid (fun g hg => HO.out.lt g hg)
      have hsz2 : H + 3 ≤ wr.heap.size := hsz
      clear hB HQ HZ HB HO hsz
      go_upto_region 5 with (fail)
      generalize wr.alloc (.cells #[.string yk, .int .i64 yc, .int .i64 ym, .slice yv yt.length ytc] 60) = w2 at *
      obtain ⟨qb, hqb⟩ : ∃ qb, wr.heap.size = qb := ⟨_, rfl⟩
      rw [hqb] at X0 HOB hsa hsz2
      try rw [hqb]
      clear c0 c1 c2 c3 hp2 hqb
      obtain ⟨y0, y1, y2, y3⟩ := X0.out.at4
      have hyl := X0.out.1
      have z2 := HQa.out.cell 2 _ rfl
      have f2 := HQa.out.free 2
      have hql := HQa.out.lt
      have hw9 : IntKind.i64.wrap (z : Int) = (z : Int) := by rw [IntKind.wrap_i64]; omega
      have HOd : Hid ((w2.alloc (.cells #[.int .i64 (z : Int)] 3)).drew.ownsRow (H + 3) 3 1 v k (natV (s0.left.take k))) := Lib.hid (own_below HOa.out ((Below.refl w2.heap.size w2).alloc (Nat.le_refl _) (.cells #[.int .i64 (z : Int)] 3)).drew)
      have HNW : Hid (∀ j u, ([.int .i64 (z : Int)] : List Value)[j]? = some u → (w2.alloc (.cells #[.int .i64 (z : Int)] 3)).drew.cell? ((⟨w2.heap.size, 0, none⟩ : Addr).add j) = some u) := Lib.hid (fun j u h => World.news_of_block (w := (w2.alloc (.cells #[.int .i64 (z : Int)] 3)).drew) (heap_alloc_new w2 (.cells #[.int .i64 (z : Int)] 3)) j u h)
      have HSd : Hid (H + 3 ≤ (w2.alloc (.cells #[.int .i64 (z : Int)] 3)).drew.heap.size) := Lib.hid (by
        have h : (w2.alloc (.cells #[.int .i64 (z : Int)] 3)).drew.heap.size = w2.heap.size + 1 := World.size_alloc _ _
        omega)
      have HON : Hid (∀ u ∈ ([.int .i64 (z : Int)] : List Value), u.oneCell' = true) := Lib.hid (by simp [Value.oneCell'])
      have HN1 : Hid (some qb ≠ v.ownBlock) := Lib.hid (fun e => by have := HOB.out qb e.symm; omega)
      have HN2 : Hid (some q ≠ v.ownBlock) := Lib.hid (fun e => by have := HOB.out q e.symm; have := HQR.out; omega)
      have HQd : Hid (OB (w2.alloc (.cells #[.int .i64 (z : Int)] 3)).drew q [.slice (some ⟨p2, off2, none⟩) ni ci, .int .i64 (sp : Int), v, .int .i64 (sp : Int)] 90) := Lib.hid (HQa.out.alloc _)
      have HZd : Hid (OB (w2.alloc (.cells #[.int .i64 (z : Int)] 3)).drew qz [.slice none 0 0, .int .i64 0, .slice none 0 0, .int .i64 0] 42) := Lib.hid (HZa.out.alloc _)
      have HBd := Lib.hid ((HBa.out.alloc HBa.out.size (.cells #[.int .i64 (z : Int)] 3)).drew)
      have hmy : k + 1 ≤ maxLen := by unfold maxLen; omega
      have hmb : (k + 1) * 8 ≤ 140737488355328 := by omega
      have za2 : (w2.alloc (.cells #[.int .i64 (z : Int)] 3)).cell? ⟨q, 2, none⟩ = some v := HQd.out.cell 2 _ rfl
      have hqn : ¬ (qb = q) := by have := HQR.out; omega
      go_region_law (refine step_append_lies (o := ⟨some 36, _, _, _, _, _⟩) _ rfl (.tmp 29) (.tmp 35) 22 rfl (H + 3) 3 i0 _ 1 8 Tryz.underlying22 hi hz0 hz1 hz2 rfl (by decide) v k (natV (s0.left.take k)) (by simp [Act.eval]) HOd.out ⟨w2.heap.size, 0, none⟩ 1 1 [.int .i64 (z : Int)] (by simp [Act.eval]) rfl HNW.out HON.out Nat.one_pos hmy hmb HSd.out _ rfl ?_; intro gq cq w8 own8 grow8 at8 lt8; have HQ8 := Lib.hid (HQd.out.grown grow8 HN2.out.symm); have q8 := HQ8.out.cell 2 _ rfl; have f8 := HQ8.out.free 2; have l8 := HQ8.out.lt)
      all_goals
        have HO9 : Hid (w8.ownsRow (H + 3) 3 1 (.slice (some ⟨gq, 0, none⟩) (k + 1) cq) (k + 1) (natV (s0.left.take (k + 1)))) := Lib.hid (by rw [HLK.out]; simpa [natV] using own8)
        have hg3 : H + 3 ≤ gq := (own8.lt gq (by simp [Value.ownBlock])).1
        have HQ9 := Lib.hid (HQ8.out.put (cs' := [.slice (some ⟨p2, off2, none⟩) ni ci, .int .i64 (sp : Int), .slice (some ⟨gq, 0, none⟩) (k + 1) cq, .int .i64 (sp : Int)]) 2 (.slice (some ⟨gq, 0, none⟩) (k + 1) cq) rfl)
        have HZ9 := Lib.hid ((HZd.out.grown grow8 (fun e => by have := HOB.out _ e; have := HQR.out; omega)).grown (grown_set (grown_same _ (some q)) (p := ⟨q, 2, none⟩) (.inl rfl) (.slice (some ⟨gq, 0, none⟩) (k + 1) cq)) (by have := HQR.out; simp; omega))
        have HB9 := Lib.hid ((HBd.out.grown grow8 HBd.out.size (fun g hg => by have := HOB.out g hg; have := HH.out; omega)).setCell (p := ⟨q, 2, none⟩) (by show w.heap.size ≤ q; have := HH.out; have := HQR.out; omega) (.slice (some ⟨gq, 0, none⟩) (k + 1) cq))
        have HS9 := Lib.hid (Nat.le_trans HSd.out grow8.size)
        have HOS := Lib.hid (own_grown HO9.out (grown_set (grown_same w8 (some q)) (p := ⟨q, 2, none⟩) (.inl rfl) (.slice (some ⟨gq, 0, none⟩) (k + 1) cq)) (fun g hg e => by injection e with e; have := (HO9.out.lt g hg).1; have := HQR.out; omega))
        clear own8 grow8 at8 lt8 HQd HZd HBd HOd HNW HSd HON HQ8 q8 f8 l8 HQa HZa HBa HOa X0 y0 y1 y2 y3 hyl z2 f2 hql za2 HO9
        go_wp2_with fail
        go_roundw
        case rel => exact ⟨k + 1, _, by omega, by go_num, HQ9.out, HOS.out, HZ9.out, HB9.out, by simpa [World.setCell] using HS9.out⟩
        case measure => simp [intOf]; omega
    · obtain rfl : k = ni := by omega
      have hl0 : s0.left.length = k := by rw [HS0.out.1]; simpa using HNI.out
      have HOw : Hid (wr.ownsRow (H + 3) 3 1 v k (natV s0.left)) := Lib.hid (by
        have h := HO.out
        rw [List.take_of_length_le (by omega)] at h
        exact h)
      obtain ⟨la, cl, hv, hcl, -⟩ := own_form HOw.out
      subst hv
      have HCL := Lib.hid hcl
      have HLB : Hid (∀ g, (Value.slice la k cl).ownBlock = some g → H + 3 ≤ g ∧ g < wr.heap.size) := Lib.hid (fun g hg => HOw.out.lt g hg)
      have HP0 := Lib.hid (OB.new wr [.slice none 0 0, .int .i64 0, .slice none 0 0, .int .i64 0] 42)
      have HQ0 := Lib.hid (HQ.out.alloc (.cells #[.slice none 0 0, .int .i64 0, .slice none 0 0, .int .i64 0] 42))
      have HZ0 := Lib.hid (HZ.out.alloc (.cells #[.slice none 0 0, .int .i64 0, .slice none 0 0, .int .i64 0] 42))
      have HO0 := Lib.hid (own_below HOw.out ((Below.refl _ _).alloc (Nat.le_refl _) (.cells #[.slice none 0 0, .int .i64 0, .slice none 0 0, .int .i64 0] 42)))
      have HB0 := Lib.hid (HB.out.alloc HB.out.size (.cells #[.slice none 0 0, .int .i64 0, .slice none 0 0, .int .i64 0] 42))
      have hsa : (wr.alloc (.cells #[.slice none 0 0, .int .i64 0, .slice none 0 0, .int .i64 0] 42)).heap.size = wr.heap.size + 1 := by simp
      simp only [List.toArray] at HP0
      have hsz2 : H + 3 ≤ wr.heap.size := hsz
      clear HO HOw HQ HZ HB hB hsz HIT hcl
      go_upto_region 8 with (fail)
      generalize wr.alloc (.cells #[.slice none 0 0, .int .i64 0, .slice none 0 0, .int .i64 0] 42) = w2 at *
      obtain ⟨qo, hqo⟩ : ∃ qo, wr.heap.size = qo := ⟨_, rfl⟩
      rw [hqo] at HP0 HLB hsa hsz2
      try rw [hqo]
      clear hqo
      go_wp2_with fail
      with_reducible refine (CO.out _ HB0.out).mono ?_
      rintro e w3 ⟨a2, c2, rfl, own2, b2⟩
      have HP3 := Lib.hid (HP0.out.below b2)
      have HQ3 := Lib.hid (HQ0.out.below b2)
      have HZ3 := Lib.hid (HZ0.out.below b2)
      have HO3 := Lib.hid (own_below HO0.out b2)
      have HB3 := Lib.hid (HB0.out.trans (b2.mono HB0.out.size))
      have HA3 := Lib.hid own2
      have HAB : Hid (∀ g, (Value.slice a2 n c2).ownBlock = some g → qo < g ∧ g < w3.heap.size) := Lib.hid (fun g hg => by have := own2.lt g hg; omega)
      obtain ⟨b4, hb4⟩ : ∃ b, w3.heap.size = b := ⟨_, rfl⟩
      rw [hb4] at HAB
      have hb49 : qo < b4 := by have := b2.size; omega
      have HB4 : Hid (b4 ≤ w3.heap.size) := Lib.hid (by omega)
      obtain ⟨b5, hb5⟩ : ∃ b, w2.heap.size = b := ⟨_, rfl⟩
      rw [hb5] at HA3
      clear b2 own2 HP0 HQ0 HZ0 HO0 HB0 CO hb4 hb5
      have HG0 : Hid (goP li s0 (srtO l) 0 = s0) := Lib.hid rfl
      go_wp2_with fail
      go_loopw [10, 43] (fun _ i wr => ∃ (j : Nat) (cv : Value), j ≤ n ∧ i = .int .i64 j ∧ OB wr q [.slice ai k ci, .int .i64 (sp : Int), .slice la k cl, .int .i64 ((goP li s0 (srtO l) j).ship : Nat)] 90 ∧ wr.ownsRow (H + 3) 3 1 (.slice la k cl) k (natV (goP li s0 (srtO l) j).left) ∧ OB wr qo [.slice none 0 0, .int .i64 0, cv, .int .i64 0] 42 ∧ (goP li s0 (srtO l) j).cuts.length = j ∧ wr.ownsRow b4 79 2 cv j ((goP li s0 (srtO l) j).cuts.flatMap TkC) ∧ wr.ownsRow b5 37 12 (.slice a2 n c2) n ((srtO l).flatMap Of.cells) ∧ OB wr qz [.slice none 0 0, .int .i64 0, .slice none 0 0, .int .i64 0] 42 ∧ Below w.heap.size w wr ∧ b4 ≤ wr.heap.size) (fun _ i _ => n - (intOf i).toNat)
      case atStart =>
        refine ⟨0, _, Nat.zero_le _, rfl, ?_, ?_, HP3.out, ?_, ?_, HA3.out, HZ3.out, HB3.out, HB4.out⟩
        · rw [HG0.out, HS0.out.2.1]; exact HQ3.out
        · rw [HG0.out]; exact HO3.out
        · rw [HG0.out, HS0.out.2.2]; rfl
        · rw [HG0.out, HS0.out.2.2]; exact World.ownsRow_nil _ _ _ _
      case round =>
        obtain ⟨j, cv, hj', rfl, hQ, hO, hP, hcl, hC, hA, hZ, hB, hsz⟩ := hrel
        have HQ := Lib.hid hQ
        have HO := Lib.hid hO
        have HP := Lib.hid hP
        have HC := Lib.hid hC
        have HA := Lib.hid hA
        have HZ := Lib.hid hZ
        have HB := Lib.hid hB
        have HLC := Lib.hid hcl
        have HINJ := Lib.hid (HINV.out j)
        clear HQ3 HO3 HP3 HA3 HZ3 HB3 HB4 hQ hO hP hcl hC hZ hB
        by_cases hlt : j < n
        · have hjl : j < (srtO l).length := by have := HSL.out; omega
          have HST := Lib.hid (HSTEP.out j hjl)
          have HXM : Hid ((srtO l)[j] ∈ srtO l) := Lib.hid (List.getElem_mem hjl)
          have hR := own_rat hA HSL.out (fun x _ => x.len)
          obtain ⟨p3, off3, rfl, hp3, c0, c1, c2', c3', c4, c5, c6, c7, c8, c9, c10, c11⟩ := hR.at12 hjl (v0 := .string (srtO l)[j].key) (v1 := .int .i64 (srtO l)[j].kind) (v2 := .int .i64 (srtO l)[j].a) (v3 := .int .i64 (srtO l)[j].b) (v4 := .slice (srtO l)[j].tv (srtO l)[j].tags.length (srtO l)[j].tc) (v5 := .int .i64 (srtO l)[j].least) (v6 := .int .i64 (srtO l)[j].most) (v7 := .string (srtO l)[j].group) (v8 := .bool (srtO l)[j].alone) (v9 := .int .i64 (srtO l)[j].order) (v10 := .int .i64 (srtO l)[j].from_) (v11 := .int .i64 (srtO l)[j].to_) rfl
          clear hR hA
          generalize hx : (srtO l)[j] = x at *
          clear hx
          obtain ⟨s1, hs1⟩ : ∃ s, goP li s0 (srtO l) j = s := ⟨_, rfl⟩
          rw [hs1] at HQ HO HC HLC HINJ HST
          obtain ⟨lf, shp, cts⟩ := s1
          have HI1 : Hid (lf.length = k ∧ (∀ z ∈ lf, z ≤ 1000000000) ∧ shp ≤ 1000000000000) := Lib.hid ⟨HINJ.out.len.trans HNI.out, HINJ.out.le, Nat.le_trans HINJ.out.sh (by simpa using hs)⟩
          simp only at HQ HO HC HLC
          obtain ⟨CT, hCT⟩ : ∃ z, (cutN x li lf).sum + shN x shp = z := ⟨_, rfl⟩
          obtain ⟨lf', hlf⟩ : ∃ z, subL lf (cutN x li lf) = z := ⟨_, rfl⟩
          obtain ⟨sh', hsh⟩ : ∃ z, shp - shN x shp = z := ⟨_, rfl⟩
          have HSN : Hid (goP li s0 (srtO l) (j + 1) = ⟨lf', sh', cts ++ [(x.key, (CT : Int))]⟩) := Lib.hid (by rw [HST.out]; unfold stepP; simp only [hCT, hlf, hsh])
          have HBa := Lib.hid (HB.out.alloc HB.out.size (.cells #[.string x.key, .int .i64 x.kind, .int .i64 x.a, .int .i64 x.b, .slice x.tv x.tags.length x.tc, .int .i64 x.least, .int .i64 x.most, .string x.group, .bool x.alone, .int .i64 x.order, .int .i64 x.from_, .int .i64 x.to_] 37)).drew
          have X0 := Lib.hid (XB.new wr x.cells 37)
          have HQa : Hid (OB (wr.alloc (.cells #[.string x.key, .int .i64 x.kind, .int .i64 x.a, .int .i64 x.b, .slice x.tv x.tags.length x.tc, .int .i64 x.least, .int .i64 x.most, .string x.group, .bool x.alone, .int .i64 x.order, .int .i64 x.from_, .int .i64 x.to_] 37)).drew q [.slice ai k ci, .int .i64 (sp : Int), .slice la k cl, .int .i64 (shp : Nat)] 90) := Lib.hid (HQ.out.alloc _)
          have HPa : Hid (OB (wr.alloc (.cells #[.string x.key, .int .i64 x.kind, .int .i64 x.a, .int .i64 x.b, .slice x.tv x.tags.length x.tc, .int .i64 x.least, .int .i64 x.most, .string x.group, .bool x.alone, .int .i64 x.order, .int .i64 x.from_, .int .i64 x.to_] 37)).drew qo [.slice none 0 0, .int .i64 0, cv, .int .i64 0] 42) := Lib.hid (HP.out.alloc _)
          have HZa : Hid (OB (wr.alloc (.cells #[.string x.key, .int .i64 x.kind, .int .i64 x.a, .int .i64 x.b, .slice x.tv x.tags.length x.tc, .int .i64 x.least, .int .i64 x.most, .string x.group, .bool x.alone, .int .i64 x.order, .int .i64 x.from_, .int .i64 x.to_] 37)).drew qz [.slice none 0 0, .int .i64 0, .slice none 0 0, .int .i64 0] 42) := Lib.hid (HZ.out.alloc _)
          have HBB := (Below.refl wr.heap.size wr).alloc (Nat.le_refl _) (.cells #[.string x.key, .int .i64 x.kind, .int .i64 x.a, .int .i64 x.b, .slice x.tv x.tags.length x.tc, .int .i64 x.least, .int .i64 x.most, .string x.group, .bool x.alone, .int .i64 x.order, .int .i64 x.from_, .int .i64 x.to_] 37)
          have HOa := Lib.hid (own_below HO.out HBB.drew)
          have HCa := Lib.hid (own_below HC.out HBB.drew)
          have HAa := Lib.hid (own_below HA.out HBB.drew)
          rw [show x.cells = #[.string x.key, .int .i64 x.kind, .int .i64 x.a, .int .i64 x.b, .slice x.tv x.tags.length x.tc, .int .i64 x.least, .int .i64 x.most, .string x.group, .bool x.alone, .int .i64 x.order, .int .i64 x.from_, .int .i64 x.to_].toList from rfl] at X0
          simp only at X0
          have hsa : (wr.alloc (.cells #[.string x.key, .int .i64 x.kind, .int .i64 x.a, .int .i64 x.b, .slice x.tv x.tags.length x.tc, .int .i64 x.least, .int .i64 x.most, .string x.group, .bool x.alone, .int .i64 x.order, .int .i64 x.from_, .int .i64 x.to_] 37)).heap.size = wr.heap.size + 1 := by simp
          have HOB : Hid (∀ g, cv.ownBlock = some g → b4 ≤ g ∧ g < wr.heap.size) := Lib.hid (fun g hg => HC.out.lt g hg)
          have hsz2 : b4 ≤ wr.heap.size := hsz
          have hqw : q < wr.heap.size := HQ.out.lt
          have hqow : qo < wr.heap.size := HP.out.lt
          clear HQ HO HP HC HA HZ HB hsz HBB HINJ HST
          go_upto_region 11 with (fail)
          generalize wr.alloc (.cells #[.string x.key, .int .i64 x.kind, .int .i64 x.a, .int .i64 x.b, .slice x.tv x.tags.length x.tc, .int .i64 x.least, .int .i64 x.most, .string x.group, .bool x.alone, .int .i64 x.order, .int .i64 x.from_, .int .i64 x.to_] 37) = w4 at *
          obtain ⟨qb, hqb⟩ : ∃ qb, wr.heap.size = qb := ⟨_, rfl⟩
          rw [hqb] at X0 HOB hsa hsz2 hqw hqow
          try rw [hqb]
          clear c0 c1 c2' c3' c4 c5 c6 c7 c8 c9 c10 c11 hp3 hqb
          have HLQ : Hid (∀ b, b = q ∨ (Value.slice la k cl).ownBlock = some b → b ≠ qo ∧ b ≠ qb ∧ b ≠ qz ∧ (∀ g, cv.ownBlock = some g → g ≠ b) ∧ (∀ g, (Value.slice (some ⟨p3, off3, none⟩) n c2).ownBlock = some g → g ≠ b) ∧ w.heap.size ≤ b) := Lib.hid (fun b hb => by
            have h1 := HQR.out
            have h2 := HH.out
            rcases hb with rfl | hb
            · refine ⟨by omega, by omega, by omega, (fun g hg => by have := HOB.out g hg; omega), (fun g hg => by have := HAB.out g hg; omega), by omega⟩
            · have h3 := HLB.out b hb
              refine ⟨by omega, by omega, by omega, (fun g hg => by have := HOB.out g hg; omega), (fun g hg => by have := HAB.out g hg; omega), by omega⟩)
          have HPF : Hid (∀ w5, Chg w4.drew w5 (fun i => i = q ∨ (Value.slice la k cl).ownBlock = some i) → OB w5 qo [.slice none 0 0, .int .i64 0, cv, .int .i64 0] 42 ∧ w5.ownsRow b4 79 2 cv j (cts.flatMap TkC) ∧ w5.ownsRow b5 37 12 (.slice (some ⟨p3, off3, none⟩) n c2) n ((srtO l).flatMap Of.cells) ∧ OB w5 qz [.slice none 0 0, .int .i64 0, .slice none 0 0, .int .i64 0] 42 ∧ w5.cell? ⟨qb, 0, none⟩ = some (.string x.key) ∧ Below w.heap.size w w5 ∧ qb + 1 ≤ w5.heap.size) := Lib.hid (fun w5 hg => by
            refine ⟨hg.blk HPa.out (fun h => (HLQ.out _ h).1 rfl), hg.own HCa.out (fun g h hb => (HLQ.out _ hb).2.2.2.1 g h rfl), hg.own HAa.out (fun g h hb => (HLQ.out _ hb).2.2.2.2.1 g h rfl), hg.blk HZa.out (fun h => (HLQ.out _ h).2.2.1 rfl), hg.cell (X0.out.2 0 _ rfl) (fun h => (HLQ.out _ h).2.1 rfl), HBa.out.trans (hg.below HBa.out.size (fun i hi => (HLQ.out i hi).2.2.2.2.2)), ?_⟩
            have h1 := hg.size
            have h2 : w4.drew.heap.size = w4.heap.size := rfl
            omega)
          have C := Lib.hid (HCA.out x w4.drew q la lf cl shp (H + 3) 90 HXM.out HBa.out HQa.out HOa.out (by have := HQR.out; omega) HI1.out.1 HI1.out.2.1 HI1.out.2.2)
          rw [hCT, hlf, hsh, show x.cells.toArray = #[.string x.key, .int .i64 x.kind, .int .i64 x.a, .int .i64 x.b, .slice x.tv x.tags.length x.tc, .int .i64 x.least, .int .i64 x.most, .string x.group, .bool x.alone, .int .i64 x.order, .int .i64 x.from_, .int .i64 x.to_] from rfl] at C
          have HQOV : Hid (some qo ≠ cv.ownBlock) := Lib.hid (fun e => by have := HOB.out qo e.symm; omega)
          have x0 := X0.out.2 0 _ rfl
          have x1 := X0.out.2 1 _ rfl
          have x2 := X0.out.2 2 _ rfl
          have x3 := X0.out.2 3 _ rfl
          have x4 := X0.out.2 4 _ rfl
          have x5 := X0.out.2 5 _ rfl
          have x6 := X0.out.2 6 _ rfl
          have x7 := X0.out.2 7 _ rfl
          have x8 := X0.out.2 8 _ rfl
          have x9 := X0.out.2 9 _ rfl
          have x10 := X0.out.2 10 _ rfl
          have x11 := X0.out.2 11 _ rfl
          have hxl := X0.out.1
          have p2' : w4.cell? ⟨qo, 2, none⟩ = some cv := HPa.out.cell 2 _ rfl
          have pl : qo < w4.heap.size := by omega
          have HNW : Hid (∀ (w5 : World) j u, ([.string x.key, .int .i64 (CT : Int)] : List Value)[j]? = some u → (w5.alloc (.cells #[.string x.key, .int .i64 (CT : Int)] 79)).cell? ((⟨w5.heap.size, 0, none⟩ : Addr).add j) = some u) := Lib.hid (fun w5 j u h => World.news_of_block (heap_alloc_new w5 (.cells #[.string x.key, .int .i64 (CT : Int)] 79)) j u h)
          have HON : Hid (∀ u ∈ ([.string x.key, .int .i64 (CT : Int)] : List Value), u.oneCell' = true) := Lib.hid (by simp [Value.oneCell'])
          have HPG : Hid (∀ w5 : World, qb + 1 ≤ w5.heap.size → b4 ≤ (w5.alloc (.cells #[.string x.key, .int .i64 (CT : Int)] 79)).heap.size) := Lib.hid (fun w5 h => by rw [World.size_alloc]; omega)
          have hmy : j + 1 ≤ maxLen := by unfold maxLen; omega
          have hmb : (j + 1) * 24 ≤ 140737488355328 := by omega
          clear hCT hlf hsh
          go_region_law (first | (refine step_append_lies (o := ⟨some 56, _, _, _, _, _⟩) _ rfl (.tmp 48) (.tmp 55) 40 rfl b4 79 j0 _ 2 24 Tryz.underlying40 hj hy0 hy1 hy2 rfl (by decide) cv j (cts.flatMap TkC) (by simp [Act.eval]) HCd.out ⟨w5.heap.size, 0, none⟩ 1 1 [.string x.key, .int .i64 (CT : Int)] (by simp [Act.eval]) rfl (HNW.out w5) HON.out Nat.one_pos hmy hmb (HPG.out w5 hs5) _ rfl ?_; intro gq cq w8 own8 grow8 at8 lt8; have HP8 := Lib.hid (HPd.out.grown grow8 HQOV.out.symm); have q8 := HP8.out.cell 2 _ rfl; have f8 := HP8.out.free 2; have l8 := HP8.out.lt) | (go_simp; go_at_call 57; refine C.out.mono ?_; rintro e w5 ⟨rfl, hq5, ho5, hg5⟩; have HPF5 := HPF.out w5 hg5; have HQ5 := Lib.hid hq5; have HO5 := Lib.hid ho5; have HP5 := Lib.hid HPF5.1; have HC5 := Lib.hid HPF5.2.1; have HA5 := Lib.hid HPF5.2.2.1; have HZ5 := Lib.hid HPF5.2.2.2.1; have hk5 := HPF5.2.2.2.2.1; have HB5 := Lib.hid HPF5.2.2.2.2.2.1; have hs5 := HPF5.2.2.2.2.2.2; have hp5 := HP5.out.cell 2 _ rfl; have HPd := Lib.hid (HP5.out.alloc (.cells #[.string x.key, .int .i64 (CT : Int)] 79)); have hpd := HPd.out.cell 2 _ rfl; have HCd := Lib.hid (own_below HC5.out ((Below.refl _ _).alloc (Nat.le_refl _) (.cells #[.string x.key, .int .i64 (CT : Int)] 79))); clear HPF5 hq5 ho5 hg5))
          all_goals
            have HL9 := Lib.hid (show (cts ++ [(x.key, (CT : Int))]).length = j + 1 by rw [List.length_append, HLC.out]; rfl)
            have hg4 : b4 ≤ gq := (own8.lt gq (by simp [Value.ownBlock])).1
            have HC9 : Hid (w8.ownsRow b4 79 2 (.slice (some ⟨gq, 0, none⟩) (j + 1) cq) (j + 1) ((cts ++ [(x.key, (CT : Int))]).flatMap TkC)) := Lib.hid (by rw [List.flatMap_append]; simpa [TkC] using own8)
            have HPS := Lib.hid (HP8.out.put (cs' := [.slice none 0 0, .int .i64 0, .slice (some ⟨gq, 0, none⟩) (j + 1) cq, .int .i64 0]) 2 (.slice (some ⟨gq, 0, none⟩) (j + 1) cq) rfl)
            have HGS := Lib.hid (grown_set (grown_same w8 (some qo)) (p := ⟨qo, 2, none⟩) (.inl rfl) (.slice (some ⟨gq, 0, none⟩) (j + 1) cq))
            have HQS := Lib.hid (((HQ5.out.alloc (.cells #[.string x.key, .int .i64 (CT : Int)] 79)).grown grow8 (fun e => by have := HOB.out q e; have := HQR.out; omega)).grown HGS.out (by have := HQR.out; simp; omega))
            have HZS := Lib.hid (((HZ5.out.alloc (.cells #[.string x.key, .int .i64 (CT : Int)] 79)).grown grow8 (fun e => by have := HOB.out qz e; have := HQR.out; omega)).grown HGS.out (by have := HQR.out; simp; omega))
            have HOS := Lib.hid (own_grown (own_grown (own_below HO5.out ((Below.refl _ _).alloc (Nat.le_refl _) (.cells #[.string x.key, .int .i64 (CT : Int)] 79))) grow8 (fun g hg e => by have h1 := HLB.out g hg; have h2 := HOB.out g e; omega)) HGS.out (fun g hg e => by injection e with e; have h1 := HLB.out g hg; omega))
            have HAS := Lib.hid (own_grown (own_grown (own_below HA5.out ((Below.refl _ _).alloc (Nat.le_refl _) (.cells #[.string x.key, .int .i64 (CT : Int)] 79))) grow8 (fun g hg e => by have h1 := HAB.out g hg; have h2 := HOB.out g e; omega)) HGS.out (fun g hg e => by injection e with e; have h1 := HAB.out g hg; omega))
            have HCS := Lib.hid (own_grown HC9.out HGS.out (fun g hg e => by injection e with e; have h1 := (HC9.out.lt g hg).1; omega))
            have HBS := Lib.hid (((HB5.out.alloc HB5.out.size (.cells #[.string x.key, .int .i64 (CT : Int)] 79)).grown grow8 (Nat.le_trans HB5.out.size (by simp)) (fun g hg => by have h1 := HOB.out g hg; have h2 := HH.out; have h3 := HQR.out; omega)).grown HGS.out (Nat.le_trans HB5.out.size (Nat.le_trans (by simp) grow8.size)) (fun g hg => by injection hg with hg; have h2 := HH.out; have h3 := HQR.out; omega))
            have HSS := Lib.hid (Nat.le_trans (HPG.out w5 hs5) grow8.size)
            clear own8 grow8 at8 lt8 HPd HCd HP5 HC5 HA5 HZ5 HQ5 HO5 HB5 HP8 q8 f8 l8 hp5 hpd hk5 hs5 HPF C x0 x1 x2 x3 x4 x5 x6 x7 x8 x9 x10 x11 hxl p2' HNW HON HPG HBa X0 HQa HPa HZa HOa HCa HAa
            go_wp2_with fail
            go_roundw
            case rel =>
              refine ⟨j + 1, _, by omega, by go_num, ?_, ?_, HPS.out, ?_, ?_, HAS.out, HZS.out, HBS.out, by simpa [World.setCell] using HSS.out⟩
              · rw [HSN.out]; exact HQS.out
              · rw [HSN.out]; exact HOS.out
              · rw [HSN.out]; exact HL9.out
              · rw [HSN.out]; exact HCS.out
            case measure => simp [intOf]; omega
        · obtain rfl : j = n := by omega
          obtain ⟨s1, hs1⟩ : ∃ s, goP li s0 (srtO l) j = s := ⟨_, rfl⟩
          rw [hs1] at HQ HO HC HLC HINJ
          obtain ⟨lf, shp, cts⟩ := s1
          have HS1 := Lib.hid hs1
          have HI1 : Hid (lf.length = k ∧ (∀ z ∈ lf, z ≤ 1000000000) ∧ shp ≤ 1000000000000) := Lib.hid ⟨HINJ.out.len.trans HNI.out, HINJ.out.le, Nat.le_trans HINJ.out.sh (by simpa using hs)⟩
          simp only at HQ HO HC HLC
          clear hs1 HINJ hA HA HCA
          have z2 := HQ.out.cell 2 _ rfl
          have z3 := HQ.out.cell 3 _ rfl
          have zl := HQ.out.lt
          have p0 := HP.out.cell 0 _ rfl
          have p1 := HP.out.cell 1 _ rfl
          have p3 := HP.out.cell 3 _ rfl
          have f0 := HP.out.free 0
          have f1 := HP.out.free 1
          have f3 := HP.out.free 3
          have pl := HP.out.lt
          have hqo1 : ¬ (q = qo) := by have := HQR.out; omega
          have hqo2 : ¬ (qo = q) := by omega
          have HGS := Lib.hid (grown_set3 wr qo 0 1 3 (.slice la k cl) (.int .i64 (shp : Nat)) (.int .i64 (shp : Nat)))
          have HP5 := Lib.hid (((HP.out.put (cs' := [.slice la k cl, .int .i64 0, cv, .int .i64 0]) 0 (.slice la k cl) rfl).put (cs' := [.slice la k cl, .int .i64 (shp : Nat), cv, .int .i64 0]) 1 (.int .i64 (shp : Nat)) rfl).put (cs' := [.slice la k cl, .int .i64 (shp : Nat), cv, .int .i64 (shp : Nat)]) 3 (.int .i64 (shp : Nat)) rfl)
          have HQ5 := Lib.hid (HQ.out.grown HGS.out (by simp; omega))
          have HZ5 := Lib.hid (HZ.out.grown HGS.out (by have := HQR.out; simp; omega))
          have HO5 := Lib.hid (own_grown HO.out HGS.out (fun g hg e => by injection e with e; have h1 := HLB.out g hg; omega))
          have HC5 := Lib.hid (own_grown HC.out HGS.out (fun g hg e => by injection e with e; have h1 := (HC.out.lt g hg).1; omega))
          have HB5 := Lib.hid (HB.out.grown HGS.out HB.out.size (fun g hg => by injection hg with hg; have h2 := HH.out; omega))
          go_upto_region 13 with (fail)
          go_big_region
          have HP6 : Hid (OB (((wr.setCell ⟨qo, 0, none⟩ (.slice la k cl)).setCell ⟨qo, 1, none⟩ (.int .i64 (shp : Nat))).setCell ⟨qo, 3, none⟩ (.int .i64 (shp : Nat))).drew qo [.slice la k cl, .int .i64 (shp : Nat), cv, .int .i64 (shp : Nat)] 42) := Lib.hid HP5.out
          have HQ6 : Hid (OB (((wr.setCell ⟨qo, 0, none⟩ (.slice la k cl)).setCell ⟨qo, 1, none⟩ (.int .i64 (shp : Nat))).setCell ⟨qo, 3, none⟩ (.int .i64 (shp : Nat))).drew q [.slice ai k ci, .int .i64 (sp : Int), .slice la k cl, .int .i64 (shp : Nat)] 90) := Lib.hid HQ5.out
          have HZ6 : Hid (OB (((wr.setCell ⟨qo, 0, none⟩ (.slice la k cl)).setCell ⟨qo, 1, none⟩ (.int .i64 (shp : Nat))).setCell ⟨qo, 3, none⟩ (.int .i64 (shp : Nat))).drew qz [.slice none 0 0, .int .i64 0, .slice none 0 0, .int .i64 0] 42) := Lib.hid HZ5.out
          have HO6 : Hid ((((wr.setCell ⟨qo, 0, none⟩ (.slice la k cl)).setCell ⟨qo, 1, none⟩ (.int .i64 (shp : Nat))).setCell ⟨qo, 3, none⟩ (.int .i64 (shp : Nat))).drew.ownsRow (H + 3) 3 1 (.slice la k cl) k (natV lf)) := Lib.hid HO5.out
          have HC6 : Hid ((((wr.setCell ⟨qo, 0, none⟩ (.slice la k cl)).setCell ⟨qo, 1, none⟩ (.int .i64 (shp : Nat))).setCell ⟨qo, 3, none⟩ (.int .i64 (shp : Nat))).drew.ownsRow b4 79 2 cv j (cts.flatMap TkC)) := Lib.hid HC5.out
          have HB6 : Hid (Below w.heap.size w (((wr.setCell ⟨qo, 0, none⟩ (.slice la k cl)).setCell ⟨qo, 1, none⟩ (.int .i64 (shp : Nat))).setCell ⟨qo, 3, none⟩ (.int .i64 (shp : Nat))).drew) := Lib.hid HB5.out.drew
          clear HGS HP5 HQ5 HZ5 HO5 HC5 HB5 HQ HP HZ HO HC HB z2 z3 zl p0 p1 p3 f0 f1 f3 pl
          generalize (((wr.setCell ⟨qo, 0, none⟩ (.slice la k cl)).setCell ⟨qo, 1, none⟩ (.int .i64 (shp : Nat))).setCell ⟨qo, 3, none⟩ (.int .i64 (shp : Nat))).drew = w6 at *
          have z2 := HQ6.out.cell 2 _ rfl
          have zl := HQ6.out.lt
          go_wp2_with fail
          clear z2 zl HQ6
          go_loopw [12, 79] (fun _ i wr => ∃ e : Nat, e ≤ k ∧ i = .int .i64 e ∧ OB wr qo [.slice la k cl, .int .i64 (shp : Nat), cv, .int .i64 ((shp + (lf.take e).sum : Nat) : Int)] 42 ∧ wr.ownsRow (H + 3) 3 1 (.slice la k cl) k (natV lf) ∧ wr.ownsRow b4 79 2 cv j (cts.flatMap TkC) ∧ OB wr qz [.slice none 0 0, .int .i64 0, .slice none 0 0, .int .i64 0] 42 ∧ Below w.heap.size w wr) (fun _ i _ => k - (intOf i).toNat)
          case atStart => exact ⟨0, Nat.zero_le _, rfl, HP6.out, HO6.out, HC6.out, HZ6.out, HB6.out⟩
          case round =>
            obtain ⟨e, he, rfl, hP, hO, hC, hZ, hB⟩ := hrel
            have HP := Lib.hid hP
            have HO := Lib.hid hO
            have HC := Lib.hid hC
            have HZ := Lib.hid hZ
            have HB := Lib.hid hB
            clear HP6 HO6 HC6 HZ6 HB6 hP hC hZ hB
            have p0 := HP.out.cell 0 _ rfl
            have p1 := HP.out.cell 1 _ rfl
            have p2' := HP.out.cell 2 _ rfl
            have p3 := HP.out.cell 3 _ rfl
            have f3 := HP.out.free 3
            have pl := HP.out.lt
            by_cases hlt : e < k
            · have hel : e < lf.length := by have := HI1.out.1; omega
              obtain ⟨g, cap, hv, hbg, hgl⟩ := hO.form (by omega)
              injection hv with hv1 hv2 hv3
              subst hv1 hv3
              have c0 := hO.cellAt e (by omega)
              rw [natV_get _ _ hel] at c0
              have hzb := HI1.out.2.1 lf[e] (List.getElem_mem hel)
              have hsb := sum_left lf k HI1.out.1 hni1 HI1.out.2.1 e
              have hsp := HI1.out.2.2
              have HSM := Lib.hid (sum_take_succ lf e hel)
              generalize lf[e] = zl at *
              generalize (lf.take e).sum = sm at *
              have HPS := Lib.hid (HP.out.put (cs' := [.slice (some ⟨g, 0, none⟩) k cl, .int .i64 (shp : Nat), cv, .int .i64 ((shp + sm + zl : Nat) : Int)]) 3 (.int .i64 ((shp + sm + zl : Nat) : Int)) rfl)
              have HGS := Lib.hid (grown_set (grown_same wr (some qo)) (p := ⟨qo, 3, none⟩) (.inl rfl) (.int .i64 ((shp + sm + zl : Nat) : Int)))
              have HZS := Lib.hid (HZ.out.grown HGS.out (by have := HQR.out; simp; omega))
              have HOS := Lib.hid (own_grown HO.out HGS.out (fun g hg e => by injection e with e; have h1 := HLB.out g hg; omega))
              have HCS := Lib.hid (own_grown HC.out HGS.out (fun g hg e => by injection e with e; have h1 := (HC.out.lt g hg).1; omega))
              have HBS := Lib.hid (HB.out.grown HGS.out HB.out.size (fun g hg => by injection hg with hg; have h2 := HH.out; omega))
              have hss : ((shp + sm : Nat) : Int) + (zl : Int) = ((shp + sm + zl : Nat) : Int) := by omega
              have hss9 : shp + sm + zl ≤ 2000000000000 := by omega
              clear HP HO HC HZ HB hO
              go_wp2_with fail
              go_roundw
              case rel =>
                refine ⟨e + 1, by omega, by go_num, ?_, HOS.out, HCS.out, HZS.out, HBS.out⟩
                rw [HSM.out, ← Nat.add_assoc]
                exact HPS.out
              case measure => simp [intOf]; omega
            · obtain rfl : e = k := by omega
              have HTK : Hid ((lf.take e).sum = lf.sum) := Lib.hid (by rw [List.take_of_length_le (by have := HI1.out.1; omega)])
              have z0 := HZ.out.cell 0 _ rfl
              have z1 := HZ.out.cell 1 _ rfl
              have z2 := HZ.out.cell 2 _ rfl
              have z3 := HZ.out.cell 3 _ rfl
              have y0 := HZ.out.free 0
              have y1 := HZ.out.free 1
              have y2 := HZ.out.free 2
              have y3 := HZ.out.free 3
              have zl := HZ.out.lt
              obtain ⟨lc, cc, hcv, hcc, -⟩ := own_form HC.out
              subst hcv
              have HGS := Lib.hid (grown_set4 wr qz (.slice la e cl) (.int .i64 (shp : Nat)) (.slice lc j cc) (.int .i64 ((shp + (lf.take e).sum : Nat) : Int)))
              have HOS := Lib.hid (own_grown HO.out HGS.out (fun g hg e => by injection e with e; have h1 := HLB.out g hg; have := HQR.out; omega))
              have HCS := Lib.hid (own_grown HC.out HGS.out (fun g hg e => by injection e with e; have h1 := (HC.out.lt g hg).1; have := HQR.out; omega))
              have HBS := Lib.hid (HB.out.grown HGS.out HB.out.size (fun g hg => by injection hg with hg; have h2 := HH.out; have := HQR.out; omega))
              have HPR : Hid (PrcAt ((((wr.setCell ⟨qz, 0, none⟩ (.slice la e cl)).setCell ⟨qz, 1, none⟩ (.int .i64 (shp : Nat))).setCell ⟨qz, 2, none⟩ (.slice lc j cc)).setCell ⟨qz, 3, none⟩ (.int .i64 ((shp + (lf.take e).sum : Nat) : Int))) w.heap.size (.agg #[.slice la e cl, .int .i64 (shp : Nat), .slice lc j cc, .int .i64 ((shp + (lf.take e).sum : Nat) : Int)]) (goP li s0 (srtO l) j)) := Lib.hid (by
                rw [HS1.out]
                refine ⟨la, cl, lc, cc, ?_, own_nats HOS.out, own_rat HCS.out HLC.out (fun x _ => TkC_len x), ?_, ?_, (fun p off hp => by subst hp; have := HLB.out p (by simp [Value.ownBlock]); have := HH.out; omega), (fun p off hp => by subst hp; have := (HCS.out.lt p (by simp [Value.ownBlock])).1; have := HH.out; omega)⟩
                · simp only [HI1.out.1, HLC.out, HTK.out]
                · simp only [HI1.out.1]; exact HCL.out
                · simp only [HLC.out]; exact hcc)
              clear HP HO HC HZ HB hO HGS HOS HCS
              go_wp2_with fail
              refine bodyPost_ret (v := .agg #[.slice la e cl, .int .i64 (shp : Nat), .slice lc j cc, .int .i64 ((shp + (lf.take e).sum : Nat) : Int)]) (by simp [results, Tryz.results32, go_sem, z0, z1, z2, z3]) rfl ?_
              exact ⟨_, rfl, HPR.out, HBS.out⟩
end Go.Proofs.YtdefjnefkdemiaaGreatDoor
