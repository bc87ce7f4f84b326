/- (*Stream).Cond: a right condition (printed by gen_cond.py). -/
import Derived.Test.YtdiioecpponnmaaGreatDoorCndW
import Derived.Test.YtdiioecpponnmaaGreatDoorSgL
import Derived.Deep.Cut
import Derived.Deep.CutBlock
import Derived.Deep.DeepCutAuto
set_option linter.unusedVariables false
namespace Go.Proofs.YtdiioecpponnmaaGreatDoor
open Go.RowKit

def kcC : Nat → Nat
  | 0 => 41
  | n + 1 => 3 * kcC n + 5
def mcC : Nat → Nat
  | 0 => 1
  | n + 1 => 5 * mcC n + 6
theorem kcC_ge : ∀ n, 41 ≤ kcC n
  | 0 => Nat.le_refl _
  | n + 1 => by have := kcC_ge n; simp only [kcC]; omega
/-- the condition that is not x -/
def notC (x : Cn) (h : Nat) : Cn := .mk ⟨5, ⟨#[]⟩, ⟨#[]⟩, ⟨#[]⟩, none, 0, [], none, 0, [], 0, 0, some ⟨h, 0, none⟩, 1⟩ [x]
theorem one_cond {w : World} {h : Nat} {x : Cn} (o : OB w h x.cells 30) : RAt w (some ⟨h, 0, none⟩) 9 Cn.cells [x] := by
  refine RAt.block (t := 30) ?_ (fun x _ => rfl)
  show w.heap[h]? = _
  rw [show ([x].flatMap Cn.cells) = x.cells by simp]
  exact o
theorem notC_el {d q h g : Nat} {n cap : Nat} {w : World} {x : Cn} (hx : Ela d w q (.slice (some ⟨g, 0, none⟩) n cap) x) (o : OB w h x.cells 30) (hq : q < h) (hg : h ≠ g) : Ela (d + 1) w q (.slice (some ⟨g, 0, none⟩) n cap) (notC x h) := by
  refine ⟨⟨nd_okZ (by unfold i64B; decide), ⟨Nat.le_refl _, (by unfold maxLen; omega : 1 ≤ maxLen), (by decide : 1 ≤ 1000)⟩, RAt.nil _ _ _ _, RAt.nil _ _ _ _, one_cond o, fun y hy => ?_⟩, fun g' hg' => ⟨fun h => absurd h (by simp [notC, Cn.nd]), fun h => absurd h (by simp [notC, Cn.nd]), fun _ p off e => ?_, fun y hy => ?_⟩, fun g' hg' => ⟨fun h => absurd h (by simp [notC, Cn.nd]), fun h => absurd h (by simp [notC, Cn.nd]), fun _ p off e => ?_, fun y hy => ?_⟩⟩
  · obtain rfl := List.mem_singleton.1 hy
    exact hx.1
  · have e1 : h = p := by simp only [notC, Cn.nd] at e; injection e with e; injection e
    omega
  · obtain rfl := List.mem_singleton.1 hy
    exact hx.2.1 g' hg'
  · have e1 : h = p := by simp only [notC, Cn.nd] at e; injection e with e; injection e
    obtain rfl : g = g' := by simpa [Value.ownBlock] using hg'
    omega
  · obtain rfl := List.mem_singleton.1 hy
    exact hx.2.2 g' hg'
theorem notC_sz {d h M : Nat} {x : Cn} (hx : szS d x M) : szS (d + 1) (notC x h) (M + 1) := by
  refine ⟨?_, (by decide : 0 ≤ 100), (by decide : 0 ≤ 100), fun y hy => by obtain rfl := List.mem_singleton.1 hy; exact hx.2⟩
  show 1 + ([x].map (szN d)).sum ≤ _
  have := hx.1
  simp
  omega
theorem Ela.up {d q : Nat} {w : World} {cur : Value} {x : Cn} (h : Ela d w q cur x) : Ela (d + 1) w q cur x :=
  ⟨h.1.mono (Nat.le_succ _), fun g hg => FarT.mono (Nat.le_succ _) h.1 (h.2.1 g hg), fun g hg => FarT.mono (Nat.le_succ _) h.1 (h.2.2 g hg)⟩
theorem CW.up {d : Nat} {w wr : World} {S : SC} {q0 q K : Nat} {kind : Int} {cur : Value} {l : List Cn} (h : CW d w S q0 q kind cur l K wr) : CW (d + 1) w S q0 q kind cur l K wr :=
  ⟨h.mkk, h.bx, h.own, h.lt, fun x hx => (h.el x hx).up⟩
/-- a maker's condition, stored as the result -/
theorem GenC.store {S : SC} {K K' d d' M M' q0 : Nat} {w w2 w3 w9 : World} {cs : List Value} {c : Cn} (hM : Mk w S q0 cs 30 K w3) (hT : TAt d w3 c) (hF : ∀ g, g < w2.heap.size → FarT d c g) (hsz : szS d c M) (h2 : w.heap.size ≤ w2.heap.size) (hq : q0 < w2.heap.size)
    (k9 : w3.grownBy w9 (some q0)) (o9 : OB w9 q0 c.cells 30) (hd : d ≤ d') (hMM : M ≤ M') (hK : K ≤ K') : GenC S K' w d' M' (.returned (.agg c.cells.toArray)) w9 := by
  have hm := hM.write o9 k9
  have hT9 := hT.kept k9 (fun g e => by obtain rfl := Option.some.inj e; exact hF _ hq)
  refine ⟨c, rfl, hT9.mono hd, fun g hg => FarT.mono hd hT (hF g (by omega)), szS_mono hT hd hMM hsz, hm.gr, strm_mono hm.st hK⟩
/-- what the region that appends a copy keeps -/
structure JE (d : Nat) (w : World) (S : SC) (q0 q : Nat) (kind : Int) (g cap : Nat) (x : Cn) (l : List Cn) (K : Nat) (s1 s3 s4 s5 s6 : Nat) (b : Msk) (v : Nat → Value) (wr : World) : Prop where
  base : CW d w S q0 q kind (.slice (some ⟨g, 0, none⟩) l.length cap) l K wr
  p1 : b 1 = true → v s1 = .slice (some ⟨g, 0, none⟩) l.length cap
  p3 : b 3 = true → v s3 = .slice (some ⟨g, 0, none⟩) l.length cap
  p4 : b 4 = true → v s4 = .pointer (some ⟨g, 0, none⟩)
  p5 : b 5 = true → v s5 = x.agg'
  p6 : b 6 = true → ∃ h, v s6 = .slice (some ⟨h, 0, none⟩) 1 1 ∧ OB wr h x.cells 30 ∧ q < h ∧ h ≠ g
theorem CW.at0 {d : Nat} {w wr : World} {S : SC} {q0 q K g cap : Nat} {kind : Int} {l : List Cn} (h : CW d w S q0 q kind (.slice (some ⟨g, 0, none⟩) l.length cap) l K wr) {x : Cn} (hl : 0 < l.length) (hx : l[0] = x) :
    g < wr.heap.size ∧ q < g ∧ wr.cell? ⟨g, 0, none⟩ = some (.int .i64 x.nd.kind) ∧ wr.cell? ⟨g, 1, none⟩ = some (.string x.nd.name) ∧ wr.cell? ⟨g, 2, none⟩ = some (.string x.nd.field) ∧ wr.cell? ⟨g, 3, none⟩ = some (.string x.nd.sign) ∧ wr.cell? ⟨g, 4, none⟩ = some (.slice x.nd.va x.nd.vals.length x.nd.vc) ∧ wr.cell? ⟨g, 5, none⟩ = some (.slice x.nd.wa x.nd.whs.length x.nd.wc) ∧ wr.cell? ⟨g, 6, none⟩ = some (.int .i64 x.nd.within) ∧ wr.cell? ⟨g, 7, none⟩ = some (.int .i64 x.nd.number) ∧ wr.cell? ⟨g, 8, none⟩ = some (.slice x.nd.aa x.args.length x.nd.ac) := by
  subst hx
  obtain ⟨a, c, e, hI, -, -⟩ := RAt.of_own h.own (fun x _ => x.len)
  injection e with e1 e2 e3
  subst e1
  obtain ⟨p, off, e, hp, c0, c1, c2, c3, c4, c5, c6, c7, c8⟩ := hI.at9c hl
  injection e with e
  injection e with e1 e2
  subst e1 e2
  have := (h.own.lt g (by simp [Value.ownBlock])).1
  simp only [Nat.zero_mul, Nat.zero_add] at c0 c1 c2 c3 c4 c5 c6 c7 c8
  exact ⟨hp, by omega, c0, c1, c2, c3, c4, c5, c6, c7, c8⟩
theorem CW.form {d : Nat} {w wr : World} {S : SC} {q0 q K : Nat} {kind : Int} {cur : Value} {l : List Cn} (h : CW d w S q0 q kind cur l K wr) (hl : 0 < l.length) : ∃ g cap, cur = .slice (some ⟨g, 0, none⟩) l.length cap ∧ l.length ≤ cap ∧ cap ≤ maxLen := by
  rcases h.own.2 with ⟨_, h0⟩ | ⟨g, cap, arr, e, _, _, h1, h2, _⟩
  · omega
  · exact ⟨g, cap, e, h1, h2⟩
/-- what the region that appends the contrary keeps -/
structure JN (d : Nat) (w : World) (S : SC) (q0 q : Nat) (kind : Int) (g cap : Nat) (x : Cn) (l : List Cn) (K : Nat) (s1 s3 s4 s5 s6 s7 s8 : Nat) (b : Msk) (v : Nat → Value) (wr : World) : Prop where
  base : CW d w S q0 q kind (.slice (some ⟨g, 0, none⟩) l.length cap) l K wr
  p1 : b 1 = true → v s1 = .slice (some ⟨g, 0, none⟩) l.length cap
  p3 : b 3 = true → v s3 = .slice (some ⟨g, 0, none⟩) l.length cap
  p4 : b 4 = true → v s4 = .pointer (some ⟨g, 0, none⟩)
  p5 : b 5 = true → v s5 = x.agg'
  p6 : b 6 = true → ∃ h, v s6 = .slice (some ⟨h, 0, none⟩) 1 1 ∧ OB wr h x.cells 30 ∧ q < h ∧ h ≠ g
  p7 : b 7 = true → ∃ h, v s7 = (notC x h).agg' ∧ OB wr h x.cells 30 ∧ q < h ∧ h ≠ g
  p8 : b 8 = true → ∃ h2 h, v s8 = .slice (some ⟨h2, 0, none⟩) 1 1 ∧ OB wr h2 (notC x h).cells 30 ∧ OB wr h x.cells 30 ∧ q < h ∧ h ≠ g
set_option maxRecDepth 100000 in
set_option maxHeartbeats 4000000 in
theorem cond_zero (S : SC) (K : Nat) (w : World) (hs : Strm w S K) (hK : K ≤ 9000) : Calls Tryz.prog 4 #[S.p, .int .i64 0] w (GenC S (K + kcC 0) w (2 * 0 + 1) (mcC 0)) := by
  have HM := Lib.hid (Mk.new hs condZ 30)
  clear hs
  go_enter Tryz.func4, Tryz.ntmps4
  go_upto_region 1 with (fail)
  unfold condZ at HM
  simp only [List.toArray] at HM
  generalize w.alloc (.cells _ 30) = w1 at *
  have HM0 := Lib.hid (show Mk w S w.heap.size condZ 30 K w1 from HM.out)
  clear HM
  obtain ⟨q0, hq0⟩ : ∃ z, w.heap.size = z := ⟨_, rfl⟩
  rw [hq0] at HM0 ⊢
  clear hq0
  have s1 := HM0.out.st
  obtain ⟨w2, rfl⟩ : ∃ z, z = w1 := ⟨_, rfl⟩
  have s2 := s1
  have HM2 := HM0
  clear HM0 s1
  go_wp2_with fail
  ((with_reducible refine (test_any S _ _ s2 (by omega)).mono ?_); rintro e w3 ⟨x, rfl, hT, hF, hsz, kk, s3⟩)
  have HM3 := Lib.hid (HM2.out.draw kk s3)
  have HT3 := Lib.hid hT
  have HF3 := Lib.hid hF
  have HZ3 := Lib.hid hsz
  have hq2 := HM2.out.ob.lt
  have hw2 := Lib.hid HM2.out.gr.size
  clear hT hF hsz kk s3 s2 HM2
  simp only [Cn.cells]
  go_wp2_with (refine wpList_store_oc _ rfl _ _ _ rfl q0 _ [.int .i64 x.nd.kind, .string x.nd.name, .string x.nd.field, .string x.nd.sign, .slice x.nd.va x.nd.vals.length x.nd.vc, .slice x.nd.wa x.nd.whs.length x.nd.wc, .int .i64 x.nd.within, .int .i64 x.nd.number, .slice x.nd.aa x.args.length x.nd.ac] _ rfl rfl HM3.out.ob sizeCond rfl rfl ?_)
  intro wz oz kz
  have r0 := oz.cell 0 _ rfl
  have r1 := oz.cell 1 _ rfl
  have r2 := oz.cell 2 _ rfl
  have r3 := oz.cell 3 _ rfl
  have r4 := oz.cell 4 _ rfl
  have r5 := oz.cell 5 _ rfl
  have r6 := oz.cell 6 _ rfl
  have r7 := oz.cell 7 _ rfl
  have r8 := oz.cell 8 _ rfl
  have HOz := Lib.hid oz
  have HKz := Lib.hid kz
  clear oz kz
  go_wp2_with fail
  refine bodyPost_ret (v := .agg #[.int .i64 x.nd.kind, .string x.nd.name, .string x.nd.field, .string x.nd.sign, .slice x.nd.va x.nd.vals.length x.nd.vc, .slice x.nd.wa x.nd.whs.length x.nd.wc, .int .i64 x.nd.within, .int .i64 x.nd.number, .slice x.nd.aa x.args.length x.nd.ac]) (by simp [results, Tryz.results4, go_sem, r0, r1, r2, r3, r4, r5, r6, r7, r8]) rfl ?_
  exact GenC.store (K' := K + kcC 0) (d' := 2 * 0 + 1) (M' := mcC 0) HM3.out HT3.out HF3.out HZ3.out hw2.out hq2 HKz.out HOz.out (by omega) (Nat.le_refl _) (by simp only [kcC]; omega)
set_option maxRecDepth 100000 in
set_option maxHeartbeats 16000000 in
theorem cond_succ (S : SC) (n : Nat) (hn : n ≤ 2) (ih : ∀ (dp : Int), dp = n → ∀ (K : Nat) (w : World), Strm w S K → K + kcC n ≤ 9000 → Calls Tryz.prog 4 #[S.p, .int .i64 dp] w (GenC S (K + kcC n) w (2 * n + 1) (mcC n)))
    (dp : Int) (hdp : dp = ((n + 1 : Nat) : Int)) (K : Nat) (w : World) (hs : Strm w S K) (hK : K + kcC (n + 1) ≤ 9000) : Calls Tryz.prog 4 #[S.p, .int .i64 dp] w (GenC S (K + kcC (n + 1)) w (2 * (n + 1) + 1) (mcC (n + 1))) := by
  obtain ⟨i0, hi, hz0, hz1, hz2⟩ := info_parts infoCond
  have IH := Lib.hid ih
  clear ih
  have hdp1 : 1 ≤ dp := by omega
  have hdp2 : dp ≤ 3 := by omega
  have hK1 : K ≤ 8995 := by simp only [kcC] at hK; omega
  have hk41 := kcC_ge n
  have HDP := Lib.hid hdp
  clear hdp
  have HM := Lib.hid (Mk.new hs condZ 30)
  clear hs
  go_enter Tryz.func4, Tryz.ntmps4
  go_upto_region 1 with (fail)
  unfold condZ at HM
  simp only [List.toArray] at HM
  generalize w.alloc (.cells _ 30) = w1 at *
  have HM0 := Lib.hid (show Mk w S w.heap.size condZ 30 K w1 from HM.out)
  clear HM
  obtain ⟨q0, hq0⟩ : ∃ z, w.heap.size = z := ⟨_, rfl⟩
  rw [hq0] at HM0 ⊢
  clear hq0
  have s1 := HM0.out.st
  have hd1 : ¬ dp < 1 := by omega
  go_wp2_with fail
  with_reducible refine (flip_any S _ _ _ s1 (by omega) (by omega)).mono ?_
  rintro e w2 ⟨b, rfl, k2, s2⟩
  have HM2 := Lib.hid (HM0.out.draw k2 s2)
  clear k2 s1 HM0
  cases b with
  | true =>
    go_wp2_with fail
    ((with_reducible refine (test_any S _ _ s2 (by omega)).mono ?_); rintro e w3 ⟨x, rfl, hT, hF, hsz, kk, s3⟩)
    have HM3 := Lib.hid (HM2.out.draw kk s3)
    have HT3 := Lib.hid hT
    have HF3 := Lib.hid hF
    have HZ3 := Lib.hid hsz
    have hq2 := HM2.out.ob.lt
    have hw2 := Lib.hid HM2.out.gr.size
    clear hT hF hsz kk s3 s2 HM2
    simp only [Cn.cells]
    go_wp2_with (refine wpList_store_oc _ rfl _ _ _ rfl q0 _ [.int .i64 x.nd.kind, .string x.nd.name, .string x.nd.field, .string x.nd.sign, .slice x.nd.va x.nd.vals.length x.nd.vc, .slice x.nd.wa x.nd.whs.length x.nd.wc, .int .i64 x.nd.within, .int .i64 x.nd.number, .slice x.nd.aa x.args.length x.nd.ac] _ rfl rfl HM3.out.ob sizeCond rfl rfl ?_)
    intro wz oz kz
    have r0 := oz.cell 0 _ rfl
    have r1 := oz.cell 1 _ rfl
    have r2 := oz.cell 2 _ rfl
    have r3 := oz.cell 3 _ rfl
    have r4 := oz.cell 4 _ rfl
    have r5 := oz.cell 5 _ rfl
    have r6 := oz.cell 6 _ rfl
    have r7 := oz.cell 7 _ rfl
    have r8 := oz.cell 8 _ rfl
    have HOz := Lib.hid oz
    have HKz := Lib.hid kz
    clear oz kz
    go_wp2_with fail
    refine bodyPost_ret (v := .agg #[.int .i64 x.nd.kind, .string x.nd.name, .string x.nd.field, .string x.nd.sign, .slice x.nd.va x.nd.vals.length x.nd.vc, .slice x.nd.wa x.nd.whs.length x.nd.wc, .int .i64 x.nd.within, .int .i64 x.nd.number, .slice x.nd.aa x.args.length x.nd.ac]) (by simp [results, Tryz.results4, go_sem, r0, r1, r2, r3, r4, r5, r6, r7, r8]) rfl ?_
    exact GenC.store (K' := K + kcC (n + 1)) (d' := 2 * (n + 1) + 1) (M' := mcC (n + 1)) HM3.out HT3.out HF3.out HZ3.out hw2.out hq2 HKz.out HOz.out (by omega) (by simp only [mcC]; omega) (by simp only [kcC]; omega)
  | false =>
    go_wp2_with fail
    with_reducible refine (pick_at S _ [3, 4, 5] 3 _ _ _ _ s2 (by omega) rfl (by omega) (by omega) (by simp) (by simp)).mono ?_
    rintro e w3 ⟨kind, hm, rfl, kk, s3⟩
    have hkind : 3 ≤ kind ∧ kind ≤ 5 := by
      simp only [List.mem_cons, List.mem_nil_iff, or_false] at hm
      omega
    have HM3 := Lib.hid (HM2.out.draw kk s3)
    clear hm kk HM2 s2
    have HW3 := Lib.hid (show CW (2 * n + 1) w S q0 w3.heap.size kind (.slice none 0 0) [] (K + 2) (w3.alloc (.cells #[.int .i64 kind, .string ⟨#[]⟩, .string ⟨#[]⟩, .string ⟨#[]⟩, .slice none 0 0, .slice none 0 0, .int .i64 0, .int .i64 0, .slice none 0 0] 30)) from ⟨(HM3.out.alloc _).mono (by omega), OB.new w3 [.int .i64 kind, .string ⟨#[]⟩, .string ⟨#[]⟩, .string ⟨#[]⟩, .slice none 0 0, .slice none 0 0, .int .i64 0, .int .i64 0, .slice none 0 0] 30, World.ownsRow_nil _ _ _ _, HM3.out.ob.lt, fun x hx => by cases hx⟩)
    clear HM3 s3
    go_upto_if 21 with (fail)
    generalize w3.alloc (.cells _ 30) = w4 at *
    generalize w3.heap.size = q at *
    go_cut [6] (fun t wx => ∃ m : Nat, t = .int .i64 (m : Int) ∧ 1 ≤ m ∧ m ≤ 3 ∧ CW (2 * n + 1) w S q0 q kind (.slice none 0 0) [] (K + 3) wx)
    case first =>
      have s4 := HW3.out.mkk.st
      by_cases h5 : kind = 5
      · subst h5
        go_wp2_with fail
        go_meet
        exact ⟨1, rfl, by omega, by omega, HW3.out.mono (by omega)⟩
      · have b5 : (kind != 5) = true := by simpa using h5
        clear h5
        go_wp2_with fail
        with_reducible refine (range_any S _ 2 3 _ s4 (by omega) (by omega) (by omega) (by omega)).mono ?_
        rintro e w5 ⟨m', ⟨hm0, hm1⟩, rfl, kk, s5⟩
        obtain ⟨m, rfl⟩ := Int.eq_ofNat_of_zero_le (show 0 ≤ m' by omega)
        have HW5 := Lib.hid (HW3.out.draw kk s5)
        clear kk s5 s4 HW3
        go_wp2_with fail
        go_meet
        exact ⟨m, rfl, by omega, by omega, HW5.out⟩
    case rest =>
    obtain ⟨m, rfl, hm1, hm3, hW⟩ := hcut
    have HW4 := Lib.hid hW
    clear hW HW3
    have HDN : Hid (dp - 1 = (n : Int)) := Lib.hid (by have := HDP.out; omega)
    obtain ⟨kn, hkn⟩ : ∃ z, kcC n = z := ⟨_, rfl⟩
    have HKN := Lib.hid hkn
    obtain ⟨D, hD⟩ : ∃ z, 2 * n + 1 = z := ⟨_, rfl⟩
    have HDD := Lib.hid hD
    obtain ⟨mn, hmn⟩ : ∃ z, mcC n = z := ⟨_, rfl⟩
    have HMN := Lib.hid hmn
    rw [hD] at HW4
    have hkk : K + 5 + 3 * kn ≤ 9000 := by rw [← hkn]; simp only [kcC] at hK; omega
    have IH' := Lib.hid (fun (dp : Int) (h : dp = n) (K : Nat) (w : World) (hs : Strm w S K) (hK : K + kn ≤ 9000) => show Calls Tryz.prog 4 #[S.p, .int .i64 dp] w (GenC S (K + kn) w D mn) by rw [← hkn, ← hD, ← hmn]; exact IH.out dp h K w hs (by omega))
    clear hkn hD hmn IH hK hk41
    go_wp2_with fail
    go_loopw [25] (fun i wr => ∃ (k : Nat) (cur : Value) (l : List Cn), k ≤ m ∧ i = .int .i64 k ∧ l.length = k ∧ Hid (∀ x ∈ l, szS D x mn) ∧ CW D w S q0 q kind cur l (K + 3 + kn * k) wr) (fun i _ => m - (intOf i).toNat)
    case atStart => exact ⟨0, _, [], Nat.zero_le _, rfl, rfl, Lib.hid (by simp), HW4.out⟩
    case round =>
      obtain ⟨k, cur, l, hk, rfl, hl, HSZ, hT⟩ := hrel
      have HT := Lib.hid hT
      have hll := Lib.hid hl
      clear hT HW4 hl
      by_cases hlt : k < m
      · --@a1
        have hnl : l.length ≤ 3 := by have := hll.out; omega
        have hkx : kn * k + kn ≤ 3 * kn := by
          have : kn * (k + 1) ≤ kn * 3 := Nat.mul_le_mul_left _ (by omega)
          rw [Nat.mul_succ] at this
          omega
        obtain ⟨kz, hkz⟩ : ∃ z, kn * k = z := ⟨_, rfl⟩
        rw [hkz] at HT hkx
        have HKZ := Lib.hid hkz
        clear hkz
        go_upto_region 9 with (fail)
        refine wp_region_any (by kernel_rfl) ?_
        change wpAny _ _ _ _ _ _ _ (World.drew _)
        have HTd := Lib.hid HT.out.drew
        clear HT
        generalize World.drew _ = wd at *
        refine wpAny_take (i := 0) (oi := ⟨some 27, _, _, _, _, _⟩) (v := (.pointer (some ⟨q, 8, none⟩))) rfl (by kernel_rfl) (by kernel_rfl) (by kernel_rfl) (fun _ _ _ h => h) (Or.inl ⟨by rfl, fun w => by go_simp⟩) ?_
        refine wpAny_take (i := 2) (oi := ⟨some 29, _, _, _, _, _⟩) (v := S.p) rfl (by kernel_rfl) (by kernel_rfl) (by kernel_rfl) (fun _ _ _ h => h) (Or.inl ⟨by rfl, fun w => by go_simp⟩) ?_
        refine wpAny_take (i := 3) (oi := ⟨some 30, _, _, _, _, _⟩) (v := .int .i64 dp) rfl (by kernel_rfl) (by kernel_rfl) (by kernel_rfl) (fun _ _ _ h => h) (Or.inl ⟨by rfl, fun w => by go_simp⟩) ?_
        refine wpAny_take (i := 4) (oi := ⟨some 31, _, _, _, _, _⟩) (v := .int .i64 (dp - 1)) rfl (by kernel_rfl) (by kernel_rfl) (by kernel_rfl) (fun _ _ _ h => h) (Or.inl ⟨by rfl, fun w => by go_simp; exact IntWalk.i64_in _ (by omega)⟩) ?_
        refine wpAny_mask (n := 3) (m := 6) #[true, false, true, true, true, false, false, false, false, false] [1, 5, 6] (fun i => if i = 6 then [5] else []) [28, 32, 33] (fun d => if d = 28 then u28 else if d = 32 then u32 else u33) (JC1 D w S q0 q kind cur l (K + 3 + kz) kn mn 28 32 33) rfl (by decide) (by kernel_rfl) (by kernel_rfl) ?stp ?hsp ?hendp
        case stp => exact ⟨HTd.out, fun e => (by cases e), fun e => (by cases e), fun e => (by cases e)⟩
        case hsp =>
          intro i hi b u wx hbi hD hJ
          simp only [List.mem_cons, List.mem_nil_iff, or_false] at hi
          have HJ := Lib.hid hJ
          rcases hi with rfl | rfl | rfl
          · refine wpOp_calm (o := ⟨some 28, ?ap1, ?ap2, ?ap3, ?ap4, ?ap5⟩) ?api ?apg ?_
            case api => exact rfl
            case apg => exact rfl
            intro K' Q' hK'
            have HK := Lib.hid hK'
            clear hK'
            have y1 := hJ.base.bx.cell 8 _ rfl
            have yl := hJ.base.bx.lt
            clear hJ
            simp only [setAll, List.foldl]
            go_simp
            exact HK.out _ _ ⟨upd u 28 cur, by kernel_rfl, ⟨HJ.out.base, fun _ => rfl, fun e => HJ.out.p5 e, fun e => HJ.out.p6 e⟩⟩
          · refine wpOp_calm (o := ⟨some 32, ?cp1, ?cp2, ?cp3, ?cp4, ?cp5⟩) ?cpi ?cpg ?_
            case cpi => exact rfl
            case cpg => exact rfl
            intro K' Q' hK'
            have HK := Lib.hid hK'
            clear hK'
            have C := IH'.out (dp - 1) HDN.out (K + 3 + kz) wx (strm_mono hJ.base.mkk.st (by rw [hbi]; exact Nat.le_refl _)) (by omega)
            have HC := Lib.hid C
            clear C
            clear hJ
            simp only [setAll, List.foldl]
            go_simp
            refine HC.out.mono ?_
            rintro e w' ⟨x, rfl, hT, hF, hsz, k', st⟩
            have hwx := HJ.out.base.bx.lt
            have he : Ela D w' q cur x := ⟨hT, fun g hg => hF g (by omega), fun g hg => hF g (HJ.out.base.own.lt g hg).2⟩
            exact HK.out _ _ ⟨upd u 32 x.agg', by kernel_rfl, ⟨HJ.out.base.draw k' st, fun e => HJ.out.p1 e, fun _ => ⟨x, rfl, he, hsz⟩, fun e => by
              obtain ⟨h, x, h1, h2, h3, h4, h5⟩ := HJ.out.p6 e
              have hq1 := HJ.out.base.mkk.sg
              have hq2 := HJ.out.base.lt
              exact ⟨h, x, h1, ⟨h2.1.kept k' (fun g e => by obtain rfl := Option.some.inj e; exact h2.2.1 _ (by omega)), h2.2⟩, h3, h4, h5.grown k' (fun e => h4 (Option.some.inj e).symm)⟩⟩⟩
          · refine wpOp_calm (o := ⟨some 33, ?dp1, ?dp2, ?dp3, ?dp4, ?dp5⟩) ?dpi ?dpg ?_
            case dpi => exact rfl
            case dpg => exact rfl
            intro K' Q' hK'
            have HK := Lib.hid hK'
            clear hK'
            obtain ⟨x, hz, hzm, hzs⟩ := HJ.out.p5 (hD 5 (by simp))
            unfold Cn.agg' at hz
            clear hJ
            simp only [setAll, List.foldl, hz]
            go_simp
            exact HK.out _ _ ⟨upd (upd u 32 x.agg') 33 (.slice (some ⟨wx.heap.size, 0, none⟩) 1 1), by unfold Cn.agg'; kernel_rfl, by
              have hz' : u 32 = x.agg' := hz
              rw [upd_same hz']
              exact ⟨HJ.out.base.alloc _, fun e => HJ.out.p1 e, fun e => by
                obtain ⟨x, h1, h2, h3⟩ := HJ.out.p5 e
                exact ⟨x, h1, ⟨h2.1.alloc _, h2.2⟩, h3⟩, fun _ => ⟨_, x, rfl, ⟨hzm.1.alloc _, hzm.2⟩, hzs, by have := strm_lt HJ.out.base.mkk.st; omega, OB.new wx x.cells 30⟩⟩⟩
        case hendp =>
          intro b u wx hb hJ
          obtain ⟨h, x, h6, hxe, hxs, hne, hc6⟩ := hJ.p6 (hb 6 (by simp))
          have h1 := hJ.p1 (hb 1 (by simp))
          have HW := Lib.hid (hJ.base.mono (show (K + 3 + kz) + cond (b 5) kn 0 ≤ K + 3 + kn * (k + 1) by rw [Nat.mul_succ, HKZ.out]; cases b 5 <;> simp only [cond] <;> omega))
          have hown := HW.out.own
          have hsz := HW.out.bx.lt
          obtain ⟨u32', hu32⟩ : ∃ z, u 32 = z := ⟨_, rfl⟩
          simp only [setAll, List.foldl, h1, h6, hu32]
          clear h1 h6 hb hJ hu32
          refine wpAny_ready (rs := [7]) (by kernel_rfl) (by simp) ?_
          refine AllReady.cons rfl (fun K6 hK6 => ?_) AllReady.nil
          refine step_append_lies (o := ⟨some 34, _, _, _, _, _⟩) _ (by rfl) (.tmp 28) (.tmp 33) 28 (by rfl) (q + 1) 30 i0 _ 9 144 Tryz.underlying28 hi hz0 hz1 hz2 rfl (by decide) cur l.length _ (by kernel_rfl) hown ⟨h, 0, none⟩ 1 1 x.cells (by kernel_rfl) (by rfl) ?cnp (by simp [Cn.cells, Value.oneCell']) (by decide) (by unfold maxLen; omega) (by omega) hsz _ rfl ?_
          case cnp =>
            intro j y hy
            have := hc6.cell j y hy
            rw [Addr.add]
            split
            · rename_i h0; subst h0; exact this
            · simpa using this
          intro g cap wy own hgrow hat hlt2
          have HWy := Lib.hid (HW.out.app hxe own hgrow hat)
          have f1 := HWy.out.1
          have f2 := HWy.out.2.1
          have f3 := HWy.out.2.2.1
          refine hK6 _ _ ?_
          clear hK6 K6 own hgrow hat hown HW hc6 hxe
          refine wpAny_take (i := 8) (oi := ⟨some 35, _, _, _, _, _⟩) (v := (.pointer (some ⟨q, 8, none⟩))) rfl (by kernel_rfl) (by kernel_rfl) (by kernel_rfl) (fun _ _ _ h => h) (Or.inl ⟨by rfl, fun w => by go_simp⟩) ?_
          refine wpAny_ready (rs := [9]) (by kernel_rfl) (by simp) ?_
          refine AllReady.cons rfl (fun K8 hK8 => ?_) AllReady.nil
          go_simp
          refine hK8 _ _ ?_
          clear hK8 K8
          refine wpAny_done (by kernel_rfl) ?_ _
          have HS := Lib.hid HWy.out.2.2.2
          clear HWy f1 f2 f3
          go_wp2_with fail
          go_roundw
          case rel => exact ⟨k + 1, _, l ++ [x], by omega, by go_num, by simp [hll.out], Lib.hid (fun y hy => by
            rcases List.mem_append.1 hy with hy | hy
            · exact HSZ.out y hy
            · obtain rfl := List.mem_singleton.1 hy
              exact hxs), HS.out⟩
          case measure => simp [intOf]; omega
        --@end
      · obtain rfl : k = m := by omega
        have hl0 : 0 < l.length := by have := hll.out; omega
        obtain ⟨g, cap, hcur, hcap1, hcap2⟩ := HT.out.form hl0
        subst hcur
        obtain ⟨K1, hK1'⟩ : ∃ z, K + 3 + kn * k + 1 = z := ⟨_, rfl⟩
        have HK1 := Lib.hid hK1'
        have hkb : kn * k ≤ 3 * kn := by
          have : kn * k ≤ kn * 3 := Nat.mul_le_mul_left _ (by omega)
          omega
        have hK1b : K1 ≤ 8999 := by omega
        have HK1L : Hid (K1 + 1 ≤ K + 3 * kn + 5) := Lib.hid (by omega)
        have HT0 := Lib.hid (HT.out.mono (show K + 3 + kn * k ≤ K1 - 1 by omega))
        have hK1p : 1 ≤ K1 := by omega
        clear HT hK1' hkb hkk
        have s4 := HT0.out.mkk.st
        go_upto_region 11 with (fail)
        go_cut [42] (fun u wx => ∃ b : Bool, u = .bool b ∧ CW D w S q0 q kind (.slice (some ⟨g, 0, none⟩) l.length cap) l K1 wx)
        case first =>
          by_cases h1 : 1 < k
          · have h1' : (1 : Int) < (k : Int) := by omega
            go_wp2_with fail
            with_reducible refine (flip_any S _ _ _ s4 (by omega) (by omega)).mono ?_
            rintro e w5 ⟨b, rfl, kk, s5⟩
            have HT5 := Lib.hid ((HT0.out.draw kk s5).mono (show K1 - 1 + 1 ≤ K1 by omega))
            clear kk s5 s4 HT0
            go_wp2_with fail
            go_meet
            exact ⟨b, rfl, HT5.out⟩
          · have h1' : ¬ (1 : Int) < (k : Int) := by omega
            go_wp2_with fail
            go_meet
            exact ⟨false, rfl, HT0.out.mono (by omega)⟩
        case rest =>
        obtain ⟨b, rfl, hT⟩ := hcut
        have HT := Lib.hid hT
        clear hT HT0 s4
        obtain ⟨x, hx0⟩ : ∃ z, l[0] = z := ⟨_, rfl⟩
        go_upto_if 42 with (fail)
        go_cut [] (fun wx => ∃ (g cap : Nat) (l' : List Cn), 0 < l'.length ∧ l'.length ≤ 4 ∧ l'.length ≤ cap ∧ cap ≤ maxLen ∧ Hid (∀ x ∈ l', szS D x mn) ∧ CW D w S q0 q kind (.slice (some ⟨g, 0, none⟩) l'.length cap) l' K1 wx)
        case first =>
          have hnl : l.length ≤ 3 := by have := hll.out; omega
          cases b with
          | false =>
            go_wp2_with fail
            go_meet
            exact ⟨g, cap, l, hl0, by omega, hcap1, hcap2, HSZ, HT.out⟩
          | true =>
            go_upto_region 12 with (fail)
            refine wp_region_any (by kernel_rfl) ?_
            change wpAny _ _ _ _ _ _ _ (World.drew _)
            have HTd := Lib.hid HT.out.drew
            clear HT
            generalize World.drew _ = wd at *
            refine wpAny_take (i := 0) (oi := ⟨some 43, _, _, _, _, _⟩) (v := (.pointer (some ⟨q, 8, none⟩))) rfl (by kernel_rfl) (by kernel_rfl) (by kernel_rfl) (fun _ _ _ h => h) (Or.inl ⟨by rfl, fun w => by go_simp⟩) ?_
            refine wpAny_take (i := 2) (oi := ⟨some 45, _, _, _, _, _⟩) (v := (.pointer (some ⟨q, 8, none⟩))) rfl (by kernel_rfl) (by kernel_rfl) (by kernel_rfl) (fun _ _ _ h => h) (Or.inl ⟨by rfl, fun w => by go_simp⟩) ?_
            refine wpAny_mask (n := 3) (m := 8) #[true, false, true, false, false, false, false, false, false, false] [1, 3, 4, 5, 6] (fun i => if i = 4 then [3] else if i = 5 then [4] else if i = 6 then [5] else []) [44, 46, 47, 48, 49] (fun d => if d = 44 then u44 else if d = 46 then u46 else if d = 47 then u47 else if d = 48 then u48 else u49) (JE D w S q0 q kind g cap x l K1 44 46 47 48 49) rfl (by decide) (by kernel_rfl) (by kernel_rfl) ?st12 ?hs12 ?he12
            case st12 => exact ⟨HTd.out, fun e => (by cases e), fun e => (by cases e), fun e => (by cases e), fun e => (by cases e), fun e => (by cases e)⟩
            case hs12 =>
              intro i hi b u wx hbi hD hJ
              simp only [List.mem_cons, List.mem_nil_iff, or_false] at hi
              have HJ := Lib.hid hJ
              rcases hi with rfl | rfl | rfl | rfl | rfl
              · --@r12a
                refine wpOp_calm (o := ⟨some 44, ?x12ap1, ?x12ap2, ?x12ap3, ?x12ap4, ?x12ap5⟩) ?x12api ?x12apg ?_
                case x12api => exact rfl
                case x12apg => exact rfl
                intro K' Q' hK'
                have HK := Lib.hid hK'
                clear hK'
                have y1 := hJ.base.bx.cell 8 _ rfl
                have yl := hJ.base.bx.lt
                clear hJ
                simp only [setAll, List.foldl]
                go_simp
                exact HK.out _ _ ⟨upd u 44 (.slice (some ⟨g, 0, none⟩) l.length cap), by kernel_rfl, ⟨HJ.out.base, fun _ => rfl, fun e => HJ.out.p3 e, fun e => HJ.out.p4 e, fun e => HJ.out.p5 e, fun e => HJ.out.p6 e⟩⟩
                --@end
              · --@r12b
                refine wpOp_calm (o := ⟨some 46, ?x12bp1, ?x12bp2, ?x12bp3, ?x12bp4, ?x12bp5⟩) ?x12bpi ?x12bpg ?_
                case x12bpi => exact rfl
                case x12bpg => exact rfl
                intro K' Q' hK'
                have HK := Lib.hid hK'
                clear hK'
                have y1 := hJ.base.bx.cell 8 _ rfl
                have yl := hJ.base.bx.lt
                clear hJ
                simp only [setAll, List.foldl]
                go_simp
                exact HK.out _ _ ⟨upd u 46 (.slice (some ⟨g, 0, none⟩) l.length cap), by kernel_rfl, ⟨HJ.out.base, fun e => HJ.out.p1 e, fun _ => rfl, fun e => HJ.out.p4 e, fun e => HJ.out.p5 e, fun e => HJ.out.p6 e⟩⟩
                --@end
              · --@r12c
                refine wpOp_calm (o := ⟨some 47, ?x12cp1, ?x12cp2, ?x12cp3, ?x12cp4, ?x12cp5⟩) ?x12cpi ?x12cpg ?_
                case x12cpi => exact rfl
                case x12cpg => exact rfl
                intro K' Q' hK'
                have HK := Lib.hid hK'
                clear hK'
                have h3 := HJ.out.p3 (hD 3 (by simp))
                clear hJ
                simp only [setAll, List.foldl, h3]
                go_simp
                exact HK.out _ _ ⟨upd (upd u 46 (.slice (some ⟨g, 0, none⟩) l.length cap)) 47 (.pointer (some ⟨g, 0, none⟩)), by kernel_rfl, by
                  rw [upd_same h3]
                  exact ⟨HJ.out.base, fun e => HJ.out.p1 e, fun e => HJ.out.p3 e, fun _ => rfl, fun e => HJ.out.p5 e, fun e => HJ.out.p6 e⟩⟩
                --@end
              · --@r12d
                refine wpOp_calm (o := ⟨some 48, ?x12dp1, ?x12dp2, ?x12dp3, ?x12dp4, ?x12dp5⟩) ?x12dpi ?x12dpg ?_
                case x12dpi => exact rfl
                case x12dpg => exact rfl
                intro K' Q' hK'
                have HK := Lib.hid hK'
                clear hK'
                have h4 := HJ.out.p4 (hD 4 (by simp))
                have AT := Lib.hid (HJ.out.base.at0 hl0 hx0)
                have gl := AT.out.1
                have c0 := AT.out.2.2.1
                have c1 := AT.out.2.2.2.1
                have c2 := AT.out.2.2.2.2.1
                have c3 := AT.out.2.2.2.2.2.1
                have c4 := AT.out.2.2.2.2.2.2.1
                have c5 := AT.out.2.2.2.2.2.2.2.1
                have c6 := AT.out.2.2.2.2.2.2.2.2.1
                have c7 := AT.out.2.2.2.2.2.2.2.2.2.1
                have c8 := AT.out.2.2.2.2.2.2.2.2.2.2
                clear AT
                clear hJ
                simp only [setAll, List.foldl, h4]
                go_simp
                exact HK.out _ _ ⟨upd (upd u 47 (.pointer (some ⟨g, 0, none⟩))) 48 x.agg', by unfold Cn.agg'; kernel_rfl, by
                  rw [upd_same h4]
                  exact ⟨HJ.out.base, fun e => HJ.out.p1 e, fun e => HJ.out.p3 e, fun e => HJ.out.p4 e, fun _ => rfl, fun e => HJ.out.p6 e⟩⟩
                --@end
              · --@r12e
                refine wpOp_calm (o := ⟨some 49, ?x12ep1, ?x12ep2, ?x12ep3, ?x12ep4, ?x12ep5⟩) ?x12epi ?x12epg ?_
                case x12epi => exact rfl
                case x12epg => exact rfl
                intro K' Q' hK'
                have HK := Lib.hid hK'
                clear hK'
                have h5 := HJ.out.p5 (hD 5 (by simp))
                have h5' := h5
                unfold Cn.agg' at h5
                have hgl := (HJ.out.base.at0 hl0 hx0).1
                have hql := HJ.out.base.bx.lt
                clear hJ
                simp only [setAll, List.foldl, h5]
                go_simp
                exact HK.out _ _ ⟨upd (upd u 48 x.agg') 49 (.slice (some ⟨wx.heap.size, 0, none⟩) 1 1), by unfold Cn.agg'; kernel_rfl, by
                  rw [upd_same h5']
                  exact ⟨HJ.out.base.alloc _, fun e => HJ.out.p1 e, fun e => HJ.out.p3 e, fun e => HJ.out.p4 e, fun e => HJ.out.p5 e, fun _ => ⟨_, rfl, OB.new wx x.cells 30, hql, by omega⟩⟩⟩
                --@end
            case he12 =>
              --@h12
              intro b u wx hb hJ
              obtain ⟨h, h6, hc6, hh1, hh2⟩ := hJ.p6 (hb 6 (by simp))
              have h1 := hJ.p1 (hb 1 (by simp))
              have HW := Lib.hid hJ.base
              have hxe : Ela D wx q (.slice (some ⟨g, 0, none⟩) l.length cap) x := hJ.base.el x (by rw [← hx0]; exact List.getElem_mem hl0)
              have hown := HW.out.own
              have hsz := HW.out.bx.lt
              obtain ⟨u46', hu46⟩ : ∃ z, u 46 = z := ⟨_, rfl⟩
              obtain ⟨u47', hu47⟩ : ∃ z, u 47 = z := ⟨_, rfl⟩
              obtain ⟨u48', hu48⟩ : ∃ z, u 48 = z := ⟨_, rfl⟩
              simp only [setAll, List.foldl, h1, h6, hu46, hu47, hu48]
              clear h1 h6 hb hJ hu46 hu47 hu48
              refine wpAny_ready (rs := [7]) (by kernel_rfl) (by simp) ?_
              refine AllReady.cons rfl (fun K6 hK6 => ?_) AllReady.nil
              refine step_append_lies (o := ⟨some 50, _, _, _, _, _⟩) _ (by rfl) (.tmp 44) (.tmp 49) 28 (by rfl) (q + 1) 30 i0 _ 9 144 Tryz.underlying28 hi hz0 hz1 hz2 rfl (by decide) (.slice (some ⟨g, 0, none⟩) l.length cap) l.length _ (by kernel_rfl) hown ⟨h, 0, none⟩ 1 1 x.cells (by kernel_rfl) (by rfl) ?cnp12 (by simp [Cn.cells, Value.oneCell']) (by decide) (by unfold maxLen; omega) (by omega) hsz _ rfl ?_
              case cnp12 =>
                intro j y hy
                have := hc6.cell j y hy
                rw [Addr.add]
                split
                · rename_i h0; subst h0; exact this
                · simpa using this
              intro g9 cap9 wy own hgrow hat hlt2
              have HWy := Lib.hid (HW.out.app hxe own hgrow hat)
              have f1 := HWy.out.1
              have f2 := HWy.out.2.1
              have f3 := HWy.out.2.2.1
              refine hK6 _ _ ?_
              clear hK6 K6 own hgrow hat hown HW hc6 hxe
              refine wpAny_take (i := 8) (oi := ⟨some 51, _, _, _, _, _⟩) (v := (.pointer (some ⟨q, 8, none⟩))) rfl (by kernel_rfl) (by kernel_rfl) (by kernel_rfl) (fun _ _ _ h => h) (Or.inl ⟨by rfl, fun w => by go_simp⟩) ?_
              refine wpAny_ready (rs := [9]) (by kernel_rfl) (by simp) ?_
              refine AllReady.cons rfl (fun K8 hK8 => ?_) AllReady.nil
              go_simp
              refine hK8 _ _ ?_
              clear hK8 K8
              refine wpAny_done (by kernel_rfl) ?_ _
              have HS := Lib.hid HWy.out.2.2.2
              clear HWy f1 f2 f3
              go_wp2_with fail
              go_meet
              exact ⟨g9, cap9, l ++ [x], by simp, by simp; omega, by
                have := HS.out.own.2
                rcases this with ⟨e, _⟩ | ⟨g', c', _, e, _, _, h1, h2, _⟩
                · cases e
                · injection e with _ _ e3
                  subst e3
                  exact h1, by
                have := HS.out.own.2
                rcases this with ⟨e, _⟩ | ⟨g', c', _, e, _, _, h1, h2, _⟩
                · cases e
                · injection e with _ _ e3
                  subst e3
                  exact h2, Lib.hid (fun y hy => by
                  rcases List.mem_append.1 hy with hy | hy
                  · exact HSZ.out y hy
                  · obtain rfl := List.mem_singleton.1 hy
                    rw [← hx0]; exact HSZ.out _ (List.getElem_mem hl0)), by
                have := HS.out
                simpa using this⟩
              --@end
        case rest =>
        clear HT HSZ hx0 hcap1 hcap2 hll hl0
        clear x l g cap
        obtain ⟨g, cap, l, hl0, h4l, hc1, hc2, HS1, hT⟩ := hcut
        have HT1 := Lib.hid hT
        clear hT
        have s5 := HT1.out.mkk.st
        go_upto_region 13 with (fail)
        go_cut [57] (fun u wx => ∃ b : Bool, u = .bool b ∧ CW D w S q0 q kind (.slice (some ⟨g, 0, none⟩) l.length cap) l (K1 + 1) wx)
        case first =>
          by_cases h1 : 1 < k
          · have h1' : (1 : Int) < (k : Int) := by omega
            go_wp2_with fail
            with_reducible refine (flip_any S _ _ _ s5 (by omega) (by omega)).mono ?_
            rintro e w5 ⟨b, rfl, kk, s6⟩
            have HT5 := Lib.hid (HT1.out.draw kk s6)
            clear kk s5 s6 HT1
            go_wp2_with fail
            go_meet
            exact ⟨b, rfl, HT5.out⟩
          · have h1' : ¬ (1 : Int) < (k : Int) := by omega
            go_wp2_with fail
            go_meet
            exact ⟨false, rfl, HT1.out.mono (by omega)⟩
        case rest =>
        obtain ⟨b, rfl, hT⟩ := hcut
        clear HT1 s5
        have HT := Lib.hid hT
        clear hT
        obtain ⟨x, hx0⟩ : ∃ z, l[0] = z := ⟨_, rfl⟩
        have HSU : Hid (∀ (wx : World) (y : Cn), y ∈ l → TAt D wx y → szS (D + 1) y (mn + 1)) := Lib.hid (fun wx y hy ht => szS_mono ht (Nat.le_succ _) (Nat.le_succ _) (HS1.out y hy))
        go_upto_if 57 with (fail)
        go_cut [] (fun wx => ∃ (g cap : Nat) (l' : List Cn), 0 < l'.length ∧ l'.length ≤ 5 ∧ l'.length ≤ cap ∧ cap ≤ maxLen ∧ Hid (∀ x ∈ l', szS (D + 1) x (mn + 1)) ∧ CW (D + 1) w S q0 q kind (.slice (some ⟨g, 0, none⟩) l'.length cap) l' (K1 + 1) wx)
        case first =>
          cases b with
          | false =>
            go_wp2_with fail
            go_meet
            exact ⟨g, cap, l, hl0, by omega, hc1, hc2, Lib.hid (fun y hy => HSU.out _ y hy (HT.out.el y hy).1), HT.out.up⟩
          | true =>
            go_upto_region 14 with (fail)
            refine wp_region_any (by kernel_rfl) ?_
            change wpAny _ _ _ _ _ _ _ (World.drew _)
            have HTd := Lib.hid HT.out.drew
            clear HT
            generalize World.drew _ = wd at *
            refine wpAny_take (i := 0) (oi := ⟨some 58, _, _, _, _, _⟩) (v := (.pointer (some ⟨q, 8, none⟩))) rfl (by kernel_rfl) (by kernel_rfl) (by kernel_rfl) (fun _ _ _ h => h) (Or.inl ⟨by rfl, fun w => by go_simp⟩) ?_
            refine wpAny_take (i := 2) (oi := ⟨some 60, _, _, _, _, _⟩) (v := (.pointer (some ⟨q, 8, none⟩))) rfl (by kernel_rfl) (by kernel_rfl) (by kernel_rfl) (fun _ _ _ h => h) (Or.inl ⟨by rfl, fun w => by go_simp⟩) ?_
            refine wpAny_mask (n := 3) (m := 10) #[true, false, true, false, false, false, false, false, false, false, false, false] [1, 3, 4, 5, 6, 7, 8] (fun i => if i = 4 then [3] else if i = 5 then [4] else if i = 6 then [5] else if i = 7 then [6] else if i = 8 then [7] else []) [59, 61, 62, 63, 64, 65, 66] (fun d => if d = 59 then u59 else if d = 61 then u61 else if d = 62 then u62 else if d = 63 then u63 else if d = 64 then u64 else if d = 65 then u65 else u66) (JN D w S q0 q kind g cap x l (K1 + 1) 59 61 62 63 64 65 66) rfl (by decide) (by kernel_rfl) (by kernel_rfl) ?st14 ?hs14 ?he14
            case st14 => exact ⟨HTd.out, fun e => (by cases e), fun e => (by cases e), fun e => (by cases e), fun e => (by cases e), fun e => (by cases e), fun e => (by cases e), fun e => (by cases e)⟩
            case hs14 =>
              intro i hi b u wx hbi hD hJ
              simp only [List.mem_cons, List.mem_nil_iff, or_false] at hi
              have HJ := Lib.hid hJ
              rcases hi with rfl | rfl | rfl | rfl | rfl | rfl | rfl
              · --@r14a
                refine wpOp_calm (o := ⟨some 59, ?x14ap1, ?x14ap2, ?x14ap3, ?x14ap4, ?x14ap5⟩) ?x14api ?x14apg ?_
                case x14api => exact rfl
                case x14apg => exact rfl
                intro K' Q' hK'
                have HK := Lib.hid hK'
                clear hK'
                have y1 := hJ.base.bx.cell 8 _ rfl
                have yl := hJ.base.bx.lt
                clear hJ
                simp only [setAll, List.foldl]
                go_simp
                exact HK.out _ _ ⟨upd u 59 (.slice (some ⟨g, 0, none⟩) l.length cap), by kernel_rfl, ⟨HJ.out.base, fun _ => rfl, fun e => HJ.out.p3 e, fun e => HJ.out.p4 e, fun e => HJ.out.p5 e, fun e => HJ.out.p6 e, fun e => HJ.out.p7 e, fun e => HJ.out.p8 e⟩⟩
                --@end
              · --@r14b
                refine wpOp_calm (o := ⟨some 61, ?x14bp1, ?x14bp2, ?x14bp3, ?x14bp4, ?x14bp5⟩) ?x14bpi ?x14bpg ?_
                case x14bpi => exact rfl
                case x14bpg => exact rfl
                intro K' Q' hK'
                have HK := Lib.hid hK'
                clear hK'
                have y1 := hJ.base.bx.cell 8 _ rfl
                have yl := hJ.base.bx.lt
                clear hJ
                simp only [setAll, List.foldl]
                go_simp
                exact HK.out _ _ ⟨upd u 61 (.slice (some ⟨g, 0, none⟩) l.length cap), by kernel_rfl, ⟨HJ.out.base, fun e => HJ.out.p1 e, fun _ => rfl, fun e => HJ.out.p4 e, fun e => HJ.out.p5 e, fun e => HJ.out.p6 e, fun e => HJ.out.p7 e, fun e => HJ.out.p8 e⟩⟩
                --@end
              · --@r14c
                refine wpOp_calm (o := ⟨some 62, ?x14cp1, ?x14cp2, ?x14cp3, ?x14cp4, ?x14cp5⟩) ?x14cpi ?x14cpg ?_
                case x14cpi => exact rfl
                case x14cpg => exact rfl
                intro K' Q' hK'
                have HK := Lib.hid hK'
                clear hK'
                have h3 := HJ.out.p3 (hD 3 (by simp))
                clear hJ
                simp only [setAll, List.foldl, h3]
                go_simp
                exact HK.out _ _ ⟨upd (upd u 61 (.slice (some ⟨g, 0, none⟩) l.length cap)) 62 (.pointer (some ⟨g, 0, none⟩)), by kernel_rfl, by
                  rw [upd_same h3]
                  exact ⟨HJ.out.base, fun e => HJ.out.p1 e, fun e => HJ.out.p3 e, fun _ => rfl, fun e => HJ.out.p5 e, fun e => HJ.out.p6 e, fun e => HJ.out.p7 e, fun e => HJ.out.p8 e⟩⟩
                --@end
              · --@r14d
                refine wpOp_calm (o := ⟨some 63, ?x14dp1, ?x14dp2, ?x14dp3, ?x14dp4, ?x14dp5⟩) ?x14dpi ?x14dpg ?_
                case x14dpi => exact rfl
                case x14dpg => exact rfl
                intro K' Q' hK'
                have HK := Lib.hid hK'
                clear hK'
                have h4 := HJ.out.p4 (hD 4 (by simp))
                have AT := Lib.hid (HJ.out.base.at0 hl0 hx0)
                have gl := AT.out.1
                have c0 := AT.out.2.2.1
                have c1 := AT.out.2.2.2.1
                have c2 := AT.out.2.2.2.2.1
                have c3 := AT.out.2.2.2.2.2.1
                have c4 := AT.out.2.2.2.2.2.2.1
                have c5 := AT.out.2.2.2.2.2.2.2.1
                have c6 := AT.out.2.2.2.2.2.2.2.2.1
                have c7 := AT.out.2.2.2.2.2.2.2.2.2.1
                have c8 := AT.out.2.2.2.2.2.2.2.2.2.2
                clear AT
                clear hJ
                simp only [setAll, List.foldl, h4]
                go_simp
                exact HK.out _ _ ⟨upd (upd u 62 (.pointer (some ⟨g, 0, none⟩))) 63 x.agg', by unfold Cn.agg'; kernel_rfl, by
                  rw [upd_same h4]
                  exact ⟨HJ.out.base, fun e => HJ.out.p1 e, fun e => HJ.out.p3 e, fun e => HJ.out.p4 e, fun _ => rfl, fun e => HJ.out.p6 e, fun e => HJ.out.p7 e, fun e => HJ.out.p8 e⟩⟩
                --@end
              · --@r14e
                refine wpOp_calm (o := ⟨some 64, ?x14ep1, ?x14ep2, ?x14ep3, ?x14ep4, ?x14ep5⟩) ?x14epi ?x14epg ?_
                case x14epi => exact rfl
                case x14epg => exact rfl
                intro K' Q' hK'
                have HK := Lib.hid hK'
                clear hK'
                have h5 := HJ.out.p5 (hD 5 (by simp))
                have h5' := h5
                unfold Cn.agg' at h5
                have hgl := (HJ.out.base.at0 hl0 hx0).1
                have hql := HJ.out.base.bx.lt
                clear hJ
                simp only [setAll, List.foldl, h5]
                go_simp
                exact HK.out _ _ ⟨upd (upd u 63 x.agg') 64 (.slice (some ⟨wx.heap.size, 0, none⟩) 1 1), by unfold Cn.agg'; kernel_rfl, by
                  rw [upd_same h5']
                  exact ⟨HJ.out.base.alloc _, fun e => HJ.out.p1 e, fun e => HJ.out.p3 e, fun e => HJ.out.p4 e, fun e => HJ.out.p5 e, fun _ => ⟨_, rfl, OB.new wx x.cells 30, hql, by omega⟩, fun e => by
                    obtain ⟨h, h1, h2, h3, h4⟩ := HJ.out.p7 e
                    exact ⟨h, h1, h2.alloc _, h3, h4⟩, fun e => by
                    obtain ⟨h2, h, h1, h3, h4, h5, h6⟩ := HJ.out.p8 e
                    exact ⟨h2, h, h1, h3.alloc _, h4.alloc _, h5, h6⟩⟩⟩
                --@end
              · --@r14f
                refine wpOp_calm (o := ⟨some 65, ?x14fp1, ?x14fp2, ?x14fp3, ?x14fp4, ?x14fp5⟩) ?x14fpi ?x14fpg ?_
                case x14fpi => exact rfl
                case x14fpg => exact rfl
                intro K' Q' hK'
                have HK := Lib.hid hK'
                clear hK'
                obtain ⟨h, h6, ho, hh1, hh2⟩ := HJ.out.p6 (hD 6 (by simp))
                clear hJ
                simp only [setAll, List.foldl, h6]
                go_simp
                exact HK.out _ _ ⟨upd (upd u 64 (.slice (some ⟨h, 0, none⟩) 1 1)) 65 (notC x h).agg', by unfold Cn.agg'; kernel_rfl, by
                  rw [upd_same h6]
                  exact ⟨HJ.out.base, fun e => HJ.out.p1 e, fun e => HJ.out.p3 e, fun e => HJ.out.p4 e, fun e => HJ.out.p5 e, fun e => HJ.out.p6 e, fun _ => ⟨h, rfl, ho, hh1, hh2⟩, fun e => HJ.out.p8 e⟩⟩
                --@end
              · --@r14g
                refine wpOp_calm (o := ⟨some 66, ?x14gp1, ?x14gp2, ?x14gp3, ?x14gp4, ?x14gp5⟩) ?x14gpi ?x14gpg ?_
                case x14gpi => exact rfl
                case x14gpg => exact rfl
                intro K' Q' hK'
                have HK := Lib.hid hK'
                clear hK'
                obtain ⟨h, h7, ho, hh1, hh2⟩ := HJ.out.p7 (hD 7 (by simp))
                have h7' := h7
                unfold Cn.agg' notC at h7
                simp only [Cn.nd, Cn.args, List.length_nil, List.length_singleton] at h7
                clear hJ
                simp only [setAll, List.foldl, h7]
                go_simp
                exact HK.out _ _ ⟨upd (upd u 65 (notC x h).agg') 66 (.slice (some ⟨wx.heap.size, 0, none⟩) 1 1), by unfold Cn.agg'; kernel_rfl, by
                  rw [upd_same h7']
                  exact ⟨HJ.out.base.alloc _, fun e => HJ.out.p1 e, fun e => HJ.out.p3 e, fun e => HJ.out.p4 e, fun e => HJ.out.p5 e, fun e => by
                    obtain ⟨h, h1, h2, h3, h4⟩ := HJ.out.p6 e
                    exact ⟨h, h1, h2.alloc _, h3, h4⟩, fun e => by
                    obtain ⟨h, h1, h2, h3, h4⟩ := HJ.out.p7 e
                    exact ⟨h, h1, h2.alloc _, h3, h4⟩, fun _ => ⟨_, h, rfl, OB.new wx (notC x h).cells 30, ho.alloc _, hh1, hh2⟩⟩⟩
                --@end
            case he14 =>
              --@h14
              intro b u wx hb hJ
              obtain ⟨h, h2, h6, hc6, ho2, hh1, hh2⟩ := hJ.p8 (hb 8 (by simp))
              have h1 := hJ.p1 (hb 1 (by simp))
              have HW := Lib.hid hJ.base.up
              have hxe : Ela (D + 1) wx q (.slice (some ⟨g, 0, none⟩) l.length cap) (notC x h2) := notC_el (hJ.base.el x (by rw [← hx0]; exact List.getElem_mem hl0)) ho2 hh1 hh2
              have hown := HW.out.own
              have hsz := HW.out.bx.lt
              obtain ⟨u61', hu61⟩ : ∃ z, u 61 = z := ⟨_, rfl⟩
              obtain ⟨u62', hu62⟩ : ∃ z, u 62 = z := ⟨_, rfl⟩
              obtain ⟨u63', hu63⟩ : ∃ z, u 63 = z := ⟨_, rfl⟩
              obtain ⟨u64', hu64⟩ : ∃ z, u 64 = z := ⟨_, rfl⟩
              obtain ⟨u65', hu65⟩ : ∃ z, u 65 = z := ⟨_, rfl⟩
              simp only [setAll, List.foldl, h1, h6, hu61, hu62, hu63, hu64, hu65]
              clear h1 h6 hb hJ hu61 hu62 hu63 hu64 hu65
              refine wpAny_ready (rs := [9]) (by kernel_rfl) (by simp) ?_
              refine AllReady.cons rfl (fun K6 hK6 => ?_) AllReady.nil
              refine step_append_lies (o := ⟨some 67, _, _, _, _, _⟩) _ (by rfl) (.tmp 59) (.tmp 66) 28 (by rfl) (q + 1) 30 i0 _ 9 144 Tryz.underlying28 hi hz0 hz1 hz2 rfl (by decide) (.slice (some ⟨g, 0, none⟩) l.length cap) l.length _ (by kernel_rfl) hown ⟨h, 0, none⟩ 1 1 (notC x h2).cells (by kernel_rfl) (by rfl) ?cnp14 (by simp [Cn.cells, Value.oneCell']) (by decide) (by unfold maxLen; omega) (by omega) hsz _ rfl ?_
              case cnp14 =>
                intro j y hy
                have := hc6.cell j y hy
                rw [Addr.add]
                split
                · rename_i h0; subst h0; exact this
                · simpa using this
              intro g9 cap9 wy own hgrow hat hlt2
              have HWy := Lib.hid (HW.out.app hxe own hgrow hat)
              have f1 := HWy.out.1
              have f2 := HWy.out.2.1
              have f3 := HWy.out.2.2.1
              refine hK6 _ _ ?_
              clear hK6 K6 own hgrow hat hown HW hc6 hxe
              refine wpAny_take (i := 10) (oi := ⟨some 68, _, _, _, _, _⟩) (v := (.pointer (some ⟨q, 8, none⟩))) rfl (by kernel_rfl) (by kernel_rfl) (by kernel_rfl) (fun _ _ _ h => h) (Or.inl ⟨by rfl, fun w => by go_simp⟩) ?_
              refine wpAny_ready (rs := [11]) (by kernel_rfl) (by simp) ?_
              refine AllReady.cons rfl (fun K8 hK8 => ?_) AllReady.nil
              go_simp
              refine hK8 _ _ ?_
              clear hK8 K8
              refine wpAny_done (by kernel_rfl) ?_ _
              have HS := Lib.hid HWy.out.2.2.2
              clear HWy f1 f2 f3
              go_wp2_with fail
              go_meet
              exact ⟨g9, cap9, l ++ [notC x h2], by simp, by simp; omega, by
                have := HS.out.own.2
                rcases this with ⟨e, _⟩ | ⟨g', c', _, e, _, _, h1, h2, _⟩
                · cases e
                · injection e with _ _ e3
                  subst e3
                  exact h1, by
                have := HS.out.own.2
                rcases this with ⟨e, _⟩ | ⟨g', c', _, e, _, _, h1, h2, _⟩
                · cases e
                · injection e with _ _ e3
                  subst e3
                  exact h2, Lib.hid (fun y hy => by
                  rcases List.mem_append.1 hy with hy | hy
                  · exact HSU.out wd y hy (HTd.out.el y hy).1
                  · obtain rfl := List.mem_singleton.1 hy
                    exact notC_sz (by rw [← hx0]; exact HS1.out _ (List.getElem_mem hl0))), by
                have := HS.out
                simpa using this⟩
              --@end
        case rest =>
        clear HT HS1 HSU hx0 hc1 hc2 hl0 h4l
        clear x l g cap
        obtain ⟨g, cap, l, hl0, h5l, hc1, hc2, HS1, hT⟩ := hcut
        have HT := Lib.hid hT
        clear hT
        have y0 := HT.out.bx.cell 0 _ rfl
        have y1 := HT.out.bx.cell 1 _ rfl
        have y2 := HT.out.bx.cell 2 _ rfl
        have y3 := HT.out.bx.cell 3 _ rfl
        have y4 := HT.out.bx.cell 4 _ rfl
        have y5 := HT.out.bx.cell 5 _ rfl
        have y6 := HT.out.bx.cell 6 _ rfl
        have y7 := HT.out.bx.cell 7 _ rfl
        have y8 := HT.out.bx.cell 8 _ rfl
        have yl := HT.out.bx.lt
        go_wp2_with (refine wpList_store_oc _ rfl _ _ _ rfl q0 _ [.int .i64 kind, .string ⟨#[]⟩, .string ⟨#[]⟩, .string ⟨#[]⟩, .slice none 0 0, .slice none 0 0, .int .i64 0, .int .i64 0, .slice (some ⟨g, 0, none⟩) l.length cap] _ rfl rfl HT.out.mkk.ob sizeCond rfl rfl ?_)
        intro wz oz kz
        have r0 := oz.cell 0 _ rfl
        have r1 := oz.cell 1 _ rfl
        have r2 := oz.cell 2 _ rfl
        have r3 := oz.cell 3 _ rfl
        have r4 := oz.cell 4 _ rfl
        have r5 := oz.cell 5 _ rfl
        have r6 := oz.cell 6 _ rfl
        have r7 := oz.cell 7 _ rfl
        have r8 := oz.cell 8 _ rfl
        have HOz := Lib.hid oz
        have HKz := Lib.hid kz
        clear oz kz y0 y1 y2 y3 y4 y5 y6 y7 y8 yl
        go_wp2_with fail
        refine bodyPost_ret (v := .agg #[.int .i64 kind, .string ⟨#[]⟩, .string ⟨#[]⟩, .string ⟨#[]⟩, .slice none 0 0, .slice none 0 0, .int .i64 0, .int .i64 0, .slice (some ⟨g, 0, none⟩) l.length cap]) (by simp [results, Tryz.results4, go_sem, r0, r1, r2, r3, r4, r5, r6, r7, r8]) rfl ?_
        have e1 : 2 * (n + 1) + 1 = D + 1 + 1 := by rw [← HDD.out]; omega
        have e2 : kcC (n + 1) = 3 * kn + 5 := by rw [← HKN.out]; rfl
        have e3 : mcC (n + 1) = 5 * mn + 6 := by rw [← HMN.out]; rfl
        rw [e1, e2, e3]
        exact HT.out.gen (M1 := mn + 1) (by unfold i64B; omega) hc1 hc2 (by omega) HKz.out HOz.out (by have := HK1L.out; omega) HS1.out (by have := Nat.mul_le_mul_right (mn + 1) h5l; omega)
theorem cond_any : ∀ (n : Nat) (S : SC) (dp : Int), n ≤ 3 → dp = n → ∀ (K : Nat) (w : World), Strm w S K → K + kcC n ≤ 9000 → Calls Tryz.prog 4 #[S.p, .int .i64 dp] w (GenC S (K + kcC n) w (2 * n + 1) (mcC n))
  | 0, S, dp, _, h, K, w, hs, hK => by
    obtain rfl : dp = 0 := h
    exact cond_zero S K w hs (by omega)
  | n + 1, S, dp, hn, h, K, w, hs, hK => cond_succ S n (by omega) (fun dp h K w hs hK => cond_any n S dp (by omega) h K w hs hK) dp h K w hs hK
end Go.Proofs.YtdiioecpponnmaaGreatDoor
