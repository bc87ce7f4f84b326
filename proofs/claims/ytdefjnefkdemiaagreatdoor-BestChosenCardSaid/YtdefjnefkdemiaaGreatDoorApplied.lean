/- handref1.applied (printed by gen_applied.py). -/
import Derived.Test.YtdefjnefkdemiaaGreatDoorFreed
import Derived.Test.YtdefjnefkdemiaaGreatDoorApply
import Derived.Test.YtdefjnefkdemiaaGreatDoorM2
import Derived.Test.YtdefjnefkdemiaaGreatDoorDealt
import Derived.Test.YtdefjnefkdemiaaGreatDoorNats
import Derived.StillTailTactics
set_option linter.unusedVariables false
namespace Go.Proofs.YtdefjnefkdemiaaGreatDoor
open Go.RowKit Go.Sort

theorem cap_any (q M n : Nat) (w : World) (h : w.cell? ⟨q, 6, none⟩ = some (.int .i64 (M : Int))) :
    Calls Tryz.prog 67 #[.int .i64 (n : Int), .pointer (some ⟨q, 0, none⟩)] w fun e w' => e = .returned (.int .i64 (capN M n : Nat)) ∧ w' = w := by
  have hl := World.block_lt_of_cell? _ _ h
  by_cases hM0 : M = 0
  · subst hM0
    have hc := Lib.hid (show capN 0 n = n by unfold capN; rw [if_pos rfl])
    go_enter Tryz.func67, Tryz.ntmps67
    go_wp2_with fail
    go_ret
    exact ⟨ret_int (show (n : Int) = ((capN 0 n : Nat) : Int) by rw [hc.out]), rfl⟩
  · have e0 : decide ((0 : Int) < (M : Int)) = true := decide_eq_true (by omega)
    have hm0 : 0 < M := by omega
    have hc := Lib.hid (show ((capN M n : Nat) : Int) = min (n : Int) (M : Int) by unfold capN; rw [if_neg hM0]; omega)
    go_enter Tryz.func67, Tryz.ntmps67
    go_wp2_with fail
    go_ret
    exact ⟨ret_int hc.out.symm, rfl⟩
theorem ownN_zero (x : Of) (li : List It) (left : List Nat) (h : (ownN x li left).sum = 0) : ownN x li left = List.replicate left.length 0 := by
  rw [List.eq_replicate_iff]
  refine ⟨by simp [ownN], fun z hz => ?_⟩
  generalize ownN x li left = l at *
  induction l with
  | nil => simp at hz
  | cons y l ih =>
    rw [List.sum_cons] at h
    rcases List.mem_cons.1 hz with rfl | hz
    · omega
    · exact ih (by omega) hz
theorem zeros_at {w : World} {g n : Nat} (h : RowG w g n (fun _ => .int .i64 0)) : natsAt w (some ⟨g, 0, none⟩) (List.replicate n 0) := by
  refine h.ints (by simp) fun j hj => ?_
  simp
theorem Below.size' {b : Nat} {w w' : World} (h : Below b w w') (hb : b ≤ w.heap.size) : b ≤ w'.heap.size := Nat.le_trans hb h.size
theorem natsAt.drew' {w : World} {a : Option Addr} {l : List Nat} (h : natsAt w a l) : natsAt w.drew a l := h

set_option maxRecDepth 100000 in
set_option maxHeartbeats 16000000 in
theorem applied4_any (x : Of) (ai : Option Addr) (li : List It) (n ci : Nat) (sp : Int) (la : Option Addr) (left : List Nat) (cl sh : Nat) (w : World)
    (hx : x.ok) (hxb : ofB x = true) (hxk : x.kind = 4) (hxt : StrsAt w x.tv x.tags)
    (hni : li.length = n) (hn : left.length = n) (hn1 : n < 20) (hI : RAt w ai 4 It.cells li) (hTG : TagsAt It.tv It.tags w li) (hok : ∀ y ∈ li, y.ok) (hit : ∀ y ∈ li, itB y = true) (hL : natsAt w la left) (hb : ∀ z ∈ left, z ≤ 1000000000) (hs : sh ≤ 1000000000000) :
    Calls Tryz.prog 43 #[.agg x.cells.toArray, .agg #[.slice ai n ci, .int .i64 sp], .slice la n cl, .int .i64 (sh : Nat)] w fun e w' => ∃ a' c', e = .returned (.tuple #[.slice a' n c', .int .i64 (shN x sh : Nat)]) ∧ natsAt w' a' (cutN x li left) ∧ Below w.heap.size w w' ∧ (∀ p off, a' = some ⟨p, off, none⟩ → w.heap.size ≤ p) := by
  obtain ⟨i0, hi, hz0, hz1, hz2⟩ := info_parts infoP_int
  have HN := Lib.hid hn
  have HNI := Lib.hid hni
  have HI := Lib.hid hI
  have HL := Lib.hid hL
  have HBL := Lib.hid hb
  have HLE := Lib.hid (cutN_le x li left hxb)
  have HM := Lib.hid (fun y w' (h1 : y ∈ li) (hbl : Below w.heap.size w w') => matchesR_any x y w' (by have := hx.2.2.2.2.2.2.2.1; omega) (by have := (hok y h1).2.2.2.2.2.1; omega) (hxt.below hbl) ((hTG y h1).below hbl))
  have HFD := Lib.hid (fun (hk3 : x.kind = 3) (w' : World) (hbl : Below w.heap.size w w') => freed_any x ai li n ci sp la left cl w' hx hxb hk3 (hxt.below hbl) hni hn hn1 (hI.below hbl) (hTG.below hbl) hok hit (natsAt.below hL hbl) hb)
  obtain ⟨a0, a1, a2, -, m0, m1⟩ := ofB_kd hxb
  have HV4 : Hid (cutN x li left = List.replicate left.length 0) := Lib.hid (by unfold cutN; rw [if_neg (by omega), if_neg (by omega), if_neg (by omega)])
  have HS4 : Hid (shN x sh = capN x.most.toNat (min x.a.toNat sh)) := Lib.hid (by unfold shN; rw [if_pos hxk])
  obtain ⟨k0, kd, ia, ib, tv, tc, tags, le, mo, gr, al, od, fr, t2⟩ := x
  simp only at hxk
  subst hxk
  simp only at HM HLE HFD HV4 HS4 a0 a1 a2 m0 m1 ⊢
  obtain ⟨A, rfl⟩ : ∃ A : Nat, ia = A := ⟨ia.toNat, by omega⟩
  obtain ⟨M, rfl⟩ : ∃ M : Nat, mo = M := ⟨mo.toNat, by omega⟩
  simp only [Int.toNat_natCast] at HS4
  rw [show (Of.cells ⟨k0, 4, A, ib, tv, tc, tags, le, M, gr, al, od, fr, t2⟩).toArray = #[.string k0, .int .i64 4, .int .i64 (A : Nat), .int .i64 ib, .slice tv tags.length tc, .int .i64 le, .int .i64 (M : Nat), .string gr, .bool al, .int .i64 od, .int .i64 fr, .int .i64 t2] from rfl]
  try rw [show (Of.cells ⟨k0, 4, A, ib, tv, tc, tags, le, M, gr, al, od, fr, t2⟩).toArray = #[.string k0, .int .i64 4, .int .i64 (A : Nat), .int .i64 ib, .slice tv tags.length tc, .int .i64 le, .int .i64 (M : Nat), .string gr, .bool al, .int .i64 od, .int .i64 fr, .int .i64 t2] from rfl] at HM
  obtain ⟨H, hH⟩ : ∃ H, w.heap.size = H := ⟨_, rfl⟩
  have HX0 := Lib.hid ((XB.new w [.string k0, .int .i64 4, .int .i64 (A : Nat), .int .i64 ib, .slice tv tags.length tc, .int .i64 le, .int .i64 (M : Nat), .string gr, .bool al, .int .i64 od, .int .i64 fr, .int .i64 t2] 37).alloc (.cells #[.slice ai n ci, .int .i64 sp] 30))
  have HY0 := Lib.hid (XB.new (w.alloc (.cells #[.string k0, .int .i64 4, .int .i64 (A : Nat), .int .i64 ib, .slice tv tags.length tc, .int .i64 le, .int .i64 (M : Nat), .string gr, .bool al, .int .i64 od, .int .i64 fr, .int .i64 t2] 37)) [.slice ai n ci, .int .i64 sp] 30)
  have HB0 := Lib.hid (((Below.refl w.heap.size w).alloc (Nat.le_refl _) (.cells #[.string k0, .int .i64 4, .int .i64 (A : Nat), .int .i64 ib, .slice tv tags.length tc, .int .i64 le, .int .i64 (M : Nat), .string gr, .bool al, .int .i64 od, .int .i64 fr, .int .i64 t2] 37)).alloc (by simp) (.cells #[.slice ai n ci, .int .i64 sp] 30))
  simp only [List.toArray] at HX0 HY0
  have hz : (w.alloc (.cells #[.string k0, .int .i64 4, .int .i64 (A : Nat), .int .i64 ib, .slice tv tags.length tc, .int .i64 le, .int .i64 (M : Nat), .string gr, .bool al, .int .i64 od, .int .i64 fr, .int .i64 t2] 37)).heap.size = w.heap.size + 1 := by simp
  rw [hz] at HY0
  have hz' : ((w.alloc (.cells #[.string k0, .int .i64 4, .int .i64 (A : Nat), .int .i64 ib, .slice tv tags.length tc, .int .i64 le, .int .i64 (M : Nat), .string gr, .bool al, .int .i64 od, .int .i64 fr, .int .i64 t2] 37)).alloc (.cells #[.slice ai n ci, .int .i64 sp] 30)).heap.size = w.heap.size + 2 := by simp
  rw [hH] at HX0 HY0 HB0 hz'
  have HH := Lib.hid hH
  clear hni hn hI hTG hok hb hx hxt hL hit hxb hz
  go_enter Tryz.func43, Tryz.ntmps43
  go_upto_region 2 with (fail)
  generalize (w.alloc (.cells #[.string k0, .int .i64 4, .int .i64 (A : Nat), .int .i64 ib, .slice tv tags.length tc, .int .i64 le, .int .i64 (M : Nat), .string gr, .bool al, .int .i64 od, .int .i64 fr, .int .i64 t2] 37)).alloc (.cells #[.slice ai n ci, .int .i64 sp] 30) = w1 at *
  clear hH
  obtain ⟨lg, hlg⟩ : ∃ lg, w1.heap.size = lg := ⟨_, rfl⟩
  have HLG : Hid (lg = H + 2) := Lib.hid (by omega)
  clear hz'
  go_wp2_with (first | refine wpList_make_row _ rfl _ _ 22 rfl 3 i0 (.int .i64 0) Tryz.underlying22 hi hz0 hz1 rfl n rfl rfl ?d1 ?d2 ?_)
  case d1 => first | (rw [hz2]; omega) | omega
  case d2 => unfold maxLen; omega
  intro w2 R2 g2 s2
  try rw [hlg] at R2
  try rw [hlg] at s2
  have HX2 := Lib.hid (HX0.out.grown g2 (by simp))
  have HY2 := Lib.hid (HY0.out.grown g2 (by simp))
  have HB2 := Lib.hid (HB0.out.grown g2 (by have h1 := HB0.out.size; have h2 := HH.out; omega) (by simp))
  have HR2 := Lib.hid R2
  have hHl : H + 1 < lg := by have := HLG.out; omega
  have hs2 : lg < w2.heap.size := by have := HLG.out; omega
  clear R2 g2 s2 HX0 HY0 HB0 hlg
  obtain ⟨x0, x1, x2, x3, x4, x5, x6, x7, x8, x9, x10, x11⟩ := HX2.out.at12
  have hxl := HX2.out.1
  obtain ⟨T, hT⟩ : ∃ T, min A sh = T := ⟨_, rfl⟩
  have hTT : min (A : Int) (sh : Int) = (T : Int) := by omega
  have HS := Lib.hid (HS4.out.trans (by rw [hT]))
  have HZ := Lib.hid (zeros_at HR2.out)
  have C := Lib.hid (cap_any H M T w2 x6)
  clear hT HFD HM
  go_wp2_with fail
  with_reducible refine C.out.mono ?_
  rintro e w3 ⟨rfl, rfl⟩
  go_wp2_with fail
  go_ret2
  exact ⟨_, _, congrArg (fun z : Nat => Ending.returned (.tuple #[.slice (some ⟨lg, 0, none⟩) n n, .int .i64 (z : Int)])) HS.out.symm, by rw [HV4.out, HN.out]; exact HZ.out, by rw [HH.out]; exact HB2.out, (fun p off h => by have h1 := HLG.out; have h2 := HH.out; injection h with h; injection h with h; omega)⟩

set_option maxRecDepth 100000 in
set_option maxHeartbeats 16000000 in
theorem applied2_any (x : Of) (ai : Option Addr) (li : List It) (n ci : Nat) (sp : Int) (la : Option Addr) (left : List Nat) (cl sh : Nat) (w : World)
    (hx : x.ok) (hxb : ofB x = true) (hxk : x.kind = 2) (hxt : StrsAt w x.tv x.tags)
    (hni : li.length = n) (hn : left.length = n) (hn1 : n < 20) (hI : RAt w ai 4 It.cells li) (hTG : TagsAt It.tv It.tags w li) (hok : ∀ y ∈ li, y.ok) (hit : ∀ y ∈ li, itB y = true) (hL : natsAt w la left) (hb : ∀ z ∈ left, z ≤ 1000000000) (hs : sh ≤ 1000000000000) :
    Calls Tryz.prog 43 #[.agg x.cells.toArray, .agg #[.slice ai n ci, .int .i64 sp], .slice la n cl, .int .i64 (sh : Nat)] w fun e w' => ∃ a' c', e = .returned (.tuple #[.slice a' n c', .int .i64 (shN x sh : Nat)]) ∧ natsAt w' a' (cutN x li left) ∧ Below w.heap.size w w' ∧ (∀ p off, a' = some ⟨p, off, none⟩ → w.heap.size ≤ p) := by
  obtain ⟨i0, hi, hz0, hz1, hz2⟩ := info_parts infoP_int
  have HN := Lib.hid hn
  have HNI := Lib.hid hni
  have HI := Lib.hid hI
  have HL := Lib.hid hL
  have HBL := Lib.hid hb
  have HLE := Lib.hid (cutN_le x li left hxb)
  have HM := Lib.hid (fun y w' (h1 : y ∈ li) (hbl : Below w.heap.size w w') => matchesR_any x y w' (by have := hx.2.2.2.2.2.2.2.1; omega) (by have := (hok y h1).2.2.2.2.2.1; omega) (hxt.below hbl) ((hTG y h1).below hbl))
  have HFD := Lib.hid (fun (hk3 : x.kind = 3) (w' : World) (hbl : Below w.heap.size w w') => freed_any x ai li n ci sp la left cl w' hx hxb hk3 (hxt.below hbl) hni hn hn1 (hI.below hbl) (hTG.below hbl) hok hit (natsAt.below hL hbl) hb)
  obtain ⟨a0, a1, a2, -, m0, m1⟩ := ofB_kd hxb
  obtain ⟨f, hf⟩ : ∃ f : Nat → Nat, f = fun i => if hitB x li i = true then left.getD i 0 else 0 := ⟨_, rfl⟩
  have HF : Hid (∀ k (h : k < li.length) (h2 : k < left.length), f k = if mtB x li[k] = true then left[k] else 0) := Lib.hid (by
    intro k h h2
    rw [hf]
    simp only
    rw [hitB_at x li k h, getD_lt _ _ h2])
  have HV : Hid (ownN x li left = (List.range n).map f) := Lib.hid (by rw [hf, ← hn]; rfl)
  obtain ⟨k0, kd, ia, ib, tv, tc, tags, le, mo, gr, al, od, fr, t2⟩ := x
  simp only at hxk
  subst hxk
  simp only at HM HF HV HLE HFD a0 a1 a2 m0 m1 ⊢
  obtain ⟨A, rfl⟩ : ∃ A : Nat, ia = A := ⟨ia.toNat, by omega⟩
  obtain ⟨M, rfl⟩ : ∃ M : Nat, mo = M := ⟨mo.toNat, by omega⟩
  rw [show (Of.cells ⟨k0, 2, A, ib, tv, tc, tags, le, M, gr, al, od, fr, t2⟩).toArray = #[.string k0, .int .i64 2, .int .i64 (A : Nat), .int .i64 ib, .slice tv tags.length tc, .int .i64 le, .int .i64 (M : Nat), .string gr, .bool al, .int .i64 od, .int .i64 fr, .int .i64 t2] from rfl]
  try rw [show (Of.cells ⟨k0, 2, A, ib, tv, tc, tags, le, M, gr, al, od, fr, t2⟩).toArray = #[.string k0, .int .i64 2, .int .i64 (A : Nat), .int .i64 ib, .slice tv tags.length tc, .int .i64 le, .int .i64 (M : Nat), .string gr, .bool al, .int .i64 od, .int .i64 fr, .int .i64 t2] from rfl] at HM
  obtain ⟨H, hH⟩ : ∃ H, w.heap.size = H := ⟨_, rfl⟩
  have HX0 := Lib.hid ((XB.new w [.string k0, .int .i64 2, .int .i64 (A : Nat), .int .i64 ib, .slice tv tags.length tc, .int .i64 le, .int .i64 (M : Nat), .string gr, .bool al, .int .i64 od, .int .i64 fr, .int .i64 t2] 37).alloc (.cells #[.slice ai n ci, .int .i64 sp] 30))
  have HY0 := Lib.hid (XB.new (w.alloc (.cells #[.string k0, .int .i64 2, .int .i64 (A : Nat), .int .i64 ib, .slice tv tags.length tc, .int .i64 le, .int .i64 (M : Nat), .string gr, .bool al, .int .i64 od, .int .i64 fr, .int .i64 t2] 37)) [.slice ai n ci, .int .i64 sp] 30)
  have HB0 := Lib.hid (((Below.refl w.heap.size w).alloc (Nat.le_refl _) (.cells #[.string k0, .int .i64 2, .int .i64 (A : Nat), .int .i64 ib, .slice tv tags.length tc, .int .i64 le, .int .i64 (M : Nat), .string gr, .bool al, .int .i64 od, .int .i64 fr, .int .i64 t2] 37)).alloc (by simp) (.cells #[.slice ai n ci, .int .i64 sp] 30))
  simp only [List.toArray] at HX0 HY0
  have hz : (w.alloc (.cells #[.string k0, .int .i64 2, .int .i64 (A : Nat), .int .i64 ib, .slice tv tags.length tc, .int .i64 le, .int .i64 (M : Nat), .string gr, .bool al, .int .i64 od, .int .i64 fr, .int .i64 t2] 37)).heap.size = w.heap.size + 1 := by simp
  rw [hz] at HY0
  have hz' : ((w.alloc (.cells #[.string k0, .int .i64 2, .int .i64 (A : Nat), .int .i64 ib, .slice tv tags.length tc, .int .i64 le, .int .i64 (M : Nat), .string gr, .bool al, .int .i64 od, .int .i64 fr, .int .i64 t2] 37)).alloc (.cells #[.slice ai n ci, .int .i64 sp] 30)).heap.size = w.heap.size + 2 := by simp
  rw [hH] at HX0 HY0 HB0 hz'
  have HH := Lib.hid hH
  clear hni hn hI hTG hok hb hx hxt hL hit hxb hz
  go_enter Tryz.func43, Tryz.ntmps43
  go_upto_region 2 with (fail)
  generalize (w.alloc (.cells #[.string k0, .int .i64 2, .int .i64 (A : Nat), .int .i64 ib, .slice tv tags.length tc, .int .i64 le, .int .i64 (M : Nat), .string gr, .bool al, .int .i64 od, .int .i64 fr, .int .i64 t2] 37)).alloc (.cells #[.slice ai n ci, .int .i64 sp] 30) = w1 at *
  clear hH
  obtain ⟨lg, hlg⟩ : ∃ lg, w1.heap.size = lg := ⟨_, rfl⟩
  have HLG : Hid (lg = H + 2) := Lib.hid (by omega)
  clear hz'
  go_wp2_with (first | refine wpList_make_row _ rfl _ _ 22 rfl 3 i0 (.int .i64 0) Tryz.underlying22 hi hz0 hz1 rfl n rfl rfl ?d1 ?d2 ?_)
  case d1 => first | (rw [hz2]; omega) | omega
  case d2 => unfold maxLen; omega
  intro w2 R2 g2 s2
  try rw [hlg] at R2
  try rw [hlg] at s2
  have HX2 := Lib.hid (HX0.out.grown g2 (by simp))
  have HY2 := Lib.hid (HY0.out.grown g2 (by simp))
  have HB2 := Lib.hid (HB0.out.grown g2 (by have h1 := HB0.out.size; have h2 := HH.out; omega) (by simp))
  have HR2 := Lib.hid R2
  have hHl : H + 1 < lg := by have := HLG.out; omega
  have hs2 : lg < w2.heap.size := by have := HLG.out; omega
  clear R2 g2 s2 HX0 HY0 HB0 hlg
  obtain ⟨x0, x1, x2, x3, x4, x5, x6, x7, x8, x9, x10, x11⟩ := HX2.out.at12
  have hxl := HX2.out.1
  have yy0 := HY2.out.2 0 _ rfl
  have hyl := HY2.out.1
  obtain ⟨og, hog⟩ : ∃ og, w2.heap.size = og := ⟨_, rfl⟩
  have hog2 : lg < og := by omega
  go_wp2_with (first | refine wpList_make_row _ rfl _ _ 22 rfl 3 i0 (.int .i64 0) Tryz.underlying22 hi hz0 hz1 rfl n rfl rfl ?d3 ?d4 ?_)
  case d3 => first | (rw [hz2]; omega) | omega
  case d4 => unfold maxLen; omega
  intro w3 R3 g3 s3
  try rw [hog] at R3
  have HX1 := Lib.hid (HX2.out.grown g3 (by simp))
  have HY1 := Lib.hid (HY2.out.grown g3 (by simp))
  have HB1 := Lib.hid (HB2.out.grown g3 (by omega) (by simp))
  have HR2x := Lib.hid (HR2.out.grown g3 (by simp))
  have HR0 := Lib.hid (R3.congr (f' := upF f 0) fun j _ => by simp [upF])
  clear R3 g3 s3 HX2 HY2 HB2 HR2 x0 x1 x2 x3 x4 x5 x6 x7 x8 x9 x10 x11 hxl yy0 hyl hs2 HFD hog
  have yy0 := HY1.out.2 0 _ rfl
  have hyl := HY1.out.1
  go_wp2_with fail
  clear yy0 hyl HY1
  go_loopw [13, 14, 42] (fun _ _ i wr => ∃ k : Nat, k ≤ n ∧ i = .int .i64 k ∧ RowG wr og n (upF f k) ∧ RowG wr lg n (fun _ => .int .i64 0) ∧ XB wr H [.string k0, .int .i64 2, .int .i64 (A : Nat), .int .i64 ib, .slice tv tags.length tc, .int .i64 le, .int .i64 (M : Nat), .string gr, .bool al, .int .i64 od, .int .i64 fr, .int .i64 t2] ∧ Below H w wr) (fun _ _ i _ => n - (intOf i).toNat)
  case atStart => exact ⟨0, Nat.zero_le _, rfl, HR0.out, HR2x.out, HX1.out, HB1.out⟩
  case round =>
    obtain ⟨k, hk, rfl, hR, hR2, hX, hB⟩ := hrel
    have HR := Lib.hid hR
    have HX := Lib.hid hX
    have HB := Lib.hid hB
    have HR2 := Lib.hid hR2
    by_cases hlt : k < n
    · have hkl : k < li.length := by have := HNI.out; omega
      have hkz : k < left.length := by have := HN.out; omega
      obtain ⟨p, off, rfl, hp, hcell⟩ := HL.out.at_ hkz
      have hcell2 := (hB.cell (p := ⟨p, off + k, none⟩) (by rw [← HH.out]; exact hp)).trans hcell
      obtain ⟨p2, off2, rfl, hp2, y0, y1, y2, y3⟩ := (HI.out.below (by rw [HH.out]; exact hB)).at4 hkl (v0 := .string li[k].key) (v1 := .int .i64 li[k].cents) (v2 := .int .i64 li[k].many) (v3 := .slice li[k].tv li[k].tags.length li[k].tc) rfl
      have b1 := HBL.out left[k] (List.getElem_mem hkz)
      have HFK := Lib.hid (HF.out k hkl hkz)
      have C := Lib.hid (fun w' hbl => HM.out li[k] w' (List.getElem_mem hkl) hbl)
      generalize left[k] = z at *
      generalize mtB ⟨k0, 2, A, ib, tv, tc, tags, le, M, gr, al, od, fr, t2⟩ li[k] = mt at *
      generalize li[k] = y at *
      obtain ⟨yk, yc, ym, yv, ytc, yt⟩ := y
      simp only at y0 y1 y2 y3 C
      try rw [show (It.cells ⟨yk, yc, ym, yv, ytc, yt⟩).toArray = #[.string yk, .int .i64 yc, .int .i64 ym, .slice yv yt.length ytc] from rfl] at C
      have hsH : H ≤ wr.heap.size := by have h1 := HB.out.size; have h2 := HH.out; omega
      have HBa := Lib.hid (HB.out.alloc hsH (.cells #[.string yk, .int .i64 yc, .int .i64 ym, .slice yv yt.length ytc] 60))
      have X0 := Lib.hid (XB.new wr [.string yk, .int .i64 yc, .int .i64 ym, .slice yv yt.length ytc] 60)
      have HXa := Lib.hid (HX.out.alloc (.cells #[.string yk, .int .i64 yc, .int .i64 ym, .slice yv yt.length ytc] 60))
      have HRa := Lib.hid (HR.out.alloc (.cells #[.string yk, .int .i64 yc, .int .i64 ym, .slice yv yt.length ytc] 60))
      have HR2a := Lib.hid (HR2.out.alloc (.cells #[.string yk, .int .i64 yc, .int .i64 ym, .slice yv yt.length ytc] 60))
      have hcell3 := Lib.cell?_alloc_some (.cells #[.string yk, .int .i64 yc, .int .i64 ym, .slice yv yt.length ytc] 60) hcell2
      simp only [List.toArray] at X0
      clear hR hX hB HR HX HB hcell hcell2 hR2 HR2
      go_upto_region 11 with (fail)
      generalize wr.alloc (.cells #[.string yk, .int .i64 yc, .int .i64 ym, .slice yv yt.length ytc] 60) = w5 at *
      obtain ⟨qb, hqb⟩ : ∃ qb, wr.heap.size = qb := ⟨_, rfl⟩
      rw [hqb] at X0
      try rw [hqb]
      clear y0 y1 y2 y3 hqb
      obtain ⟨x0, x1, x2, x3, x4, x5, x6, x7, x8, x9, x10, x11⟩ := HXa.out.at12
      have hxl := HXa.out.1
      obtain ⟨y0, y1, y2, y3⟩ := X0.out.at4
      have hyl := X0.out.1
      go_wp2_with fail
      with_reducible refine (C.out _ (by rw [HH.out]; exact HBa.out)).mono ?_
      rintro e w6 ⟨rfl, d6⟩
      have HR6 := Lib.hid (HRa.out.below d6)
      have HR26 := Lib.hid (HR2a.out.below d6)
      have HX6 := Lib.hid (HXa.out.below d6)
      have HB6 := Lib.hid (HBa.out.trans (d6.mono (by have h1 := HBa.out.size; have h2 := HH.out; omega)))
      have hcell6 := (d6.cell (World.block_lt_of_cell? _ _ hcell3)).trans hcell3
      clear d6 HRa HXa HBa C x0 x1 x2 x3 x4 x5 x6 x7 x8 x9 x10 x11 hxl y0 y1 y2 y3 hyl X0 hcell3
      cases mt with
      | true =>
        have c1 := HR6.out.cell k hlt
        have f1 := HR6.out.free k hlt
        have hq1 : f k = z := HFK.out.trans (if_pos rfl)
        have HQ1 := Lib.hid hq1
        clear hq1
        generalize upF f k k = o1 at *
        have hkc : (k : Int) < (n : Int) := by omega
        go_wp2_with fail
        go_roundw
        case rel =>
          refine ⟨k + 1, by omega, by go_num, ?_, HR26.out.far (by show lg ≠ og; omega) _, ?_, ?_⟩
          · exact (HR6.out.set k hlt _).congr (fun j _ => upF_succ f k j _ HQ1.out)
          · exact HX6.out.grown (grown_set (grown_same _ (some og)) (p := ⟨og, k, none⟩) (.inl rfl) _) (by simp; omega)
          · exact HB6.out.setCell (by show H ≤ og; omega) _
        case measure => simp [intOf]; omega
      | false =>
        have hq1 : f k = 0 := HFK.out.trans (if_neg (by simp))
        have HQ1 := Lib.hid hq1
        clear hq1
        go_wp2_with fail
        go_roundw
        case rel => exact ⟨k + 1, by omega, by go_num, HR6.out.congr (fun j _ => upF_skip f k j HQ1.out), HR26.out, HX6.out, HB6.out⟩
        case measure => simp [intOf]; omega
    · obtain rfl : k = n := by omega
      have HNO := Lib.hid hR.upF
      rw [← HV.out] at HNO
      have HLO := Lib.hid ((ownN_le ⟨k0, 2, A, ib, tv, tc, tags, le, M, gr, al, od, fr, t2⟩ li left).1.trans HN.out)
      have HOB : Hid (∀ z ∈ ownN ⟨k0, 2, A, ib, tv, tc, tags, le, M, gr, al, od, fr, t2⟩ li left, z ≤ 1000000000) := Lib.hid (fun z hz => by
        obtain ⟨j, hj, rfl⟩ := List.mem_iff_getElem.1 hz
        have h1 := (ownN_le ⟨k0, 2, A, ib, tv, tc, tags, le, M, gr, al, od, fr, t2⟩ li left).2 j
        rw [getD_lt _ _ hj] at h1
        have hj2 : j < left.length := by rw [← (ownN_le ⟨k0, 2, A, ib, tv, tc, tags, le, M, gr, al, od, fr, t2⟩ li left).1]; exact hj
        rw [getD_lt _ _ hj2] at h1
        exact Nat.le_trans h1 (HBL.out _ (List.getElem_mem hj2)))
      have HCV : Hid (cutN ⟨k0, 2, A, ib, tv, tc, tags, le, M, gr, al, od, fr, t2⟩ li left = if (ownN ⟨k0, 2, A, ib, tv, tc, tags, le, M, gr, al, od, fr, t2⟩ li left).sum = 0 then ownN ⟨k0, 2, A, ib, tv, tc, tags, le, M, gr, al, od, fr, t2⟩ li left else dealN (capN M (min A (ownN ⟨k0, 2, A, ib, tv, tc, tags, le, M, gr, al, od, fr, t2⟩ li left).sum)) (ownN ⟨k0, 2, A, ib, tv, tc, tags, le, M, gr, al, od, fr, t2⟩ li left)) := Lib.hid (by unfold cutN amtN; rw [if_neg (show ¬ (2 : Int) = 1 by decide), if_pos rfl]; rfl)
      have HSH : Hid (shN ⟨k0, 2, A, ib, tv, tc, tags, le, M, gr, al, od, fr, t2⟩ sh = 0) := Lib.hid (by unfold shN; rw [if_neg (show ¬ (2 : Int) = 4 by decide)])
      have HZZ := Lib.hid (ownN_zero ⟨k0, 2, A, ib, tv, tc, tags, le, M, gr, al, od, fr, t2⟩ li left)
      have HSB : Hid ((ownN ⟨k0, 2, A, ib, tv, tc, tags, le, M, gr, al, od, fr, t2⟩ li left).sum ≤ 20000000000) := Lib.hid (by
        have h := sum_left _ k HLO.out hn1 HOB.out k
        rw [List.take_of_length_le (by rw [HLO.out]; exact Nat.le_refl _)] at h
        exact h)
      have HTO := Lib.hid (fun w' (h : natsAt w' (some ⟨og, 0, none⟩) (ownN ⟨k0, 2, A, ib, tv, tc, tags, le, M, gr, al, od, fr, t2⟩ li left)) => total_nats (some ⟨og, 0, none⟩) (ownN ⟨k0, 2, A, ib, tv, tc, tags, le, M, gr, al, od, fr, t2⟩ li left) k k w' HLO.out (by omega) h (fun x hx => Nat.le_trans (HOB.out x hx) (by omega)))
      obtain ⟨ol, hol⟩ : ∃ l, ownN ⟨k0, 2, A, ib, tv, tc, tags, le, M, gr, al, od, fr, t2⟩ li left = l := ⟨_, rfl⟩
      rw [hol] at HNO HLO HOB HCV HZZ HSB HTO
      clear hol hR hX hB HV HF HM
      obtain ⟨s, hss⟩ : ∃ s, ol.sum = s := ⟨_, rfl⟩
      have HSS := Lib.hid hss
      rw [hss] at HCV HSB HTO HZZ
      obtain ⟨T, hT⟩ : ∃ T, min A s = T := ⟨_, rfl⟩
      have hTT : min (A : Int) (s : Int) = (T : Int) := by omega
      rw [hT] at HCV
      have hT0 : T ≤ s ∧ (s = 0 → T = 0) ∧ (s ≠ 0 → 1 ≤ T) := by omega
      have hcz : (s = 0 → capN M T = 0) ∧ (s ≠ 0 → 1 ≤ capN M T) ∧ capN M T ≤ T := by
        refine ⟨fun h => ?_, fun h => ?_, capN_le M T⟩
        · have := capN_le M T; omega
        · unfold capN; split <;> omega
      obtain ⟨C9, hC9⟩ : ∃ c, capN M T = c := ⟨_, rfl⟩
      have HCP := Lib.hid (fun w' (h : w'.cell? ⟨H, 6, none⟩ = some (.int .i64 (M : Int))) => cap_any H M T w' h)
      rw [hC9] at HCV hcz HCP
      clear hT hC9 hss
      obtain ⟨x0, x1, x2, x3, x4, x5, x6, x7, x8, x9, x10, x11⟩ := HX.out.at12
      have hxl := HX.out.1
      go_upto_region 14 with (fail)
      refine wp_region_still_tail 7 (by kernel_rfl) (by kernel_rfl) ?_
      simp only [List.take_succ_cons, List.take_zero, List.drop_succ_cons, List.drop_zero]
      iterate 4 still_step
      still_call ((HTO.out _ HNO.out.drew').mono fun e w' h => ⟨h.1, h.2.symm⟩)
      still_step
      still_call (HCP.out _ x6)
      refine wpStill_nil ?_
      change wpList _ _ _ _ _ wr.drew
      have HNO6 := Lib.hid HNO.out.drew'
      have HZO6 := Lib.hid (zeros_at HR2.out.drew)
      have HB6 := Lib.hid HB.out.drew
      clear x0 x1 x2 x3 x4 x5 x6 x7 x8 x9 x10 x11 hxl HNO HR2 HR HX HB HTO HCP
      generalize wr.drew = w6 at *
      by_cases hs0 : s = 0
      · have h9 : C9 = 0 := hcz.1 hs0
        subst h9
        have HCE : Hid (cutN ⟨k0, 2, A, ib, tv, tc, tags, le, M, gr, al, od, fr, t2⟩ li left = List.replicate k 0) := Lib.hid (by rw [HCV.out, if_pos hs0, HZZ.out hs0, HN.out])
        go_wp2_with fail
        go_ret2
        exact ⟨_, ⟨_, congrArg (fun z : Nat => Ending.returned (.tuple #[.slice (some ⟨lg, 0, none⟩) k k, .int .i64 (z : Int)])) HSH.out.symm⟩, by rw [HCE.out]; exact HZO6.out, by rw [HH.out]; exact HB6.out, (fun p off h => by have h1 := HLG.out; have h2 := HH.out; injection h with h; injection h with h; omega)⟩
      · have h9 : 1 ≤ C9 := hcz.2.1 hs0
        have hd : decide ((0 : Int) < (C9 : Int)) = true := decide_eq_true (by omega)
        have hC9 : 0 < C9 := h9
        have HCE : Hid (cutN ⟨k0, 2, A, ib, tv, tc, tags, le, M, gr, al, od, fr, t2⟩ li left = dealN C9 ol) := Lib.hid (by rw [HCV.out, if_neg hs0])
        have hk0 : 0 < k := by
          rcases Nat.eq_zero_or_pos k with h0 | h0
          · have h1 := List.eq_nil_of_length_eq_zero (HLO.out.trans h0)
            have h2 := HSS.out
            rw [h1] at h2
            simp at h2
            omega
          · exact h0
        have C := Lib.hid (dealt_new false C9 (some ⟨og, 0, none⟩) ol k k w6 (by omega) HLO.out hk0 (by omega) HNO6.out (fun x hx => Nat.le_trans (HOB.out x hx) (by omega)) (by rw [HSS.out]; omega) (by rw [HSS.out]; have := HSB.out; omega))
        clear hk0
        go_wp2_with fail
        with_reducible refine C.out.mono ?_
        rintro e w7 ⟨g7, rfl, hI7, d7, hg7⟩
        have HI7 := Lib.hid hI7
        have HB7 := Lib.hid (HB6.out.trans (d7.mono (by have h1 := HB6.out.size; have h2 := HH.out; omega)))
        clear hI7 d7 C
        go_wp2_with fail
        go_ret2
        exact ⟨_, _, congrArg (fun z : Nat => Ending.returned (.tuple #[.slice (some ⟨g7, 0, none⟩) k k, .int .i64 (z : Int)])) HSH.out.symm, by rw [HCE.out]; unfold natsAt; rw [← dealL_N]; exact HI7.out, by rw [HH.out]; exact HB7.out, (fun p off h => by have h2 := HB6.out.size; injection h with h; injection h with h; omega)⟩

set_option maxRecDepth 100000 in
set_option maxHeartbeats 16000000 in
theorem applied1_any (x : Of) (ai : Option Addr) (li : List It) (n ci : Nat) (sp : Int) (la : Option Addr) (left : List Nat) (cl sh : Nat) (w : World)
    (hx : x.ok) (hxb : ofB x = true) (hxk : x.kind = 1) (hxt : StrsAt w x.tv x.tags)
    (hni : li.length = n) (hn : left.length = n) (hn1 : n < 20) (hI : RAt w ai 4 It.cells li) (hTG : TagsAt It.tv It.tags w li) (hok : ∀ y ∈ li, y.ok) (hit : ∀ y ∈ li, itB y = true) (hL : natsAt w la left) (hb : ∀ z ∈ left, z ≤ 1000000000) (hs : sh ≤ 1000000000000) :
    Calls Tryz.prog 43 #[.agg x.cells.toArray, .agg #[.slice ai n ci, .int .i64 sp], .slice la n cl, .int .i64 (sh : Nat)] w fun e w' => ∃ a' c', e = .returned (.tuple #[.slice a' n c', .int .i64 (shN x sh : Nat)]) ∧ natsAt w' a' (cutN x li left) ∧ Below w.heap.size w w' ∧ (∀ p off, a' = some ⟨p, off, none⟩ → w.heap.size ≤ p) := by
  obtain ⟨i0, hi, hz0, hz1, hz2⟩ := info_parts infoP_int
  have HN := Lib.hid hn
  have HNI := Lib.hid hni
  have HI := Lib.hid hI
  have HL := Lib.hid hL
  have HBL := Lib.hid hb
  have HLE := Lib.hid (cutN_le x li left hxb)
  have HM := Lib.hid (fun y w' (h1 : y ∈ li) (hbl : Below w.heap.size w w') => matchesR_any x y w' (by have := hx.2.2.2.2.2.2.2.1; omega) (by have := (hok y h1).2.2.2.2.2.1; omega) (hxt.below hbl) ((hTG y h1).below hbl))
  have HFD := Lib.hid (fun (hk3 : x.kind = 3) (w' : World) (hbl : Below w.heap.size w w') => freed_any x ai li n ci sp la left cl w' hx hxb hk3 (hxt.below hbl) hni hn hn1 (hI.below hbl) (hTG.below hbl) hok hit (natsAt.below hL hbl) hb)
  obtain ⟨a0, a1, a2, -, m0, m1⟩ := ofB_kd hxb
  obtain ⟨f, hf⟩ : ∃ f : Nat → Nat, f = fun i => if hitB x li i = true then left.getD i 0 * x.a.toNat / 100 else 0 := ⟨_, rfl⟩
  have HF : Hid (∀ k (h : k < li.length) (h2 : k < left.length), f k = if mtB x li[k] = true then left[k] * x.a.toNat / 100 else 0) := Lib.hid (by
    intro k h h2
    rw [hf]
    simp only
    rw [hitB_at x li k h, getD_lt _ _ h2])
  have HV : Hid (percN x li left = (List.range n).map f) := Lib.hid (by rw [hf, ← hn]; rfl)
  obtain ⟨k0, kd, ia, ib, tv, tc, tags, le, mo, gr, al, od, fr, t2⟩ := x
  simp only at hxk
  subst hxk
  simp only at HM HF HV HLE HFD a0 a1 a2 m0 m1 ⊢
  obtain ⟨A, rfl⟩ : ∃ A : Nat, ia = A := ⟨ia.toNat, by omega⟩
  obtain ⟨M, rfl⟩ : ∃ M : Nat, mo = M := ⟨mo.toNat, by omega⟩
  simp only [Int.toNat_natCast] at HF
  rw [show (Of.cells ⟨k0, 1, A, ib, tv, tc, tags, le, M, gr, al, od, fr, t2⟩).toArray = #[.string k0, .int .i64 1, .int .i64 (A : Nat), .int .i64 ib, .slice tv tags.length tc, .int .i64 le, .int .i64 (M : Nat), .string gr, .bool al, .int .i64 od, .int .i64 fr, .int .i64 t2] from rfl]
  try rw [show (Of.cells ⟨k0, 1, A, ib, tv, tc, tags, le, M, gr, al, od, fr, t2⟩).toArray = #[.string k0, .int .i64 1, .int .i64 (A : Nat), .int .i64 ib, .slice tv tags.length tc, .int .i64 le, .int .i64 (M : Nat), .string gr, .bool al, .int .i64 od, .int .i64 fr, .int .i64 t2] from rfl] at HM
  obtain ⟨H, hH⟩ : ∃ H, w.heap.size = H := ⟨_, rfl⟩
  have HX0 := Lib.hid ((XB.new w [.string k0, .int .i64 1, .int .i64 (A : Nat), .int .i64 ib, .slice tv tags.length tc, .int .i64 le, .int .i64 (M : Nat), .string gr, .bool al, .int .i64 od, .int .i64 fr, .int .i64 t2] 37).alloc (.cells #[.slice ai n ci, .int .i64 sp] 30))
  have HY0 := Lib.hid (XB.new (w.alloc (.cells #[.string k0, .int .i64 1, .int .i64 (A : Nat), .int .i64 ib, .slice tv tags.length tc, .int .i64 le, .int .i64 (M : Nat), .string gr, .bool al, .int .i64 od, .int .i64 fr, .int .i64 t2] 37)) [.slice ai n ci, .int .i64 sp] 30)
  have HB0 := Lib.hid (((Below.refl w.heap.size w).alloc (Nat.le_refl _) (.cells #[.string k0, .int .i64 1, .int .i64 (A : Nat), .int .i64 ib, .slice tv tags.length tc, .int .i64 le, .int .i64 (M : Nat), .string gr, .bool al, .int .i64 od, .int .i64 fr, .int .i64 t2] 37)).alloc (by simp) (.cells #[.slice ai n ci, .int .i64 sp] 30))
  simp only [List.toArray] at HX0 HY0
  have hz : (w.alloc (.cells #[.string k0, .int .i64 1, .int .i64 (A : Nat), .int .i64 ib, .slice tv tags.length tc, .int .i64 le, .int .i64 (M : Nat), .string gr, .bool al, .int .i64 od, .int .i64 fr, .int .i64 t2] 37)).heap.size = w.heap.size + 1 := by simp
  rw [hz] at HY0
  have hz' : ((w.alloc (.cells #[.string k0, .int .i64 1, .int .i64 (A : Nat), .int .i64 ib, .slice tv tags.length tc, .int .i64 le, .int .i64 (M : Nat), .string gr, .bool al, .int .i64 od, .int .i64 fr, .int .i64 t2] 37)).alloc (.cells #[.slice ai n ci, .int .i64 sp] 30)).heap.size = w.heap.size + 2 := by simp
  rw [hH] at HX0 HY0 HB0 hz'
  have HH := Lib.hid hH
  clear hni hn hI hTG hok hb hx hxt hL hit hxb hz
  go_enter Tryz.func43, Tryz.ntmps43
  go_upto_region 2 with (fail)
  generalize (w.alloc (.cells #[.string k0, .int .i64 1, .int .i64 (A : Nat), .int .i64 ib, .slice tv tags.length tc, .int .i64 le, .int .i64 (M : Nat), .string gr, .bool al, .int .i64 od, .int .i64 fr, .int .i64 t2] 37)).alloc (.cells #[.slice ai n ci, .int .i64 sp] 30) = w1 at *
  clear hH
  obtain ⟨lg, hlg⟩ : ∃ lg, w1.heap.size = lg := ⟨_, rfl⟩
  have HLG : Hid (lg = H + 2) := Lib.hid (by omega)
  clear hz'
  go_wp2_with (first | refine wpList_make_row _ rfl _ _ 22 rfl 3 i0 (.int .i64 0) Tryz.underlying22 hi hz0 hz1 rfl n rfl rfl ?d1 ?d2 ?_)
  case d1 => first | (rw [hz2]; omega) | omega
  case d2 => unfold maxLen; omega
  intro w2 R2 g2 s2
  try rw [hlg] at R2
  try rw [hlg] at s2
  have HX2 := Lib.hid (HX0.out.grown g2 (by simp))
  have HY2 := Lib.hid (HY0.out.grown g2 (by simp))
  have HB2 := Lib.hid (HB0.out.grown g2 (by have h1 := HB0.out.size; have h2 := HH.out; omega) (by simp))
  have HR2 := Lib.hid R2
  have hHl : H + 1 < lg := by have := HLG.out; omega
  have hs2 : lg < w2.heap.size := by have := HLG.out; omega
  clear R2 g2 s2 HX0 HY0 HB0 hlg
  have HLE1 := Lib.hid (percN_le ⟨k0, 1, A, ib, tv, tc, tags, le, M, gr, al, od, fr, t2⟩ li left (a2 (by trivial)))
  have HCV : Hid (cutN ⟨k0, 1, A, ib, tv, tc, tags, le, M, gr, al, od, fr, t2⟩ li left = mostN (percN ⟨k0, 1, A, ib, tv, tc, tags, le, M, gr, al, od, fr, t2⟩ li left) M) := Lib.hid (by unfold cutN; rw [if_pos rfl]; rfl)
  have HSH : Hid (shN ⟨k0, 1, A, ib, tv, tc, tags, le, M, gr, al, od, fr, t2⟩ sh = 0) := Lib.hid (by unfold shN; rw [if_neg (show ¬ (1 : Int) = 4 by decide)])
  have HX1 := HX2
  have HB1 := HB2
  have HR0 := Lib.hid (HR2.out.congr (f' := upF f 0) fun j _ => by simp [upF])
  obtain ⟨x0, x1, x2, x3, x4, x5, x6, x7, x8, x9, x10, x11⟩ := HX2.out.at12
  have hxl := HX2.out.1
  have yy0 := HY2.out.2 0 _ rfl
  have hyl := HY2.out.1
  have ha2 : A ≤ 100 := by have := a2 (by trivial); omega
  clear HX2 HB2 HR2 hs2 HFD
  go_wp2_with fail
  clear yy0 hyl HY2 x0 x1 x2 x3 x4 x5 x6 x7 x8 x9 x10 x11 hxl
  go_loopw [16, 17, 76] (fun _ _ i wr => ∃ k : Nat, k ≤ n ∧ i = .int .i64 k ∧ RowG wr lg n (upF f k) ∧ XB wr H [.string k0, .int .i64 1, .int .i64 (A : Nat), .int .i64 ib, .slice tv tags.length tc, .int .i64 le, .int .i64 (M : Nat), .string gr, .bool al, .int .i64 od, .int .i64 fr, .int .i64 t2] ∧ Below H w wr) (fun _ _ i _ => n - (intOf i).toNat)
  case atStart => exact ⟨0, Nat.zero_le _, rfl, HR0.out, HX1.out, HB1.out⟩
  case round =>
    obtain ⟨k, hk, rfl, hR, hX, hB⟩ := hrel
    have HR := Lib.hid hR
    have HX := Lib.hid hX
    have HB := Lib.hid hB
    by_cases hlt : k < n
    · have hkl : k < li.length := by have := HNI.out; omega
      have hkz : k < left.length := by have := HN.out; omega
      obtain ⟨p, off, rfl, hp, hcell⟩ := HL.out.at_ hkz
      have hcell2 := (hB.cell (p := ⟨p, off + k, none⟩) (by rw [← HH.out]; exact hp)).trans hcell
      obtain ⟨p2, off2, rfl, hp2, y0, y1, y2, y3⟩ := (HI.out.below (by rw [HH.out]; exact hB)).at4 hkl (v0 := .string li[k].key) (v1 := .int .i64 li[k].cents) (v2 := .int .i64 li[k].many) (v3 := .slice li[k].tv li[k].tags.length li[k].tc) rfl
      have b1 := HBL.out left[k] (List.getElem_mem hkz)
      have HFK := Lib.hid (HF.out k hkl hkz)
      have C := Lib.hid (fun w' hbl => HM.out li[k] w' (List.getElem_mem hkl) hbl)
      generalize left[k] = z at *
      generalize mtB ⟨k0, 1, A, ib, tv, tc, tags, le, M, gr, al, od, fr, t2⟩ li[k] = mt at *
      generalize li[k] = y at *
      obtain ⟨yk, yc, ym, yv, ytc, yt⟩ := y
      simp only at y0 y1 y2 y3 C
      try rw [show (It.cells ⟨yk, yc, ym, yv, ytc, yt⟩).toArray = #[.string yk, .int .i64 yc, .int .i64 ym, .slice yv yt.length ytc] from rfl] at C
      have hsH : H ≤ wr.heap.size := by have h1 := HB.out.size; have h2 := HH.out; omega
      have HBa := Lib.hid (HB.out.alloc hsH (.cells #[.string yk, .int .i64 yc, .int .i64 ym, .slice yv yt.length ytc] 60))
      have X0 := Lib.hid (XB.new wr [.string yk, .int .i64 yc, .int .i64 ym, .slice yv yt.length ytc] 60)
      have HXa := Lib.hid (HX.out.alloc (.cells #[.string yk, .int .i64 yc, .int .i64 ym, .slice yv yt.length ytc] 60))
      have HRa := Lib.hid (HR.out.alloc (.cells #[.string yk, .int .i64 yc, .int .i64 ym, .slice yv yt.length ytc] 60))
      have hcell3 := Lib.cell?_alloc_some (.cells #[.string yk, .int .i64 yc, .int .i64 ym, .slice yv yt.length ytc] 60) hcell2
      simp only [List.toArray] at X0
      clear hR hX hB HR HX HB hcell hcell2
      go_upto_region 22 with (fail)
      generalize wr.alloc (.cells #[.string yk, .int .i64 yc, .int .i64 ym, .slice yv yt.length ytc] 60) = w5 at *
      obtain ⟨qb, hqb⟩ : ∃ qb, wr.heap.size = qb := ⟨_, rfl⟩
      rw [hqb] at X0
      try rw [hqb]
      clear y0 y1 y2 y3 hqb
      obtain ⟨x0, x1, x2, x3, x4, x5, x6, x7, x8, x9, x10, x11⟩ := HXa.out.at12
      have hxl := HXa.out.1
      obtain ⟨y0, y1, y2, y3⟩ := X0.out.at4
      have hyl := X0.out.1
      go_wp2_with fail
      with_reducible refine (C.out _ (by rw [HH.out]; exact HBa.out)).mono ?_
      rintro e w6 ⟨rfl, d6⟩
      have HR6 := Lib.hid (HRa.out.below d6)
      have HX6 := Lib.hid (HXa.out.below d6)
      have HB6 := Lib.hid (HBa.out.trans (d6.mono (by have h1 := HBa.out.size; have h2 := HH.out; omega)))
      have hcell6 := (d6.cell (World.block_lt_of_cell? _ _ hcell3)).trans hcell3
      clear d6 HRa HXa HBa C x0 x1 x2 x3 x4 x5 x6 x7 x8 x9 x10 x11 hxl y0 y1 y2 y3 hyl X0 hcell3
      cases mt with
      | true =>
        have c1 := HR6.out.cell k hlt
        have f1 := HR6.out.free k hlt
        have hq1 : f k = z * A / 100 := HFK.out.trans (if_pos rfl)
        have HQ1 := Lib.hid hq1
        clear hq1
        generalize upF f k k = o1 at *
        have hkc : (k : Int) < (n : Int) := by omega
        have hP : (z : Int) * (A : Int) = ((z * A : Nat) : Int) := by simp
        have hP1 : z * A ≤ 1000000000 * 100 := Nat.mul_le_mul b1 (by omega)
        have HPP := Lib.hid hP1
        generalize z * A = P at *
        clear HPP
        have hP2 : (P : Int).tdiv 100 = ((P / 100 : Nat) : Int) := by rw [Int.tdiv_eq_ediv_of_nonneg (by omega)]; omega
        have hP3 : P / 100 ≤ 1000000000 := by omega
        obtain ⟨x0, x1, x2, x3, x4, x5, x6, x7, x8, x9, x10, x11⟩ := HX6.out.at12
        have hxl := HX6.out.1
        go_upto_region 23 with (fail)
        go_still_tail 10, (by kernel_rfl)
        change wpList _ _ _ _ _ w6.drew
        have c2 : w6.drew.cell? ⟨lg, k, none⟩ = some o1 := c1
        have f2 : w6.drew.frozen? ⟨lg, k, none⟩ = false := f1
        have HR6 := Lib.hid HR6.out.drew
        have HX6 := Lib.hid HX6.out.drew
        have HB6 := Lib.hid HB6.out.drew
        clear c1 f1 x0 x1 x2 x3 x4 x5 x6 x7 x8 x9 x10 x11 hxl hcell6
        generalize w6.drew = w7 at *
        go_wp2_with fail
        go_roundw
        case rel =>
          refine ⟨k + 1, by omega, by go_num, ?_, ?_, ?_⟩
          · exact (HR6.out.set k hlt _).congr (fun j _ => upF_succ f k j _ HQ1.out)
          · exact HX6.out.grown (grown_set (grown_same _ (some lg)) (p := ⟨lg, k, none⟩) (.inl rfl) _) (by simp; omega)
          · exact HB6.out.setCell (by show H ≤ lg; omega) _
        case measure => simp [intOf]; omega
      | false =>
        have hq1 : f k = 0 := HFK.out.trans (if_neg (by simp))
        have HQ1 := Lib.hid hq1
        clear hq1
        go_wp2_with fail
        go_roundw
        case rel => exact ⟨k + 1, by omega, by go_num, HR6.out.congr (fun j _ => upF_skip f k j HQ1.out), HX6.out, HB6.out⟩
        case measure => simp [intOf]; omega
    · obtain rfl : k = n := by omega
      have HNO := Lib.hid hR.upF
      rw [← HV.out] at HNO
      have HX6 := HX
      have HB6 := HB
      have HFRB : Hid (w.heap.size ≤ lg) := Lib.hid (by have h1 := HLG.out; have h2 := HH.out; omega)
      clear hR hX hB HV HF HM
      have HLO := Lib.hid (HLE1.out.1.trans HN.out)
      have HOB : Hid (∀ z ∈ percN ⟨k0, 1, A, ib, tv, tc, tags, le, M, gr, al, od, fr, t2⟩ li left, z ≤ 1000000000) := Lib.hid (fun z hz => by
        obtain ⟨j, hj, rfl⟩ := List.mem_iff_getElem.1 hz
        have h1 := HLE1.out.2 j
        rw [getD_lt _ _ hj] at h1
        have hj2 : j < left.length := by rw [← HLE1.out.1]; exact hj
        rw [getD_lt _ _ hj2] at h1
        exact Nat.le_trans h1 (HBL.out _ (List.getElem_mem hj2)))
      have HSB : Hid ((percN ⟨k0, 1, A, ib, tv, tc, tags, le, M, gr, al, od, fr, t2⟩ li left).sum ≤ 20000000000) := Lib.hid (by
        have h := sum_left _ k HLO.out hn1 HOB.out k
        rw [List.take_of_length_le (by rw [HLO.out]; exact Nat.le_refl _)] at h
        exact h)
      have HTO := Lib.hid (fun w' (h : natsAt w' (some ⟨lg, 0, none⟩) (percN ⟨k0, 1, A, ib, tv, tc, tags, le, M, gr, al, od, fr, t2⟩ li left)) => total_nats (some ⟨lg, 0, none⟩) (percN ⟨k0, 1, A, ib, tv, tc, tags, le, M, gr, al, od, fr, t2⟩ li left) k k w' HLO.out (by omega) h (fun x hx => Nat.le_trans (HOB.out x hx) (by omega)))
      obtain ⟨ol, hol⟩ : ∃ l, percN ⟨k0, 1, A, ib, tv, tc, tags, le, M, gr, al, od, fr, t2⟩ li left = l := ⟨_, rfl⟩
      rw [hol] at HNO HLO HOB HCV HSB HTO
      clear hol HLE1
      obtain ⟨s, hss⟩ : ∃ s, ol.sum = s := ⟨_, rfl⟩
      have HSS := Lib.hid hss
      rw [hss] at HSB HTO
      have HCV2 : Hid (cutN ⟨k0, 1, A, ib, tv, tc, tags, le, M, gr, al, od, fr, t2⟩ li left = if M = 0 ∨ s ≤ M then ol else dealN M ol) := Lib.hid (by rw [HCV.out]; unfold mostN; rw [hss])
      obtain ⟨C9, hC9⟩ : ∃ c, capN M s = c := ⟨_, rfl⟩
      have HCP := Lib.hid (cap_any H M s wr)
      rw [hC9] at HCP
      have hcz : (C9 < s → M ≠ 0 ∧ M < s ∧ C9 = M) ∧ (¬ C9 < s → M = 0 ∨ s ≤ M) ∧ C9 ≤ s := by
        rw [← hC9]
        unfold capN
        by_cases h : M = 0
        · rw [if_pos h]; omega
        · rw [if_neg h]; omega
      clear hC9 hss HCV
      obtain ⟨x0, x1, x2, x3, x4, x5, x6, x7, x8, x9, x10, x11⟩ := HX6.out.at12
      have hxl := HX6.out.1
      have C1 := Lib.hid (HTO.out _ HNO.out)
      have C2 := Lib.hid (HCP.out x6)
      clear HTO HCP
      go_wp2_with fail
      with_reducible refine C1.out.mono ?_
      rintro e w7 ⟨rfl, rfl⟩
      go_wp2_with fail
      with_reducible refine C2.out.mono ?_
      rintro e w7 ⟨rfl, rfl⟩
      go_wp2_with fail
      with_reducible refine C1.out.mono ?_
      rintro e w7 ⟨rfl, rfl⟩
      by_cases hlt : C9 < s
      · obtain ⟨h1, h2, h3⟩ := hcz.1 hlt
        have H3 := Lib.hid h3
        have hC9 : C9 ≤ 1000000000000 := by omega
        clear h3
        have hd : decide ((C9 : Int) < (s : Int)) = true := decide_eq_true (by omega)
        have HCE : Hid (cutN ⟨k0, 1, A, ib, tv, tc, tags, le, M, gr, al, od, fr, t2⟩ li left = dealN C9 ol) := Lib.hid (by rw [HCV2.out, if_neg (by omega), H3.out])
        have hk0 : 0 < k := by
          rcases Nat.eq_zero_or_pos k with h0 | h0
          · have h1 := List.eq_nil_of_length_eq_zero (HLO.out.trans h0)
            have h2 := HSS.out
            rw [h1] at h2
            simp at h2
            omega
          · exact h0
        have C := Lib.hid (dealt_new false C9 (some ⟨lg, 0, none⟩) ol k k _ (by omega) HLO.out hk0 (by omega) HNO.out (fun x hx => Nat.le_trans (HOB.out x hx) (by omega)) (by rw [HSS.out]; omega) (by rw [HSS.out]; have := HSB.out; omega))
        clear hk0 C1 C2 hcz
        go_wp2_with fail
        with_reducible refine C.out.mono ?_
        rintro e w8 ⟨g7, rfl, hI7, d7, hg7⟩
        have HI7 := Lib.hid hI7
        have HB7 := Lib.hid (HB6.out.trans (d7.mono (by have h1 := HB6.out.size; have h2 := HH.out; omega)))
        clear hI7 d7 C
        go_wp2_with fail
        go_ret2
        first
        | exact ⟨_, _, congrArg (fun z : Nat => Ending.returned (.tuple #[.slice (some ⟨g7, 0, none⟩) k k, .int .i64 (z : Int)])) HSH.out.symm, by rw [HCE.out]; unfold natsAt; rw [← dealL_N]; exact HI7.out, by rw [HH.out]; exact HB7.out, (fun p off h => by have h2 := HB6.out.size; injection h with h; injection h with h; omega)⟩
        | exact ⟨_, ⟨_, congrArg (fun z : Nat => Ending.returned (.tuple #[.slice (some ⟨g7, 0, none⟩) k k, .int .i64 (z : Int)])) HSH.out.symm⟩, by rw [HCE.out]; unfold natsAt; rw [← dealL_N]; exact HI7.out, by rw [HH.out]; exact HB7.out, (fun p off h => by have h2 := HB6.out.size; injection h with h; injection h with h; omega)⟩
      · have hd : decide ((C9 : Int) < (s : Int)) = false := decide_eq_false (by omega)
        have HCE : Hid (cutN ⟨k0, 1, A, ib, tv, tc, tags, le, M, gr, al, od, fr, t2⟩ li left = ol) := Lib.hid (by rw [HCV2.out, if_pos (hcz.2.1 hlt)])
        clear C1 C2 hcz
        go_wp2_with fail
        go_ret2
        first
        | exact ⟨_, _, congrArg (fun z : Nat => Ending.returned (.tuple #[.slice (some ⟨lg, 0, none⟩) k k, .int .i64 (z : Int)])) HSH.out.symm, by rw [HCE.out]; exact HNO.out, by rw [HH.out]; exact HB6.out, (fun p off h => by have h2 := HFRB.out; injection h with h; injection h with h; omega)⟩
        | exact ⟨_, ⟨_, congrArg (fun z : Nat => Ending.returned (.tuple #[.slice (some ⟨lg, 0, none⟩) k k, .int .i64 (z : Int)])) HSH.out.symm⟩, by rw [HCE.out]; exact HNO.out, by rw [HH.out]; exact HB6.out, (fun p off h => by have h2 := HFRB.out; injection h with h; injection h with h; omega)⟩

set_option maxRecDepth 100000 in
set_option maxHeartbeats 16000000 in
theorem applied3_any (x : Of) (ai : Option Addr) (li : List It) (n ci : Nat) (sp : Int) (la : Option Addr) (left : List Nat) (cl sh : Nat) (w : World)
    (hx : x.ok) (hxb : ofB x = true) (hxk : x.kind = 3) (hxt : StrsAt w x.tv x.tags)
    (hni : li.length = n) (hn : left.length = n) (hn1 : n < 20) (hI : RAt w ai 4 It.cells li) (hTG : TagsAt It.tv It.tags w li) (hok : ∀ y ∈ li, y.ok) (hit : ∀ y ∈ li, itB y = true) (hL : natsAt w la left) (hb : ∀ z ∈ left, z ≤ 1000000000) (hs : sh ≤ 1000000000000) :
    Calls Tryz.prog 43 #[.agg x.cells.toArray, .agg #[.slice ai n ci, .int .i64 sp], .slice la n cl, .int .i64 (sh : Nat)] w fun e w' => ∃ a' c', e = .returned (.tuple #[.slice a' n c', .int .i64 (shN x sh : Nat)]) ∧ natsAt w' a' (cutN x li left) ∧ Below w.heap.size w w' ∧ (∀ p off, a' = some ⟨p, off, none⟩ → w.heap.size ≤ p) := by
  obtain ⟨i0, hi, hz0, hz1, hz2⟩ := info_parts infoP_int
  have HN := Lib.hid hn
  have HNI := Lib.hid hni
  have HI := Lib.hid hI
  have HL := Lib.hid hL
  have HBL := Lib.hid hb
  have HLE := Lib.hid (cutN_le x li left hxb)
  have HM := Lib.hid (fun y w' (h1 : y ∈ li) (hbl : Below w.heap.size w w') => matchesR_any x y w' (by have := hx.2.2.2.2.2.2.2.1; omega) (by have := (hok y h1).2.2.2.2.2.1; omega) (hxt.below hbl) ((hTG y h1).below hbl))
  have HFD := Lib.hid (fun (hk3 : x.kind = 3) (w' : World) (hbl : Below w.heap.size w w') => freed_any x ai li n ci sp la left cl w' hx hxb hk3 (hxt.below hbl) hni hn hn1 (hI.below hbl) (hTG.below hbl) hok hit (natsAt.below hL hbl) hb)
  obtain ⟨a0, a1, a2, -, m0, m1⟩ := ofB_kd hxb
  obtain ⟨k0, kd, ia, ib, tv, tc, tags, le, mo, gr, al, od, fr, t2⟩ := x
  simp only at hxk
  subst hxk
  simp only at HM HLE HFD a0 a1 a2 m0 m1 ⊢
  obtain ⟨A, rfl⟩ : ∃ A : Nat, ia = A := ⟨ia.toNat, by omega⟩
  obtain ⟨M, rfl⟩ : ∃ M : Nat, mo = M := ⟨mo.toNat, by omega⟩
  rw [show (Of.cells ⟨k0, 3, A, ib, tv, tc, tags, le, M, gr, al, od, fr, t2⟩).toArray = #[.string k0, .int .i64 3, .int .i64 (A : Nat), .int .i64 ib, .slice tv tags.length tc, .int .i64 le, .int .i64 (M : Nat), .string gr, .bool al, .int .i64 od, .int .i64 fr, .int .i64 t2] from rfl]
  try rw [show (Of.cells ⟨k0, 3, A, ib, tv, tc, tags, le, M, gr, al, od, fr, t2⟩).toArray = #[.string k0, .int .i64 3, .int .i64 (A : Nat), .int .i64 ib, .slice tv tags.length tc, .int .i64 le, .int .i64 (M : Nat), .string gr, .bool al, .int .i64 od, .int .i64 fr, .int .i64 t2] from rfl] at HM
  obtain ⟨H, hH⟩ : ∃ H, w.heap.size = H := ⟨_, rfl⟩
  have HX0 := Lib.hid ((XB.new w [.string k0, .int .i64 3, .int .i64 (A : Nat), .int .i64 ib, .slice tv tags.length tc, .int .i64 le, .int .i64 (M : Nat), .string gr, .bool al, .int .i64 od, .int .i64 fr, .int .i64 t2] 37).alloc (.cells #[.slice ai n ci, .int .i64 sp] 30))
  have HY0 := Lib.hid (XB.new (w.alloc (.cells #[.string k0, .int .i64 3, .int .i64 (A : Nat), .int .i64 ib, .slice tv tags.length tc, .int .i64 le, .int .i64 (M : Nat), .string gr, .bool al, .int .i64 od, .int .i64 fr, .int .i64 t2] 37)) [.slice ai n ci, .int .i64 sp] 30)
  have HB0 := Lib.hid (((Below.refl w.heap.size w).alloc (Nat.le_refl _) (.cells #[.string k0, .int .i64 3, .int .i64 (A : Nat), .int .i64 ib, .slice tv tags.length tc, .int .i64 le, .int .i64 (M : Nat), .string gr, .bool al, .int .i64 od, .int .i64 fr, .int .i64 t2] 37)).alloc (by simp) (.cells #[.slice ai n ci, .int .i64 sp] 30))
  simp only [List.toArray] at HX0 HY0
  have hz : (w.alloc (.cells #[.string k0, .int .i64 3, .int .i64 (A : Nat), .int .i64 ib, .slice tv tags.length tc, .int .i64 le, .int .i64 (M : Nat), .string gr, .bool al, .int .i64 od, .int .i64 fr, .int .i64 t2] 37)).heap.size = w.heap.size + 1 := by simp
  rw [hz] at HY0
  have hz' : ((w.alloc (.cells #[.string k0, .int .i64 3, .int .i64 (A : Nat), .int .i64 ib, .slice tv tags.length tc, .int .i64 le, .int .i64 (M : Nat), .string gr, .bool al, .int .i64 od, .int .i64 fr, .int .i64 t2] 37)).alloc (.cells #[.slice ai n ci, .int .i64 sp] 30)).heap.size = w.heap.size + 2 := by simp
  rw [hH] at HX0 HY0 HB0 hz'
  have HH := Lib.hid hH
  clear hni hn hI hTG hok hb hx hxt hL hit hxb hz
  go_enter Tryz.func43, Tryz.ntmps43
  go_upto_region 2 with (fail)
  generalize (w.alloc (.cells #[.string k0, .int .i64 3, .int .i64 (A : Nat), .int .i64 ib, .slice tv tags.length tc, .int .i64 le, .int .i64 (M : Nat), .string gr, .bool al, .int .i64 od, .int .i64 fr, .int .i64 t2] 37)).alloc (.cells #[.slice ai n ci, .int .i64 sp] 30) = w1 at *
  clear hH
  obtain ⟨lg, hlg⟩ : ∃ lg, w1.heap.size = lg := ⟨_, rfl⟩
  have HLG : Hid (lg = H + 2) := Lib.hid (by omega)
  clear hz'
  go_wp2_with (first | refine wpList_make_row _ rfl _ _ 22 rfl 3 i0 (.int .i64 0) Tryz.underlying22 hi hz0 hz1 rfl n rfl rfl ?d1 ?d2 ?_)
  case d1 => first | (rw [hz2]; omega) | omega
  case d2 => unfold maxLen; omega
  intro w2 R2 g2 s2
  try rw [hlg] at R2
  try rw [hlg] at s2
  have HX2 := Lib.hid (HX0.out.grown g2 (by simp))
  have HY2 := Lib.hid (HY0.out.grown g2 (by simp))
  have HB2 := Lib.hid (HB0.out.grown g2 (by have h1 := HB0.out.size; have h2 := HH.out; omega) (by simp))
  have HR2 := Lib.hid R2
  have hHl : H + 1 < lg := by have := HLG.out; omega
  have hs2 : lg < w2.heap.size := by have := HLG.out; omega
  clear R2 g2 s2 HX0 HY0 HB0 hlg
  have HLE1 := Lib.hid (freeN_le ⟨k0, 3, A, ib, tv, tc, tags, le, M, gr, al, od, fr, t2⟩ li left)
  have HCV : Hid (cutN ⟨k0, 3, A, ib, tv, tc, tags, le, M, gr, al, od, fr, t2⟩ li left = mostN (freeN ⟨k0, 3, A, ib, tv, tc, tags, le, M, gr, al, od, fr, t2⟩ li left) M) := Lib.hid (by unfold cutN; rw [if_neg (show ¬ (3 : Int) = 1 by decide), if_neg (show ¬ (3 : Int) = 2 by decide), if_pos rfl]; rfl)
  have HSH : Hid (shN ⟨k0, 3, A, ib, tv, tc, tags, le, M, gr, al, od, fr, t2⟩ sh = 0) := Lib.hid (by unfold shN; rw [if_neg (show ¬ (3 : Int) = 4 by decide)])
  obtain ⟨x0, x1, x2, x3, x4, x5, x6, x7, x8, x9, x10, x11⟩ := HX2.out.at12
  have hxl := HX2.out.1
  have yy0 := HY2.out.2 0 _ rfl
  have yy1 := HY2.out.2 1 _ rfl
  have hyl := HY2.out.1
  have C := Lib.hid (HFD.out (by trivial) w2 (by rw [HH.out]; exact HB2.out))
  rw [show (Of.cells ⟨k0, 3, A, ib, tv, tc, tags, le, M, gr, al, od, fr, t2⟩).toArray = #[.string k0, .int .i64 3, .int .i64 (A : Nat), .int .i64 ib, .slice tv tags.length tc, .int .i64 le, .int .i64 (M : Nat), .string gr, .bool al, .int .i64 od, .int .i64 fr, .int .i64 t2] from rfl] at C
  clear HFD HM
  go_wp2_with fail
  with_reducible refine C.out.mono ?_
  rintro e w6 ⟨fg, rfl, hI6, d6, hfg⟩
  have HNO := Lib.hid hI6
  have HFRB : Hid (w.heap.size ≤ fg) := Lib.hid (Nat.le_trans HB2.out.size hfg)
  have HX6 := Lib.hid (HX2.out.below d6)
  have HB6 := Lib.hid (HB2.out.trans (d6.mono (by have h1 := HB2.out.size; have h2 := HH.out; omega)))
  clear hI6 d6 hfg C HX2 HY2 HB2 HR2 x0 x1 x2 x3 x4 x5 x6 x7 x8 x9 x10 x11 hxl yy0 yy1 hyl
  have HLO := Lib.hid (HLE1.out.1.trans HN.out)
  have HOB : Hid (∀ z ∈ freeN ⟨k0, 3, A, ib, tv, tc, tags, le, M, gr, al, od, fr, t2⟩ li left, z ≤ 1000000000) := Lib.hid (fun z hz => by
    obtain ⟨j, hj, rfl⟩ := List.mem_iff_getElem.1 hz
    have h1 := HLE1.out.2 j
    rw [getD_lt _ _ hj] at h1
    have hj2 : j < left.length := by rw [← HLE1.out.1]; exact hj
    rw [getD_lt _ _ hj2] at h1
    exact Nat.le_trans h1 (HBL.out _ (List.getElem_mem hj2)))
  have HSB : Hid ((freeN ⟨k0, 3, A, ib, tv, tc, tags, le, M, gr, al, od, fr, t2⟩ li left).sum ≤ 20000000000) := Lib.hid (by
    have h := sum_left _ n HLO.out hn1 HOB.out n
    rw [List.take_of_length_le (by rw [HLO.out]; exact Nat.le_refl _)] at h
    exact h)
  have HTO := Lib.hid (fun w' (h : natsAt w' (some ⟨fg, 0, none⟩) (freeN ⟨k0, 3, A, ib, tv, tc, tags, le, M, gr, al, od, fr, t2⟩ li left)) => total_nats (some ⟨fg, 0, none⟩) (freeN ⟨k0, 3, A, ib, tv, tc, tags, le, M, gr, al, od, fr, t2⟩ li left) n n w' HLO.out (by omega) h (fun x hx => Nat.le_trans (HOB.out x hx) (by omega)))
  obtain ⟨ol, hol⟩ : ∃ l, freeN ⟨k0, 3, A, ib, tv, tc, tags, le, M, gr, al, od, fr, t2⟩ li left = l := ⟨_, rfl⟩
  rw [hol] at HNO HLO HOB HCV HSB HTO
  clear hol HLE1
  obtain ⟨s, hss⟩ : ∃ s, ol.sum = s := ⟨_, rfl⟩
  have HSS := Lib.hid hss
  rw [hss] at HSB HTO
  have HCV2 : Hid (cutN ⟨k0, 3, A, ib, tv, tc, tags, le, M, gr, al, od, fr, t2⟩ li left = if M = 0 ∨ s ≤ M then ol else dealN M ol) := Lib.hid (by rw [HCV.out]; unfold mostN; rw [hss])
  obtain ⟨C9, hC9⟩ : ∃ c, capN M s = c := ⟨_, rfl⟩
  have HCP := Lib.hid (cap_any H M s w6)
  rw [hC9] at HCP
  have hcz : (C9 < s → M ≠ 0 ∧ M < s ∧ C9 = M) ∧ (¬ C9 < s → M = 0 ∨ s ≤ M) ∧ C9 ≤ s := by
    rw [← hC9]
    unfold capN
    by_cases h : M = 0
    · rw [if_pos h]; omega
    · rw [if_neg h]; omega
  clear hC9 hss HCV
  obtain ⟨x0, x1, x2, x3, x4, x5, x6, x7, x8, x9, x10, x11⟩ := HX6.out.at12
  have hxl := HX6.out.1
  have C1 := Lib.hid (HTO.out _ HNO.out)
  have C2 := Lib.hid (HCP.out x6)
  clear HTO HCP
  go_wp2_with fail
  with_reducible refine C1.out.mono ?_
  rintro e w7 ⟨rfl, rfl⟩
  go_wp2_with fail
  with_reducible refine C2.out.mono ?_
  rintro e w7 ⟨rfl, rfl⟩
  go_wp2_with fail
  with_reducible refine C1.out.mono ?_
  rintro e w7 ⟨rfl, rfl⟩
  by_cases hlt : C9 < s
  · obtain ⟨h1, h2, h3⟩ := hcz.1 hlt
    have H3 := Lib.hid h3
    have hC9 : C9 ≤ 1000000000000 := by omega
    clear h3
    have hd : decide ((C9 : Int) < (s : Int)) = true := decide_eq_true (by omega)
    have HCE : Hid (cutN ⟨k0, 3, A, ib, tv, tc, tags, le, M, gr, al, od, fr, t2⟩ li left = dealN C9 ol) := Lib.hid (by rw [HCV2.out, if_neg (by omega), H3.out])
    have hk0 : 0 < n := by
      rcases Nat.eq_zero_or_pos n with h0 | h0
      · have h1 := List.eq_nil_of_length_eq_zero (HLO.out.trans h0)
        have h2 := HSS.out
        rw [h1] at h2
        simp at h2
        omega
      · exact h0
    have C := Lib.hid (dealt_new false C9 (some ⟨fg, 0, none⟩) ol n n _ (by omega) HLO.out hk0 (by omega) HNO.out (fun x hx => Nat.le_trans (HOB.out x hx) (by omega)) (by rw [HSS.out]; omega) (by rw [HSS.out]; have := HSB.out; omega))
    clear hk0 C1 C2 hcz
    go_wp2_with fail
    with_reducible refine C.out.mono ?_
    rintro e w8 ⟨g7, rfl, hI7, d7, hg7⟩
    have HI7 := Lib.hid hI7
    have HB7 := Lib.hid (HB6.out.trans (d7.mono (by have h1 := HB6.out.size; have h2 := HH.out; omega)))
    clear hI7 d7 C
    go_wp2_with fail
    go_ret2
    first
    | exact ⟨_, _, congrArg (fun z : Nat => Ending.returned (.tuple #[.slice (some ⟨g7, 0, none⟩) n n, .int .i64 (z : Int)])) HSH.out.symm, by rw [HCE.out]; unfold natsAt; rw [← dealL_N]; exact HI7.out, by rw [HH.out]; exact HB7.out, (fun p off h => by have h2 := HB6.out.size; injection h with h; injection h with h; omega)⟩
    | exact ⟨_, ⟨_, congrArg (fun z : Nat => Ending.returned (.tuple #[.slice (some ⟨g7, 0, none⟩) n n, .int .i64 (z : Int)])) HSH.out.symm⟩, by rw [HCE.out]; unfold natsAt; rw [← dealL_N]; exact HI7.out, by rw [HH.out]; exact HB7.out, (fun p off h => by have h2 := HB6.out.size; injection h with h; injection h with h; omega)⟩
  · have hd : decide ((C9 : Int) < (s : Int)) = false := decide_eq_false (by omega)
    have HCE : Hid (cutN ⟨k0, 3, A, ib, tv, tc, tags, le, M, gr, al, od, fr, t2⟩ li left = ol) := Lib.hid (by rw [HCV2.out, if_pos (hcz.2.1 hlt)])
    clear C1 C2 hcz
    go_wp2_with fail
    go_ret2
    first
    | exact ⟨_, _, congrArg (fun z : Nat => Ending.returned (.tuple #[.slice (some ⟨fg, 0, none⟩) n n, .int .i64 (z : Int)])) HSH.out.symm, by rw [HCE.out]; exact HNO.out, by rw [HH.out]; exact HB6.out, (fun p off h => by have h2 := HFRB.out; injection h with h; injection h with h; omega)⟩
    | exact ⟨_, ⟨_, congrArg (fun z : Nat => Ending.returned (.tuple #[.slice (some ⟨fg, 0, none⟩) n n, .int .i64 (z : Int)])) HSH.out.symm⟩, by rw [HCE.out]; exact HNO.out, by rw [HH.out]; exact HB6.out, (fun p off h => by have h2 := HFRB.out; injection h with h; injection h with h; omega)⟩

theorem applied_any (x : Of) (ai : Option Addr) (li : List It) (n ci : Nat) (sp : Int) (la : Option Addr) (left : List Nat) (cl sh : Nat) (w : World)
    (hx : x.ok) (hxb : ofB x = true) (hxt : StrsAt w x.tv x.tags)
    (hni : li.length = n) (hn : left.length = n) (hn1 : n < 20) (hI : RAt w ai 4 It.cells li) (hTG : TagsAt It.tv It.tags w li) (hok : ∀ y ∈ li, y.ok) (hit : ∀ y ∈ li, itB y = true) (hL : natsAt w la left) (hb : ∀ z ∈ left, z ≤ 1000000000) (hs : sh ≤ 1000000000000) :
    Calls Tryz.prog 43 #[.agg x.cells.toArray, .agg #[.slice ai n ci, .int .i64 sp], .slice la n cl, .int .i64 (sh : Nat)] w fun e w' => ∃ a' c', e = .returned (.tuple #[.slice a' n c', .int .i64 (shN x sh : Nat)]) ∧ natsAt w' a' (cutN x li left) ∧ Below w.heap.size w w' ∧ (∀ p off, a' = some ⟨p, off, none⟩ → w.heap.size ≤ p) := by
  have h4 := ofB_k4 hxb
  by_cases k1 : x.kind = 1
  · exact applied1_any x ai li n ci sp la left cl sh w hx hxb k1 hxt hni hn hn1 hI hTG hok hit hL hb hs
  · by_cases k2 : x.kind = 2
    · exact applied2_any x ai li n ci sp la left cl sh w hx hxb k2 hxt hni hn hn1 hI hTG hok hit hL hb hs
    · by_cases k3 : x.kind = 3
      · exact applied3_any x ai li n ci sp la left cl sh w hx hxb k3 hxt hni hn hn1 hI hTG hok hit hL hb hs
      · exact applied4_any x ai li n ci sp la left cl sh w hx hxb (by omega) hxt hni hn hn1 hI hTG hok hit hL hb hs
end Go.Proofs.YtdefjnefkdemiaaGreatDoor
