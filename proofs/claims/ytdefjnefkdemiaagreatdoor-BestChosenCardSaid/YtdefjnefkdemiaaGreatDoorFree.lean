/- offer.pricer's free (printed by gen_free.py). -/
import Derived.Test.YtdefjnefkdemiaaGreatDoorM2
import Derived.Deep.RegionHeld3
import Derived.Deep.AppendLies
import Derived.Deep.CutBlock
import Derived.Deep.DeepCutAuto
set_option linter.unusedVariables false
namespace Go.Proofs.YtdefjnefkdemiaaGreatDoor
open Go.RowKit Go.Sort

set_option maxRecDepth 100000 in
set_option maxHeartbeats 16000000 in
theorem free_any (x : Of) (q : Nat) (ai : Option Addr) (li : List It) (n ci : Nat) (sh0 : Int) (la : Option Addr) (left : List Nat) (cl sh : Nat) (w : World)
    (hx : x.ok) (hxb : ofB x = true) (hxk : x.kind = 3) (hxt : StrsAt w x.tv x.tags) (hQ : XB w q [.slice ai n ci, .int .i64 sh0, .slice la n cl, .int .i64 (sh : Nat)])
    (hni : li.length = n) (hn : left.length = n) (hn1 : n < 20) (hI : RAt w ai 4 It.cells li) (hTG : TagsAt It.tv It.tags w li) (hok : ∀ y ∈ li, y.ok) (hit : ∀ y ∈ li, itB y = true) (hL : natsAt w la left) (hb : ∀ z ∈ left, z ≤ 1000000000) :
    Calls Tryz.prog 85 #[.pointer (some ⟨q, 0, none⟩), .agg x.cells.toArray] w fun e w' => ∃ a' c', e = .returned (.slice a' n c') ∧ natsAt w' a' (mostN (freeN x li left) x.most.toNat) ∧ Below w.heap.size w w' := by
  obtain ⟨i0, hi, hz0, hz1, hz2⟩ := info_parts infoP_int
  obtain ⟨j0, hj, hy0, hy1, hy2⟩ := info_parts infoPc
  have HN := Lib.hid hn
  have HNI := Lib.hid hni
  have HI := Lib.hid hI
  have HL := Lib.hid hL
  have HBL := Lib.hid hb
  have HIT := Lib.hid (fun y (h : y ∈ li) => itB_bd (hit y h))
  have HM := Lib.hid (fun y w' (h1 : y ∈ li) (hbl : Below w.heap.size w w') => matchesX_any x y w' (by have := hx.2.2.2.2.2.2.2.1; omega) (by have := (hok y h1).2.2.2.2.2.1; omega) (hxt.below hbl) ((hTG y h1).below hbl))
  obtain ⟨a0, -, -, a3, m0, m1⟩ := ofB_kd hxb
  obtain ⟨a2, b1, b2⟩ := a3 hxk
  have HLE := Lib.hid (freeN_le x li left)
  have HFL := Lib.hid (fun k j hk => frS_left x li left k j hk)
  have HSI := Lib.hid (srtP_in x li left hb)
  have HSZ := Lib.hid (srtP_size x li left)
  have HPL := Lib.hid (pcs_len x li left hit)
  have HPS := Lib.hid (fun k => pcsK_succ x li left k)
  have HPB := Lib.hid (fun k h h2 => blk_at x li left k h h2)
  have HFR := Lib.hid (fun (w : World) (g : Nat) (h : RowG w g n (frV (srtP x li left) x.a.toNat x.b.toNat (srtP x li left).size)) => freeN_row h hn)
  have HST : Hid (stable ltP (pcsK x li left n).toArray = srtP x li left) := Lib.hid (by unfold srtP; rw [hni])
  clear a3 hxb
  obtain ⟨k0, kd, ia, ib, tv, tc, tags, le, mo, gr, al, od, fr, t2⟩ := x
  simp only at hxk
  subst hxk
  simp only at HM HLE HFL HSI HSZ HPL HPS HPB HFR HST a0 a2 b1 b2 m0 m1 ⊢
  obtain ⟨A, rfl⟩ : ∃ A : Nat, ia = A := ⟨ia.toNat, by omega⟩
  obtain ⟨B, rfl⟩ : ∃ B : Nat, ib = B := ⟨ib.toNat, by omega⟩
  obtain ⟨M, rfl⟩ : ∃ M : Nat, mo = M := ⟨mo.toNat, by omega⟩
  simp only [Int.toNat_natCast] at HFR HFL ⊢
  rw [show (Of.cells ⟨k0, 3, A, B, tv, tc, tags, le, M, gr, al, od, fr, t2⟩).toArray = #[.string k0, .int .i64 3, .int .i64 (A : Nat), .int .i64 (B : Nat), .slice tv tags.length tc, .int .i64 le, .int .i64 (M : Nat), .string gr, .bool al, .int .i64 od, .int .i64 fr, .int .i64 t2] from rfl]
  obtain ⟨pk, hpk⟩ : ∃ f : Nat → List Pc, f = fun k => pcsK ⟨k0, 3, A, B, tv, tc, tags, le, M, gr, al, od, fr, t2⟩ li left k := ⟨_, rfl⟩
  have HPZ : Hid (pk 0 = []) := Lib.hid (by rw [hpk]; rfl)
  obtain ⟨bk, hbk⟩ : ∃ f : Nat → List Pc, f = fun k => blkP ⟨k0, 3, A, B, tv, tc, tags, le, M, gr, al, od, fr, t2⟩ li left k := ⟨_, rfl⟩
  have HPS2 : Hid (∀ k, pk (k + 1) = pk k ++ bk k) := Lib.hid (by intro k; rw [hpk, hbk]; exact HPS.out k)
  have HPL2 : Hid (∀ k, (pk k).length ≤ 100 * k) := Lib.hid (by intro k; rw [hpk]; exact HPL.out k)
  obtain ⟨mt, hmt⟩ : ∃ f : It → Bool, f = fun y => mtB ⟨k0, 3, A, B, tv, tc, tags, le, M, gr, al, od, fr, t2⟩ y := ⟨_, rfl⟩
  have HPB2 : Hid (∀ k (h : k < li.length) (h2 : k < left.length), bk k = if mt li[k] = true then List.replicate li[k].many.toNat ((k : Int), ((left[k] / li[k].many.toNat : Nat) : Int)) else []) := Lib.hid (by intro k h h2; rw [hbk, hmt]; exact HPB.out k h h2)
  have HM2 : Hid (∀ (y : It) (w' : World), y ∈ li → Below w.heap.size w w' → Calls Tryz.prog 55 #[.agg #[.string k0, .int .i64 3, .int .i64 (A : Nat), .int .i64 (B : Nat), .slice tv tags.length tc, .int .i64 le, .int .i64 (M : Nat), .string gr, .bool al, .int .i64 od, .int .i64 fr, .int .i64 t2], .agg y.cells.toArray] w' fun e w'' => e = .returned (.bool (mt y)) ∧ Below w'.heap.size w' w'') := Lib.hid (by intro y w' h h2; rw [hmt]; exact HM.out y w' h h2)
  obtain ⟨s, hs⟩ : ∃ s, srtP ⟨k0, 3, A, B, tv, tc, tags, le, M, gr, al, od, fr, t2⟩ li left = s := ⟨_, rfl⟩
  obtain ⟨fl, hfl⟩ : ∃ l, freeN ⟨k0, 3, A, B, tv, tc, tags, le, M, gr, al, od, fr, t2⟩ li left = l := ⟨_, rfl⟩
  rw [hs] at HST HSI HFR HFL HSZ
  rw [hfl] at HFR HLE ⊢
  have HST2 : Hid (stable ltP (pk n).toArray = s) := Lib.hid (by rw [hpk]; exact HST.out)
  have HSZ2 : Hid (s.size = (pk n).length) := Lib.hid (by rw [hpk, ← HNI.out]; exact HSZ.out)
  clear HPS HPL HPB HM HST HSZ hs hpk hbk hmt hfl
  have HX0 := Lib.hid (XB.new w [.string k0, .int .i64 3, .int .i64 (A : Nat), .int .i64 (B : Nat), .slice tv tags.length tc, .int .i64 le, .int .i64 (M : Nat), .string gr, .bool al, .int .i64 od, .int .i64 fr, .int .i64 t2] 37)
  have HB0 := Lib.hid ((Below.refl w.heap.size w).alloc (Nat.le_refl _) (.cells #[.string k0, .int .i64 3, .int .i64 (A : Nat), .int .i64 (B : Nat), .slice tv tags.length tc, .int .i64 le, .int .i64 (M : Nat), .string gr, .bool al, .int .i64 od, .int .i64 fr, .int .i64 t2] 37))
  have HQ0 := Lib.hid (hQ.alloc (.cells #[.string k0, .int .i64 3, .int .i64 (A : Nat), .int .i64 (B : Nat), .slice tv tags.length tc, .int .i64 le, .int .i64 (M : Nat), .string gr, .bool al, .int .i64 od, .int .i64 fr, .int .i64 t2] 37))
  have hqw := hQ.1
  simp only [List.toArray] at HX0
  have hz : (w.alloc (.cells #[.string k0, .int .i64 3, .int .i64 (A : Nat), .int .i64 (B : Nat), .slice tv tags.length tc, .int .i64 le, .int .i64 (M : Nat), .string gr, .bool al, .int .i64 od, .int .i64 fr, .int .i64 t2] 37)).heap.size = w.heap.size + 1 := by simp
  clear hni hn hI hTG hok hb hx hxt hQ hL hit
  go_enter Tryz.func85, Tryz.ntmps85
  go_upto_region 1 with (fail)
  generalize (w.alloc (.cells #[.string k0, .int .i64 3, .int .i64 (A : Nat), .int .i64 (B : Nat), .slice tv tags.length tc, .int .i64 le, .int .i64 (M : Nat), .string gr, .bool al, .int .i64 od, .int .i64 fr, .int .i64 t2] 37)) = w1 at *
  obtain ⟨z0, z1, z2, z3⟩ := HQ0.out.at_pr
  have hzl := HQ0.out.1
  go_wp2_with fail
  clear z0 z1 z2 z3 hzl
  go_loopw [5, 6, 7, 17] (fun l _ _ i wr => ∃ (k m : Nat) (v : Value), k ≤ n ∧ i = .int .i64 k ∧ v = l ∧ m = (pk k).length ∧ wr.ownsRow (w.heap.size + 1) 139 2 v m ((pk k).flatMap pcC) ∧ XB wr w.heap.size [.string k0, .int .i64 3, .int .i64 (A : Nat), .int .i64 (B : Nat), .slice tv tags.length tc, .int .i64 le, .int .i64 (M : Nat), .string gr, .bool al, .int .i64 od, .int .i64 fr, .int .i64 t2] ∧ XB wr q [.slice ai n ci, .int .i64 sh0, .slice la n cl, .int .i64 (sh : Nat)] ∧ Below w.heap.size w wr ∧ w.heap.size + 1 ≤ wr.heap.size) (fun _ _ _ i _ => n - (intOf i).toNat)
  case atStart =>
    refine ⟨0, 0, _, Nat.zero_le _, rfl, rfl, by rw [HPZ.out]; rfl, ?_, HX0.out, HQ0.out, HB0.out, by omega⟩
    rw [HPZ.out]
    exact World.ownsRow_nil _ _ _ _
  case round =>
    obtain ⟨k, m, v, hk, rfl, rfl, hm, own, hX, hQ, hB, hsz⟩ := hrel
    clear HX0 HQ0 HB0 hz
    have HX := Lib.hid hX
    have HQ := Lib.hid hQ
    have HB := Lib.hid hB
    have HO := Lib.hid own
    have HMM := Lib.hid hm
    have hm9 : m ≤ 2000 := by have := HPL2.out k; omega
    clear hm hX hQ own
    by_cases hlt : k < n
    · have hkl : k < li.length := by have := HNI.out; omega
      have hkz : k < left.length := by have := HN.out; omega
      obtain ⟨pl, ol, rfl, hp, hcell⟩ := HL.out.at_ hkz
      have hcell2 := (hB.cell (p := ⟨pl, ol + k, none⟩) hp).trans hcell
      obtain ⟨p2, off2, rfl, hp2, c0, c1, c2, c3⟩ := (HI.out.below hB).at4 hkl (v0 := .string li[k].key) (v1 := .int .i64 li[k].cents) (v2 := .int .i64 li[k].many) (v3 := .slice li[k].tv li[k].tags.length li[k].tc) rfl
      have hzb := HBL.out left[k] (List.getElem_mem hkz)
      have HFK := Lib.hid (HPB2.out k hkl hkz)
      obtain ⟨q0, q1, q2, q3⟩ := HIT.out li[k] (List.getElem_mem hkl)
      have C := Lib.hid (fun w' hbl => HM2.out li[k] w' (List.getElem_mem hkl) hbl)
      generalize left[k] = z at *
      generalize mt li[k] = mb at *
      generalize li[k] = y at *
      obtain ⟨yk, yc, ym, yv, ytc, yt⟩ := y
      simp only at c0 c1 c2 c3 C HFK q0 q1 q2 q3
      obtain ⟨ym, rfl⟩ : ∃ u : Nat, ym = u := ⟨ym.toNat, by omega⟩
      simp only [Int.toNat_natCast] at HFK
      rw [show (It.cells ⟨yk, yc, ym, yv, ytc, yt⟩).toArray = #[.string yk, .int .i64 yc, .int .i64 (ym : Nat), .slice yv yt.length ytc] from rfl] at C
      have HBa := Lib.hid (HB.out.alloc HB.out.size (.cells #[.string yk, .int .i64 yc, .int .i64 (ym : Nat), .slice yv yt.length ytc] 60))
      have X0 := Lib.hid (XB.new wr [.string yk, .int .i64 yc, .int .i64 (ym : Nat), .slice yv yt.length ytc] 60)
      have HXa := Lib.hid (HX.out.alloc (.cells #[.string yk, .int .i64 yc, .int .i64 (ym : Nat), .slice yv yt.length ytc] 60))
      have HQa := Lib.hid (HQ.out.alloc (.cells #[.string yk, .int .i64 yc, .int .i64 (ym : Nat), .slice yv yt.length ytc] 60))
      have HOa := Lib.hid (own_below HO.out ((Below.refl _ _).alloc (Nat.le_refl _) (.cells #[.string yk, .int .i64 yc, .int .i64 (ym : Nat), .slice yv yt.length ytc] 60)))
      have hsa : (wr.alloc (.cells #[.string yk, .int .i64 yc, .int .i64 (ym : Nat), .slice yv yt.length ytc] 60)).heap.size = wr.heap.size + 1 := by simp
      simp only [List.toArray] at X0
      have hcell3 := Lib.cell?_alloc_some (.cells #[.string yk, .int .i64 yc, .int .i64 (ym : Nat), .slice yv yt.length ytc] 60) hcell2
      have HOB : Hid (∀ g, v.ownBlock = some g → w.heap.size + 1 ≤ g ∧ g < wr.heap.size) := Lib.hid (fun g hg => HO.out.lt g hg)
      have hsz2 : w.heap.size + 1 ≤ wr.heap.size := hsz
      clear hB HX HQ HB HO hsz HM2
      go_upto_region 5 with (fail)
      generalize wr.alloc (.cells #[.string yk, .int .i64 yc, .int .i64 (ym : Nat), .slice yv yt.length ytc] 60) = w2 at *
      obtain ⟨qb, hqb⟩ : ∃ qb, wr.heap.size = qb := ⟨_, rfl⟩
      rw [hqb] at X0 HOB hsa hsz2
      rw [hqb]
      clear c0 c1 c2 c3 hp2 hcell2 hcell hqb
      obtain ⟨x0, x1, x2, x3, x4, x5, x6, x7, x8, x9, x10, x11⟩ := HXa.out.at12
      have hxl := HXa.out.1
      obtain ⟨y0, y1, y2, y3⟩ := X0.out.at4
      have hyl := X0.out.1
      go_wp2_with fail
      with_reducible refine (C.out _ HBa.out).mono ?_
      rintro e w3 ⟨rfl, d3⟩
      have HB3 := Lib.hid (HBa.out.trans (d3.mono HBa.out.size))
      have HX3 := Lib.hid (HXa.out.below d3)
      have HQ3 := Lib.hid (HQa.out.below d3)
      have X3 := Lib.hid (X0.out.below d3)
      have HO3 := Lib.hid (own_below HOa.out d3)
      have hcell4 := (d3.cell (World.block_lt_of_cell? _ _ hcell3)).trans hcell3
      have hsz3 : qb + 1 ≤ w3.heap.size := by have := d3.size; omega
      clear x0 x1 x2 x3 x4 x5 x6 x7 x8 x9 x10 x11 hxl y0 y1 y2 y3 hyl d3 HBa HXa HQa X0 HOa hcell3 hsa C
      cases mb with
      | true =>
        have HPK := Lib.hid (show pk (k + 1) = pk k ++ List.replicate ym ((k : Int), ((z / ym : Nat) : Int)) by rw [HPS2.out, HFK.out, if_pos rfl])
        obtain ⟨z0, z1, z2, z3⟩ := HQ3.out.at_pr
        obtain ⟨y0, y1, y2, y3⟩ := X3.out.at4
        have hzl := HQ3.out.1
        have hyl := X3.out.1
        obtain ⟨cp, hcp⟩ : ∃ cp, z / ym = cp := ⟨_, rfl⟩
        have hqd : (z : Int).tdiv (ym : Int) = (cp : Int) := by rw [Int.tdiv_eq_ediv_of_nonneg (by omega), ← hcp]; simp
        have hcb : cp ≤ 1000000000 := by rw [← hcp]; exact Nat.le_trans (Nat.div_le_self _ _) hzb
        rw [hcp] at HPK
        clear hcp HFK
        have hcw : IntKind.i64.wrap (cp : Int) = (cp : Int) := by rw [IntKind.wrap_i64]; omega
        have hym2 : ¬ (ym = 0) := by omega
        have hym0 : (ym : Int) ≠ 0 := by omega
        have hym1 : ((ym : Int) == 0) = false := by simp; omega
        have hkc : (k : Int) < (n : Int) := by omega
        have HOd := Lib.hid (own_below HO3.out ((Below.refl w3.heap.size w3).drew.alloc (Nat.le_refl _) (.cells #[.int .i64 (k : Int), .int .i64 (cp : Int)] 139)))
        have HSd : Hid (w.heap.size + 1 ≤ (w3.drew.alloc (.cells #[.int .i64 (k : Int), .int .i64 (cp : Int)] 139)).heap.size) := Lib.hid (by
          rw [World.size_alloc]
          have h3 : w3.drew.heap.size = w3.heap.size := rfl
          omega)
        have HRP := Lib.hid (repeat_pc ((k : Int), (cp : Int)) (w3.alloc (.cells #[.int .i64 (k : Int), .int .i64 (cp : Int)] 139)).drew ym w3.heap.size (by omega) (by omega) (heap_alloc_new w3 (.cells #[.int .i64 (k : Int), .int .i64 (cp : Int)] 139)))
        have HBd := Lib.hid (HB3.out.drew.alloc HB3.out.size (.cells #[.int .i64 (k : Int), .int .i64 (cp : Int)] 139))
        have HLN := Lib.hid (show ((List.replicate ym (((k : Int), (cp : Int)) : Pc)).flatMap pcC).length = ym * 2 by rw [pcC_fl, List.length_replicate])
        have HON : Hid (∀ u ∈ (List.replicate ym (((k : Int), (cp : Int)) : Pc)).flatMap pcC, u.oneCell' = true) := Lib.hid (fun v hv => by
          obtain ⟨y, _, hv⟩ := List.mem_flatMap.1 hv
          simp only [pcC, List.mem_cons, List.mem_nil_iff, or_false] at hv
          rcases hv with rfl | rfl <;> rfl)
        have HN1 : Hid (some q ≠ v.ownBlock) := Lib.hid (fun e => by have := HOB.out q e.symm; omega)
        have HN2 : Hid (some pl ≠ v.ownBlock) := Lib.hid (fun e => by have := HOB.out pl e.symm; omega)
        have HN3 : Hid (some qb ≠ v.ownBlock) := Lib.hid (fun e => by have := HOB.out qb e.symm; omega)
        have hmy : m + ym ≤ maxLen := by unfold maxLen; omega
        have hmb : (m + ym) * 16 ≤ 140737488355328 := by omega
        have hyp : 0 < ym := by omega
        go_upto_region 6 with (fail)
        go_region_held3 (fun w' => w'.cell? ⟨q, 2, none⟩ = some (.slice (some ⟨pl, ol, none⟩) n cl) ∧ w'.cell? ⟨pl, ol + k, none⟩ = some (.int .i64 (z : Int)) ∧ w'.cell? ⟨qb, 2, none⟩ = some (.int .i64 (ym : Int)))
          (first | go_keep | (refine s3_below bR ?_ <;> first | assumption | (refine ⟨?_, ?_, ?_⟩ <;> first | assumption | (go_simp; done))) | (refine s3_grown grow8 ?_ HN1.out HN2.out HN3.out <;> assumption))
          (first | (go_at_call 113; refine HRP.out.mono ?_; rintro e w16 ⟨gR, rfl, hR, bR⟩; have HR := Lib.hid hR; have HOe := Lib.hid (own_below HOd.out bR); have HBe := Lib.hid (HBd.out.trans (bR.mono HBd.out.size)); have HSe := Lib.hid (Nat.le_trans HSd.out bR.size); clear hR) | (refine step_append_lies (o := ⟨some 42, _, _, _, _, _⟩) _ rfl (.tmp 25) (.tmp 41) 136 rfl (w.heap.size + 1) 139 j0 _ 2 16 Tryz.underlying136 hj hy0 hy1 hy2 rfl (by decide) v m ((pk k).flatMap pcC) (by simp [Act.eval]) HOe.out ⟨gR, 0, none⟩ ym ym ((List.replicate ym (((k : Int), (cp : Int)) : Pc)).flatMap pcC) (by simp [Act.eval]) HLN.out (fun j u h => World.news_of_block HR.out j u h) HON.out hyp hmy hmb HSe.out _ rfl ?_; intro gq cq w8 own8 grow8 at8 lt8))
        have HO9 : Hid (w8.ownsRow (w.heap.size + 1) 139 2 (.slice (some ⟨gq, 0, none⟩) (m + ym) cq) (m + ym) ((pk (k + 1)).flatMap pcC)) := Lib.hid (by rw [HPK.out, List.flatMap_append]; exact own8)
        have HX9 := Lib.hid (((HX3.out.drew.alloc _).below bR).grown grow8 (fun e => by have := HOB.out _ e; omega))
        have HQ9 := Lib.hid (((HQ3.out.drew.alloc _).below bR).grown grow8 (fun e => by have := HOB.out _ e; omega))
        have HB9 := Lib.hid (HBe.out.grown grow8 HBe.out.size (fun g hg => by have := HOB.out g hg; omega))
        have HS9 := Lib.hid (Nat.le_trans HSe.out grow8.size)
        clear own8 grow8 at8 lt8 bR HSd HSe z0 z1 z2 z3 y0 y1 y2 y3 hzl hyl HRP HBd HOd HOe HBe HLN HON HR HX3 HQ3 HB3 HO3 X3
        go_wp2_with fail
        go_roundw
        case rel => exact ⟨k + 1, m + ym, _, by omega, by go_num, rfl, by rw [HPK.out, List.length_append, List.length_replicate, ← HMM.out], HO9.out, HX9.out, HQ9.out, HB9.out, HS9.out⟩
        case measure => simp [intOf]; omega
      | false =>
        have HPK := Lib.hid (show pk (k + 1) = pk k by rw [HPS2.out, HFK.out, if_neg (by simp), List.append_nil])
        have HO9 : Hid (w3.ownsRow (w.heap.size + 1) 139 2 v m ((pk (k + 1)).flatMap pcC)) := Lib.hid (by rw [HPK.out]; exact HO3.out)
        clear HO3 HFK
        go_wp2_with fail
        go_roundw
        case rel => exact ⟨k + 1, m, _, by omega, by go_num, rfl, by rw [HPK.out, ← HMM.out], HO9.out, HX3.out, HQ3.out, HB3.out, by omega⟩
        case measure => simp [intOf]; omega
    · obtain rfl : k = n := by omega
      have hml : (pk k).length = m := HMM.out.symm
      have HSM := Lib.hid (HSZ2.out.trans hml)
      have HLL := Lib.hid (HLE.out.1.trans HN.out)
      have HFB : Hid (∀ z ∈ fl, z ≤ 1000000000) := Lib.hid (fun z hz => by
        obtain ⟨j, hj, rfl⟩ := List.mem_iff_getElem.1 hz
        have h1 := HLE.out.2 j
        rw [getD_lt _ _ hj] at h1
        have hj2 : j < left.length := by rw [← HLE.out.1]; exact hj
        rw [getD_lt _ _ hj2] at h1
        exact Nat.le_trans h1 (HBL.out _ (List.getElem_mem hj2)))
      have HVB : Hid (∀ j, left.getD j 0 ≤ 1000000000) := Lib.hid (fun j => by
        by_cases hj : j < left.length
        · rw [getD_lt _ _ hj]; exact HBL.out _ (List.getElem_mem hj)
        · rw [getD_ge _ _ (by omega)]; omega)
      have hqw2 : q < w.heap.size := hqw
      obtain ⟨SS, hSS⟩ : ∃ SS, A + B = SS := ⟨_, rfl⟩
      have hAB : (A : Int) + (B : Int) = (SS : Int) := by omega
      have hSA : SS - A = B := by omega
      have hSS9 : 2 ≤ SS ∧ SS ≤ 40 := by omega
      obtain ⟨hSS1, hSS2⟩ := hSS9
      have HMB : Hid (0 ≤ (M : Int) ∧ M ≤ 1000000000000) := Lib.hid (by omega)
      have own := HO.out
      rcases HO.out.2 with ⟨hv, h0⟩ | ⟨g, cap, cur, hv, hbg, hg, hmc, hcm, -, -⟩
      · subst hv
        have hm0 : m = 0 := h0
        have HE : Hid (s.size = 0) := Lib.hid (HSM.out.trans hm0)
        clear own HO HMM hml HSM h0 hsz HPS2 HPB2 HPL2 HPZ HST2 HSZ2 HIT
        subst hm0
        go_wp2_with fail
        with_reducible refine (stbNO _).mono ?_
        rintro e w2 ⟨rfl, rfl⟩
        obtain ⟨z0, z1, z2, z3⟩ := HQ.out.at_pr
        have hzl := HQ.out.1
        obtain ⟨og, hog⟩ : ∃ og, wr.heap.size = og := ⟨_, rfl⟩
        have hog2 : w.heap.size < og := by have := HX.out.1; omega
        go_wp2_with (refine wpList_make_row _ rfl _ _ 22 rfl 3 i0 (.int .i64 0) Tryz.underlying22 hi hz0 hz1 rfl k rfl rfl ?d1 ?d2 ?_)
        case d1 => rw [hz2]; omega
        case d2 => unfold maxLen; omega
        intro w3 R3 g3 s3
        try rw [hog] at R3
        try rw [hog] at s3
        have HR3 := Lib.hid (R3.congr (f' := frV s A B s.size) fun j _ => by rw [HE.out]; simp [frV, frS])
        have HX3 := Lib.hid (HX.out.grown g3 (by simp))
        have HB3 := Lib.hid (HB.out.grown g3 HB.out.size (by simp))
        clear R3 g3 s3 z0 z1 z2 z3 hzl hB HX HB HQ
        obtain ⟨x0, x1, x2, x3, x4, x5, x6, x7, x8, x9, x10, x11⟩ := HX3.out.at12
        have hxl := HX3.out.1
        have hlz : decide ((SS : Int) ≤ 0) = false := decide_eq_false (by omega)
        go_wp2_with fail
        go_loopw [5] (fun l wr => l = .slice none 0 0 ∧ w3 = wr) (fun _ _ => 0)
        case atStart => exact ⟨rfl, rfl⟩
        case round =>
          obtain ⟨rfl, rfl⟩ := hrel
          have C := Lib.hid (most_any (some ⟨og, 0, none⟩) fl k k M w3 HLL.out hn1 (HFR.out w3 og HR3.out) HFB.out HMB.out.2)
          go_wp2_with fail
          with_reducible refine C.out.mono ?_
          rintro e w6 ⟨a', c', rfl, hI6, d6⟩
          have HI6 := Lib.hid hI6
          have HB6 := Lib.hid (HB3.out.trans (d6.mono HB3.out.size))
          clear hI6 d6 C
          go_wp2_with fail
          go_ret
          exact ⟨_, _, rfl, HI6.out, HB6.out⟩
      · subst hv
        have hP0 : PrW wr g (pk k).toArray wr := PrW.of_own own hml
        have C := Lib.hid (stbO g m cap (pk k).toArray wr wr hP0 (by simpa using hml) (by omega))
        rw [HST2.out] at C
        have hgw : w.heap.size < g := by omega
        clear own HO HMM hml HPS2 HPB2 HPL2 HPZ HST2 HSZ2 HIT hg hbg hP0 hsz
        go_wp2_with fail
        with_reducible refine C.out.mono ?_
        rintro e w2 ⟨rfl, hP2⟩
        have HP2 := Lib.hid (PcC.of hP2)
        have HX2 := Lib.hid (HX.out.grown hP2.gr (by simp; omega))
        have HQ2 := Lib.hid (HQ.out.grown hP2.gr (by simp; omega))
        have HB2 := Lib.hid (HB.out.grown hP2.gr HB.out.size (fun q hq => by injection hq with hq; omega))
        clear hP2 C hB HX HQ HB
        obtain ⟨z0, z1, z2, z3⟩ := HQ2.out.at_pr
        have hzl := HQ2.out.1
        obtain ⟨og, hog⟩ : ∃ og, w2.heap.size = og := ⟨_, rfl⟩
        have hog2 : w.heap.size < og := by have := HX2.out.1; omega
        have hog3 : g < og := by have := HP2.out.lt; omega
        go_wp2_with (refine wpList_make_row _ rfl _ _ 22 rfl 3 i0 (.int .i64 0) Tryz.underlying22 hi hz0 hz1 rfl k rfl rfl ?d1 ?d2 ?_)
        case d1 => rw [hz2]; omega
        case d2 => unfold maxLen; omega
        intro w3 R3 g3 s3
        try rw [hog] at R3
        try rw [hog] at s3
        have HR3 := Lib.hid (R3.congr (f' := frV s A B 0) fun j _ => by simp [frV, frS])
        have HX3 := Lib.hid (HX2.out.grown g3 (by simp))
        have HB3 := Lib.hid (HB2.out.grown g3 HB2.out.size (by simp))
        have HP3 := Lib.hid (HP2.out.grown g3 (by simp))
        clear R3 g3 s3 z0 z1 z2 z3 hzl HX2 HB2 HQ2 HP2 hog
        go_wp2_with fail
        go_loopw [5] (fun l wr => ∃ t T L C o : Nat, T = t * SS ∧ T + L = m ∧ T + C = cap ∧ (0 < L → o = T * 2) ∧ l = .slice (some ⟨g, o, none⟩) L C ∧ RowG wr og k (frV s A B T) ∧ PcC wr g s ∧ XB wr w.heap.size [.string k0, .int .i64 3, .int .i64 (A : Nat), .int .i64 (B : Nat), .slice tv tags.length tc, .int .i64 le, .int .i64 (M : Nat), .string gr, .bool al, .int .i64 od, .int .i64 fr, .int .i64 t2] ∧ Below w.heap.size w wr) (fun l _ => lenV l)
        case atStart => exact ⟨0, 0, m, cap, 0, by omega, by omega, by omega, fun _ => rfl, rfl, HR3.out, HP3.out, HX3.out, HB3.out⟩
        case round =>
          obtain ⟨t, T, L, C, o, hT, hTL, hTC, ho, rfl, hR, hP, hX, hB⟩ := hrel
          clear HR3 HX3 HB3 HP3
          have HR := Lib.hid hR
          have HX := Lib.hid hX
          have HB := Lib.hid hB
          have HP := Lib.hid hP
          have HT := Lib.hid hT
          clear hR hX hP hT
          obtain ⟨x0, x1, x2, x3, x4, x5, x6, x7, x8, x9, x10, x11⟩ := HX.out.at12
          have hxl := HX.out.1
          by_cases hge : SS ≤ L
          · obtain rfl : o = T * 2 := ho (by omega)
            clear ho
            have hd : decide ((SS : Int) ≤ (L : Int)) = true := decide_eq_true (by omega)
            have hSC : SS ≤ C := by omega
            have hAS : A ≤ SS := by omega
            have HYS : Hid (∀ j, j < B → selB A B s.size (T + A + j) = true) := Lib.hid (fun j hj => by
              have h1 : (t + 1) * (A + B) ≤ s.size := by rw [HSM.out, hSS, Nat.add_mul, ← HT.out]; omega
              have h2 := selB_yes A B s.size t j hj h1
              rw [hSS, ← HT.out, ← Nat.add_assoc] at h2
              exact h2)
            have HNS : Hid (∀ j, frS s A B (T + A) j = frS s A B T j) := Lib.hid (fun j => frS_skip s A B j T A fun k h1 h2 => by
              have h3 := selB_no A B s.size t (k - T) (by omega) (by omega)
              rw [hSS, ← HT.out, show T + (k - T) = k by omega] at h3
              exact h3)
            go_wp2_with fail
            go_loopw [77] (fun i wx => ∃ j : Nat, j ≤ B ∧ i = .int .i64 j ∧ RowG wx og k (frV s A B (T + A + j)) ∧ PcC wx g s ∧ XB wx w.heap.size [.string k0, .int .i64 3, .int .i64 (A : Nat), .int .i64 (B : Nat), .slice tv tags.length tc, .int .i64 le, .int .i64 (M : Nat), .string gr, .bool al, .int .i64 od, .int .i64 fr, .int .i64 t2] ∧ Below w.heap.size w wx) (fun i _ => B - (intOf i).toNat)
            case atStart => exact ⟨0, Nat.zero_le _, rfl, HR.out.congr (fun j _ => by unfold frV; rw [Nat.add_zero, HNS.out]), HP.out, HX.out, HB.out⟩
            case round =>
              obtain ⟨j, hj, rfl, hR, hP, hX, hB5⟩ := hrel
              have HX5 := Lib.hid hX
              have HP5 := Lib.hid hP
              have HR5 := Lib.hid hR
              have HB5 := Lib.hid hB5
              clear hX HR HP HX HB hB x0 x1 x2 x3 x4 x5 x6 x7 x8 x9 x10 x11 hxl
              by_cases hjB : j < B
              · obtain ⟨ix, hix⟩ : ∃ ix, T + A + j = ix := ⟨_, rfl⟩
                have hxs : ix < s.size := by have := HSM.out; omega
                have hof : T * 2 + A * 2 + j * 2 = ix * 2 := by omega
                have c0 := hP.c0 ix hxs
                have c1 := hP.c1 ix hxs
                obtain ⟨p0, p1, p2, p3⟩ := HSI.out ix hxs
                obtain ⟨it, hit⟩ : ∃ it : Nat, s[ix]!.1 = it := ⟨s[ix]!.1.toNat, by omega⟩
                obtain ⟨ct, hct⟩ : ∃ ct : Nat, s[ix]!.2 = ct := ⟨s[ix]!.2.toNat, by omega⟩
                have hsel := HYS.out j hjB
                rw [hix] at hsel hR
                rw [hit] at c0 p0 p1
                rw [hct] at c1 p2 p3
                have hitk : it < k := by have := HNI.out; omega
                obtain ⟨vv, hvv⟩ : ∃ vv, frS s A B ix it = vv := ⟨_, rfl⟩
                have hv9 : vv ≤ 1000000000 := by rw [← hvv]; exact Nat.le_trans (HFL.out ix it (by omega)) (HVB.out it)
                have HHIT := Lib.hid (frV_hit s A B ix it ct hsel hit hct vv hvv)
                have r0 := hR.cell it hitk
                have r1 := hR.free it hitk
                unfold frV at r0
                rw [hvv] at r0
                have HR6 := Lib.hid hR
                clear hR hP HR5 hsel hit hct hvv
                have HXa := Lib.hid (HX5.out.alloc (.cells #[.int .i64 (it : Int), .int .i64 (ct : Int)] 139))
                have HPa := Lib.hid (HP5.out.below ((Below.refl _ _).alloc (Nat.le_refl _) (.cells #[.int .i64 (it : Int), .int .i64 (ct : Int)] 139)))
                have HRa := Lib.hid (HR6.out.alloc (.cells #[.int .i64 (it : Int), .int .i64 (ct : Int)] 139))
                have HBa := Lib.hid (HB5.out.alloc HB5.out.size (.cells #[.int .i64 (it : Int), .int .i64 (ct : Int)] 139))
                have X0 := Lib.hid (XB.new wr [.int .i64 (it : Int), .int .i64 (ct : Int)] 139)
                simp only [List.toArray] at X0
                have ra0 := Lib.cell?_alloc_some (.cells #[.int .i64 (it : Int), .int .i64 (ct : Int)] 139) r0
                have ra1 := HRa.out.free it hitk
                go_upto_region 15 with (fail)
                generalize wr.alloc (.cells #[.int .i64 (it : Int), .int .i64 (ct : Int)] 139) = w5 at *
                clear c0 c1 r0 r1
                obtain ⟨qb, hqb⟩ : ∃ qb, wr.heap.size = qb := ⟨_, rfl⟩
                rw [hqb] at X0
                try rw [hqb]
                have b0 := X0.out.2 0 _ rfl
                have b1 := X0.out.2 1 _ rfl
                go_still_tail 8, (by kernel_rfl)
                change wpList _ _ _ _ _ w5.drew
                have r2 : w5.drew.cell? ⟨og, it, none⟩ = some (.int .i64 (vv : Int)) := ra0
                have r3 : w5.drew.frozen? ⟨og, it, none⟩ = false := ra1
                have HX6 := Lib.hid HXa.out.drew
                have HP6 := Lib.hid HPa.out.drew
                have HR7 := Lib.hid HRa.out.drew
                have HB6 := Lib.hid HBa.out.drew
                clear ra0 ra1 b0 b1 HXa HPa HRa HBa X0
                generalize w5.drew = w6 at *
                go_wp2_with fail
                go_roundw
                case rel =>
                  refine ⟨j + 1, by omega, by go_num, ?_, ?_, ?_, ?_⟩
                  · rw [← Nat.add_assoc, hix]
                    exact (HR7.out.set it hitk _).congr (fun i _ => HHIT.out i)
                  · exact HP6.out.far (by show g ≠ og; omega) _
                  · exact HX6.out.grown (grown_set (grown_same w6 (some og)) (p := ⟨og, it, none⟩) (.inl rfl) _) (by simp; omega)
                  · exact HB6.out.setCell (by show w.heap.size ≤ og; omega) _
                case measure => simp [intOf]; omega
              · obtain rfl : j = B := by omega
                obtain ⟨x0, x1, x2, x3, x4, x5, x6, x7, x8, x9, x10, x11⟩ := HX5.out.at12
                have hxl := HX5.out.1
                have HRE := Lib.hid (show RowG wr og k (frV s A j (T + SS)) by rw [show T + SS = T + A + j by omega]; exact HR5.out)
                have hSL : SS ≤ L := hge
                clear hR hP HR5
                go_wp2_with fail
                go_roundw
                case rel => exact ⟨t + 1, T + SS, L - SS, C - SS, if C = SS then T * 2 else T * 2 + SS * 2, by rw [Nat.add_mul, ← HT.out, Nat.one_mul], by omega, by omega, (fun h => by rw [if_neg (by omega), Nat.add_mul]), (by split <;> rfl), HRE.out, HP5.out, HX5.out, HB5.out⟩
                case measure => simp [lenV]; omega
          · have hd : decide ((SS : Int) ≤ (L : Int)) = false := decide_eq_false (by omega)
            have HRE := Lib.hid (HR.out.congr (f' := frV s A B s.size) (fun j _ => by
              unfold frV
              have h1 := HSM.out
              have h2 := frS_skip s A B j T L fun k h1' h2' => selB_end A B s.size t k (by omega) (by rw [hSS, Nat.add_mul, ← HT.out, HSM.out]; omega) (by rw [hSS, ← HT.out]; exact h1')
              rw [show s.size = T + L by omega, h2]))
            have C := Lib.hid (most_any (some ⟨og, 0, none⟩) fl k k M wr HLL.out hn1 (HFR.out wr og HRE.out) HFB.out HMB.out.2)
            clear hB
            go_wp2_with fail
            with_reducible refine C.out.mono ?_
            rintro e w6 ⟨a', c', rfl, hI6, d6⟩
            have HI6 := Lib.hid hI6
            have HB6 := Lib.hid (HB.out.trans (d6.mono HB.out.size))
            clear hI6 d6 C
            go_wp2_with fail
            go_ret
            exact ⟨_, _, rfl, HI6.out, HB6.out⟩
end Go.Proofs.YtdefjnefkdemiaaGreatDoor
