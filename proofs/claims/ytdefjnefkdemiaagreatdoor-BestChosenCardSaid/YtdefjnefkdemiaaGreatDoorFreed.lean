/- handref1.freed (printed by gen_freed.py). -/
import Derived.Test.YtdefjnefkdemiaaGreatDoorM2
import Derived.Deep.RegionHeld3
import Derived.Deep.AppendLies
import Derived.Deep.QuietTactic
import Derived.BigQuiet
import Derived.Deep.CutBlock
import Derived.Deep.DeepCutAuto
set_option linter.unusedVariables false
namespace Go.Proofs.YtdefjnefkdemiaaGreatDoor
open Go.RowKit Go.Sort

theorem infoPcR : (Tryz.prog.info? 127).map (fun i => (i.zero, i.size, i.bytes)) = some (some (.agg #[.int .i64 0, .int .i64 0]), 2, 16) := by kernel_rfl
theorem frV_miss (s : Array Pc) (A B k j : Nat) (hs : selB A B s.size k = false) : frV s A B k j = frV s A B (k + 1) j := by
  unfold frV
  rw [frS, hs]
  simp

set_option maxRecDepth 100000 in
set_option maxHeartbeats 16000000 in
theorem freed_any (x : Of) (ai : Option Addr) (li : List It) (n ci : Nat) (sh0 : Int) (la : Option Addr) (left : List Nat) (cl : Nat) (w : World)
    (hx : x.ok) (hxb : ofB x = true) (hxk : x.kind = 3) (hxt : StrsAt w x.tv x.tags)
    (hni : li.length = n) (hn : left.length = n) (hn1 : n < 20) (hI : RAt w ai 4 It.cells li) (hTG : TagsAt It.tv It.tags w li) (hok : ∀ y ∈ li, y.ok) (hit : ∀ y ∈ li, itB y = true) (hL : natsAt w la left) (hb : ∀ z ∈ left, z ≤ 1000000000) :
    Calls Tryz.prog 69 #[.agg x.cells.toArray, .agg #[.slice ai n ci, .int .i64 sh0], .slice la n cl] w fun e w' => ∃ g, e = .returned (.slice (some ⟨g, 0, none⟩) n n) ∧ natsAt w' (some ⟨g, 0, none⟩) (freeN x li left) ∧ Below w.heap.size w w' ∧ w.heap.size ≤ g := by
  obtain ⟨i0, hi, hz0, hz1, hz2⟩ := info_parts infoP_int
  obtain ⟨j0, hj, hy0, hy1, hy2⟩ := info_parts infoPcR
  have HN := Lib.hid hn
  have HNI := Lib.hid hni
  have HI := Lib.hid hI
  have HL := Lib.hid hL
  have HBL := Lib.hid hb
  have HIT := Lib.hid (fun y (h : y ∈ li) => itB_bd (hit y h))
  have HM := Lib.hid (fun y w' (h1 : y ∈ li) (hbl : Below w.heap.size w w') => matchesR_any x y w' (by have := hx.2.2.2.2.2.2.2.1; omega) (by have := (hok y h1).2.2.2.2.2.1; omega) (hxt.below hbl) ((hTG y h1).below hbl))
  obtain ⟨a0, -, -, a3, m0, m1⟩ := ofB_kd hxb
  obtain ⟨a2, b1, b2⟩ := a3 hxk
  have HLE := Lib.hid (freeN_le x li left)
  have HFL := Lib.hid (fun k j hk => frS_left x li left k j hk)
  have HSI := Lib.hid (srtP_in x li left hb)
  have HSZ := Lib.hid (srtP_size x li left)
  have HPL := Lib.hid (pcs_len x li left hit)
  have HPS := Lib.hid (fun k => pcsK_succ x li left k)
  have HPB := Lib.hid (fun k h h2 => blk_at x li left k h h2)
  have HFR := Lib.hid (fun (w : World) (g : Nat) (h : RowG w g n (frV (srtP x li left) x.a.toNat x.b.toNat (srtP x li left).size)) => freeN_row h hn)
  have HST : Hid (stable ltP (pcsK x li left n).toArray = srtP x li left) := Lib.hid (by unfold srtP; rw [hni])
  clear a3 hxb
  obtain ⟨k0, kd, ia, ib, tv, tc, tags, le, mo, gr, al, od, fr, t2⟩ := x
  simp only at hxk
  subst hxk
  simp only at HM HLE HFL HSI HSZ HPL HPS HPB HFR HST a0 a2 b1 b2 m0 m1 ⊢
  obtain ⟨A, rfl⟩ : ∃ A : Nat, ia = A := ⟨ia.toNat, by omega⟩
  obtain ⟨B, rfl⟩ : ∃ B : Nat, ib = B := ⟨ib.toNat, by omega⟩
  obtain ⟨M, rfl⟩ : ∃ M : Nat, mo = M := ⟨mo.toNat, by omega⟩
  simp only [Int.toNat_natCast] at HFR HFL ⊢
  rw [show (Of.cells ⟨k0, 3, A, B, tv, tc, tags, le, M, gr, al, od, fr, t2⟩).toArray = #[.string k0, .int .i64 3, .int .i64 (A : Nat), .int .i64 (B : Nat), .slice tv tags.length tc, .int .i64 le, .int .i64 (M : Nat), .string gr, .bool al, .int .i64 od, .int .i64 fr, .int .i64 t2] from rfl]
  obtain ⟨pk, hpk⟩ : ∃ f : Nat → List Pc, f = fun k => pcsK ⟨k0, 3, A, B, tv, tc, tags, le, M, gr, al, od, fr, t2⟩ li left k := ⟨_, rfl⟩
  have HPZ : Hid (pk 0 = []) := Lib.hid (by rw [hpk]; rfl)
  obtain ⟨bk, hbk⟩ : ∃ f : Nat → List Pc, f = fun k => blkP ⟨k0, 3, A, B, tv, tc, tags, le, M, gr, al, od, fr, t2⟩ li left k := ⟨_, rfl⟩
  have HPS2 : Hid (∀ k, pk (k + 1) = pk k ++ bk k) := Lib.hid (by intro k; rw [hpk, hbk]; exact HPS.out k)
  have HPL2 : Hid (∀ k, (pk k).length ≤ 100 * k) := Lib.hid (by intro k; rw [hpk]; exact HPL.out k)
  obtain ⟨mt, hmt⟩ : ∃ f : It → Bool, f = fun y => mtB ⟨k0, 3, A, B, tv, tc, tags, le, M, gr, al, od, fr, t2⟩ y := ⟨_, rfl⟩
  have HPB2 : Hid (∀ k (h : k < li.length) (h2 : k < left.length), bk k = if mt li[k] = true then List.replicate li[k].many.toNat ((k : Int), ((left[k] / li[k].many.toNat : Nat) : Int)) else []) := Lib.hid (by intro k h h2; rw [hbk, hmt]; exact HPB.out k h h2)
  have HM2 : Hid (∀ (y : It) (w' : World), y ∈ li → Below w.heap.size w w' → Calls Tryz.prog 26 #[.agg #[.string k0, .int .i64 3, .int .i64 (A : Nat), .int .i64 (B : Nat), .slice tv tags.length tc, .int .i64 le, .int .i64 (M : Nat), .string gr, .bool al, .int .i64 od, .int .i64 fr, .int .i64 t2], .agg y.cells.toArray] w' fun e w'' => e = .returned (.bool (mt y)) ∧ Below w'.heap.size w' w'') := Lib.hid (by intro y w' h h2; rw [hmt]; exact HM.out y w' h h2)
  obtain ⟨s, hs⟩ : ∃ s, srtP ⟨k0, 3, A, B, tv, tc, tags, le, M, gr, al, od, fr, t2⟩ li left = s := ⟨_, rfl⟩
  obtain ⟨fl, hfl⟩ : ∃ l, freeN ⟨k0, 3, A, B, tv, tc, tags, le, M, gr, al, od, fr, t2⟩ li left = l := ⟨_, rfl⟩
  rw [hs] at HST HSI HFR HFL HSZ
  rw [hfl] at HFR HLE ⊢
  have HST2 : Hid (stable ltP (pk n).toArray = s) := Lib.hid (by rw [hpk]; exact HST.out)
  have HSZ2 : Hid (s.size = (pk n).length) := Lib.hid (by rw [hpk, ← HNI.out]; exact HSZ.out)
  clear HPS HPL HPB HM HST HSZ hs hpk hbk hmt hfl
  have HX0 := Lib.hid ((XB.new w [.string k0, .int .i64 3, .int .i64 (A : Nat), .int .i64 (B : Nat), .slice tv tags.length tc, .int .i64 le, .int .i64 (M : Nat), .string gr, .bool al, .int .i64 od, .int .i64 fr, .int .i64 t2] 37).alloc (.cells #[.slice ai n ci, .int .i64 sh0] 30))
  have HY0 := Lib.hid (XB.new (w.alloc (.cells #[.string k0, .int .i64 3, .int .i64 (A : Nat), .int .i64 (B : Nat), .slice tv tags.length tc, .int .i64 le, .int .i64 (M : Nat), .string gr, .bool al, .int .i64 od, .int .i64 fr, .int .i64 t2] 37)) [.slice ai n ci, .int .i64 sh0] 30)
  have HB0 := Lib.hid (((Below.refl w.heap.size w).alloc (Nat.le_refl _) (.cells #[.string k0, .int .i64 3, .int .i64 (A : Nat), .int .i64 (B : Nat), .slice tv tags.length tc, .int .i64 le, .int .i64 (M : Nat), .string gr, .bool al, .int .i64 od, .int .i64 fr, .int .i64 t2] 37)).alloc (by simp) (.cells #[.slice ai n ci, .int .i64 sh0] 30))
  simp only [List.toArray] at HX0 HY0
  have hz : (w.alloc (.cells #[.string k0, .int .i64 3, .int .i64 (A : Nat), .int .i64 (B : Nat), .slice tv tags.length tc, .int .i64 le, .int .i64 (M : Nat), .string gr, .bool al, .int .i64 od, .int .i64 fr, .int .i64 t2] 37)).heap.size = w.heap.size + 1 := by simp
  rw [hz] at HY0
  have hz' : ((w.alloc (.cells #[.string k0, .int .i64 3, .int .i64 (A : Nat), .int .i64 (B : Nat), .slice tv tags.length tc, .int .i64 le, .int .i64 (M : Nat), .string gr, .bool al, .int .i64 od, .int .i64 fr, .int .i64 t2] 37)).alloc (.cells #[.slice ai n ci, .int .i64 sh0] 30)).heap.size = w.heap.size + 2 := by simp
  clear hni hn hI hTG hok hb hx hxt hL hit hz
  go_enter Tryz.func69, Tryz.ntmps69
  go_upto_region 1 with (fail)
  generalize (w.alloc (.cells #[.string k0, .int .i64 3, .int .i64 (A : Nat), .int .i64 (B : Nat), .slice tv tags.length tc, .int .i64 le, .int .i64 (M : Nat), .string gr, .bool al, .int .i64 od, .int .i64 fr, .int .i64 t2] 37)).alloc (.cells #[.slice ai n ci, .int .i64 sh0] 30) = w1 at *
  have z0 := HY0.out.2 0 _ rfl
  have z1 := HY0.out.2 1 _ rfl
  have hzl := HY0.out.1
  go_wp2_with fail
  clear z0 z1 hzl HY0
  go_loopw [7, 8, 9, 17] (fun l _ _ i wr => ∃ (k m : Nat) (v : Value), k ≤ n ∧ i = .int .i64 k ∧ v = l ∧ m = (pk k).length ∧ wr.ownsRow (w.heap.size + 2) 127 2 v m ((pk k).flatMap pcC) ∧ XB wr w.heap.size [.string k0, .int .i64 3, .int .i64 (A : Nat), .int .i64 (B : Nat), .slice tv tags.length tc, .int .i64 le, .int .i64 (M : Nat), .string gr, .bool al, .int .i64 od, .int .i64 fr, .int .i64 t2] ∧ Below w.heap.size w wr ∧ w.heap.size + 2 ≤ wr.heap.size) (fun _ _ _ i _ => n - (intOf i).toNat)
  case atStart =>
    refine ⟨0, 0, _, Nat.zero_le _, rfl, rfl, by rw [HPZ.out]; rfl, ?_, HX0.out, HB0.out, by omega⟩
    rw [HPZ.out]
    exact World.ownsRow_nil _ _ _ _
  case round =>
    obtain ⟨k, m, v, hk, rfl, rfl, hm, own, hX, hB, hsz⟩ := hrel
    clear HX0 HB0 hz'
    have HX := Lib.hid hX
    have HB := Lib.hid hB
    have HO := Lib.hid own
    have HMM := Lib.hid hm
    have hm9 : m ≤ 2000 := by have := HPL2.out k; omega
    clear hm hX own
    by_cases hlt : k < n
    · have hkl : k < li.length := by have := HNI.out; omega
      have hkz : k < left.length := by have := HN.out; omega
      obtain ⟨pl, ol, rfl, hp, hcell⟩ := HL.out.at_ hkz
      have hcell2 := (hB.cell (p := ⟨pl, ol + k, none⟩) hp).trans hcell
      obtain ⟨p2, off2, rfl, hp2, c0, c1, c2, c3⟩ := (HI.out.below hB).at4 hkl (v0 := .string li[k].key) (v1 := .int .i64 li[k].cents) (v2 := .int .i64 li[k].many) (v3 := .slice li[k].tv li[k].tags.length li[k].tc) rfl
      have hzb := HBL.out left[k] (List.getElem_mem hkz)
      have HFK := Lib.hid (HPB2.out k hkl hkz)
      obtain ⟨q0, q1, q2, q3⟩ := HIT.out li[k] (List.getElem_mem hkl)
      have C := Lib.hid (fun w' hbl => HM2.out li[k] w' (List.getElem_mem hkl) hbl)
      generalize left[k] = z at *
      generalize mt li[k] = mb at *
      generalize li[k] = y at *
      obtain ⟨yk, yc, ym, yv, ytc, yt⟩ := y
      simp only at c0 c1 c2 c3 C HFK q0 q1 q2 q3
      obtain ⟨ym, rfl⟩ : ∃ u : Nat, ym = u := ⟨ym.toNat, by omega⟩
      simp only [Int.toNat_natCast] at HFK
      rw [show (It.cells ⟨yk, yc, ym, yv, ytc, yt⟩).toArray = #[.string yk, .int .i64 yc, .int .i64 (ym : Nat), .slice yv yt.length ytc] from rfl] at C
      have HBa := Lib.hid (HB.out.alloc HB.out.size (.cells #[.string yk, .int .i64 yc, .int .i64 (ym : Nat), .slice yv yt.length ytc] 60))
      have X0 := Lib.hid (XB.new wr [.string yk, .int .i64 yc, .int .i64 (ym : Nat), .slice yv yt.length ytc] 60)
      have HXa := Lib.hid (HX.out.alloc (.cells #[.string yk, .int .i64 yc, .int .i64 (ym : Nat), .slice yv yt.length ytc] 60))
      have HOa := Lib.hid (own_below HO.out ((Below.refl _ _).alloc (Nat.le_refl _) (.cells #[.string yk, .int .i64 yc, .int .i64 (ym : Nat), .slice yv yt.length ytc] 60)))
      have hsa : (wr.alloc (.cells #[.string yk, .int .i64 yc, .int .i64 (ym : Nat), .slice yv yt.length ytc] 60)).heap.size = wr.heap.size + 1 := by simp
      simp only [List.toArray] at X0
      have hcell3 := Lib.cell?_alloc_some (.cells #[.string yk, .int .i64 yc, .int .i64 (ym : Nat), .slice yv yt.length ytc] 60) hcell2
      have HOB : Hid (∀ g, v.ownBlock = some g → w.heap.size + 2 ≤ g ∧ g < wr.heap.size) := Lib.hid (fun g hg => HO.out.lt g hg)
      have hsz2 : w.heap.size + 2 ≤ wr.heap.size := hsz
      clear hB HX HB HO hsz HM2
      go_upto_region 5 with (fail)
      generalize wr.alloc (.cells #[.string yk, .int .i64 yc, .int .i64 (ym : Nat), .slice yv yt.length ytc] 60) = w2 at *
      obtain ⟨qb, hqb⟩ : ∃ qb, wr.heap.size = qb := ⟨_, rfl⟩
      rw [hqb] at X0 HOB hsa hsz2
      try rw [hqb]
      clear c0 c1 c2 c3 hp2 hcell2 hcell hqb
      obtain ⟨y0, y1, y2, y3⟩ := X0.out.at4
      have hyl := X0.out.1
      obtain ⟨cp, hcp⟩ : ∃ cp, z / ym = cp := ⟨_, rfl⟩
      have hqd : (z : Int).tdiv (ym : Int) = (cp : Int) := by rw [Int.tdiv_eq_ediv_of_nonneg (by omega), ← hcp]; simp
      have hcb : cp ≤ 1000000000 := by rw [← hcp]; exact Nat.le_trans (Nat.div_le_self _ _) hzb
      rw [hcp] at HFK
      clear hcp
      obtain ⟨pj, hpj⟩ : ∃ f : Nat → List Pc, f = fun i => pk k ++ (if mb = true then List.replicate i ((k : Int), (cp : Int)) else []) := ⟨_, rfl⟩
      have HJ0 : Hid (pj 0 = pk k) := Lib.hid (by rw [hpj]; simp)
      have HJN : Hid (pj ym = pk (k + 1)) := Lib.hid (by rw [hpj, HPS2.out, HFK.out])
      have HJT : Hid (mb = true → ∀ i, pj (i + 1) = pj i ++ [((k : Int), (cp : Int))]) := Lib.hid (fun h i => by rw [hpj]; simp only [if_pos h, List.replicate_succ', List.append_assoc])
      have HJF : Hid (mb = false → ∀ i, pj (i + 1) = pj i) := Lib.hid (fun h i => by rw [hpj]; simp [h])
      have HJL : Hid (∀ i, (pj i).length ≤ m + i) := Lib.hid (fun i => by
        rw [hpj]
        have := HMM.out
        simp only [List.length_append]
        split <;> simp <;> omega)
      have HJM : Hid (m = (pj 0).length) := Lib.hid (by rw [HJ0.out]; exact HMM.out)
      clear hpj HFK HMM
      go_wp2_with fail
      clear y0 y1 y2 y3 hyl
      go_loopw [7, 24] (fun l i wx => ∃ (j mj : Nat) (vj : Value), j ≤ ym ∧ i = .int .i64 j ∧ vj = l ∧ mj = (pj j).length ∧ wx.ownsRow (w.heap.size + 2) 127 2 vj mj ((pj j).flatMap pcC) ∧ (∀ g, vj.ownBlock = some g → w.heap.size + 2 ≤ g ∧ g ≠ qb) ∧ wx.cell? ⟨pl, ol + k, none⟩ = some (.int .i64 (z : Int)) ∧ XB wx qb [.string yk, .int .i64 yc, .int .i64 (ym : Nat), .slice yv yt.length ytc] ∧ XB wx w.heap.size [.string k0, .int .i64 3, .int .i64 (A : Nat), .int .i64 (B : Nat), .slice tv tags.length tc, .int .i64 le, .int .i64 (M : Nat), .string gr, .bool al, .int .i64 od, .int .i64 fr, .int .i64 t2] ∧ Below w.heap.size w wx ∧ w.heap.size + 2 ≤ wx.heap.size) (fun _ i _ => ym - (intOf i).toNat)
      case atStart =>
        refine ⟨0, m, _, Nat.zero_le _, rfl, rfl, HJM.out, ?_, (fun g hg => by have := HOB.out g hg; omega), hcell3, X0.out, HXa.out, HBa.out, by omega⟩
        rw [HJ0.out]
        exact HOa.out
      case round =>
        obtain ⟨j, mj, vj, hjj, rfl, rfl, hmj, own, hob, hcell, hX0, hX, hB, hsz⟩ := hrel
        clear HBa HXa X0 HOa hcell3
        have X0 := Lib.hid hX0
        have HX := Lib.hid hX
        have HB := Lib.hid hB
        have HO := Lib.hid own
        have HOB2 := Lib.hid hob
        have HMJ := Lib.hid hmj
        have hmj9 : mj ≤ 3000 := by have := HJL.out j; omega
        clear hX0 hX hB own hob hmj
        by_cases hjy : j < ym
        · obtain ⟨x0, x1, x2, x3, x4, x5, x6, x7, x8, x9, x10, x11⟩ := HX.out.at12
          have hxl := HX.out.1
          obtain ⟨y0, y1, y2, y3⟩ := X0.out.at4
          have hyl := X0.out.1
          go_wp2_with fail
          with_reducible refine (C.out _ HB.out).mono ?_
          rintro e w3 ⟨rfl, d3⟩
          have HB3 := Lib.hid (HB.out.trans (d3.mono HB.out.size))
          have HX3 := Lib.hid (HX.out.below d3)
          have X3 := Lib.hid (X0.out.below d3)
          have HO3 := Lib.hid (own_below HO.out d3)
          have hcell4 := (d3.cell (World.block_lt_of_cell? _ _ hcell)).trans hcell
          have hsz3 : w.heap.size + 2 ≤ w3.heap.size := by have := d3.size; omega
          clear x0 x1 x2 x3 x4 x5 x6 x7 x8 x9 x10 x11 hxl y0 y1 y2 y3 hyl d3 HB HX X0 HO hcell
          cases mb with
          | true =>
            have HPK := Lib.hid (HJT.out rfl j)
            obtain ⟨y0, y1, y2, y3⟩ := X3.out.at4
            have hyl := X3.out.1
            have hcw : IntKind.i64.wrap (cp : Int) = (cp : Int) := by rw [IntKind.wrap_i64]; omega
            have hym2 : ¬ (ym = 0) := by omega
            have hym0 : (ym : Int) ≠ 0 := by omega
            have hym1 : ((ym : Int) == 0) = false := by simp; omega
            have hkc : (k : Int) < (n : Int) := by omega
            have HOd : Hid ((w3.alloc (.cells #[.int .i64 (k : Int), .int .i64 (cp : Int)] 127)).drew.ownsRow (w.heap.size + 2) 127 2 vj mj ((pj j).flatMap pcC)) := Lib.hid (own_below HO3.out ((Below.refl w3.heap.size w3).alloc (Nat.le_refl _) (.cells #[.int .i64 (k : Int), .int .i64 (cp : Int)] 127)).drew)
            have HBd := Lib.hid ((HB3.out.alloc HB3.out.size (.cells #[.int .i64 (k : Int), .int .i64 (cp : Int)] 127)).drew)
            have HNW : Hid (∀ j u, (pcC ((k : Int), (cp : Int)))[j]? = some u → (w3.alloc (.cells #[.int .i64 (k : Int), .int .i64 (cp : Int)] 127)).drew.cell? ((⟨w3.heap.size, 0, none⟩ : Addr).add j) = some u) := Lib.hid (fun j u h => World.news_of_block (w := (w3.alloc (.cells #[.int .i64 (k : Int), .int .i64 (cp : Int)] 127)).drew) (heap_alloc_new w3 (.cells #[.int .i64 (k : Int), .int .i64 (cp : Int)] 127)) j u h)
            have HSd : Hid (w.heap.size + 2 ≤ (w3.alloc (.cells #[.int .i64 (k : Int), .int .i64 (cp : Int)] 127)).drew.heap.size) := Lib.hid (by
              have h : (w3.alloc (.cells #[.int .i64 (k : Int), .int .i64 (cp : Int)] 127)).drew.heap.size = w3.heap.size + 1 := World.size_alloc _ _
              omega)
            have HON : Hid (∀ u ∈ pcC ((k : Int), (cp : Int)), u.oneCell' = true) := Lib.hid (fun v hv => by
              simp only [pcC, List.mem_cons, List.mem_nil_iff, or_false] at hv
              rcases hv with rfl | rfl <;> rfl)
            have HN1 : Hid (some qb ≠ vj.ownBlock) := Lib.hid (fun e => by have := HOB2.out qb e.symm; omega)
            have HN2 : Hid (some pl ≠ vj.ownBlock) := Lib.hid (fun e => by have := HOB2.out pl e.symm; omega)
            have hmy : mj + 1 ≤ maxLen := by unfold maxLen; omega
            have hmb : (mj + 1) * 16 ≤ 140737488355328 := by omega
            go_upto_region 8 with (fail)
            go_region_held3 (fun w' => w'.cell? ⟨pl, ol + k, none⟩ = some (.int .i64 (z : Int)) ∧ w'.cell? ⟨qb, 2, none⟩ = some (.int .i64 (ym : Int)) ∧ w'.cell? ⟨qb, 1, none⟩ = some (.int .i64 yc))
              (first | go_keep | (refine s3_grown grow8 ?_ HN2.out HN1.out HN1.out <;> first | assumption | (refine ⟨?_, ?_, ?_⟩ <;> first | assumption | (go_simp; done))))
              (first | (refine step_append_lies (o := ⟨some 40, _, _, _, _, _⟩) _ rfl (.tmp 29) (.tmp 39) 125 rfl (w.heap.size + 2) 127 j0 _ 2 16 Tryz.underlying125 hj hy0 hy1 hy2 rfl (by decide) vj mj ((pj j).flatMap pcC) (by simp [Act.eval]) HOd.out ⟨w3.heap.size, 0, none⟩ 1 1 (pcC ((k : Int), (cp : Int))) (by simp [Act.eval]) rfl HNW.out HON.out Nat.one_pos hmy hmb HSd.out _ rfl ?_; intro gq cq w8 own8 grow8 at8 lt8))
            have HO9 : Hid (w8.ownsRow (w.heap.size + 2) 127 2 (.slice (some ⟨gq, 0, none⟩) (mj + 1) cq) (mj + 1) ((pj (j + 1)).flatMap pcC)) := Lib.hid (by rw [HPK.out, List.flatMap_append]; simpa using own8)
            have HX9 := Lib.hid ((HX3.out.alloc (.cells #[.int .i64 (k : Int), .int .i64 (cp : Int)] 127)).drew.grown grow8 (fun e => by have := HOB2.out _ e; omega))
            have X9 := Lib.hid ((X3.out.alloc (.cells #[.int .i64 (k : Int), .int .i64 (cp : Int)] 127)).drew.grown grow8 HN1.out.symm)
            have HB9 := Lib.hid (HBd.out.grown grow8 HBd.out.size (fun g hg => by have := HOB2.out g hg; omega))
            have HS9 := Lib.hid (Nat.le_trans HSd.out grow8.size)
            have hcell9 := grow8.cell (Lib.cell?_alloc_some (.cells #[.int .i64 (k : Int), .int .i64 (cp : Int)] 127) hcell4) HN2.out
            have HG9 : Hid (w.heap.size + 2 ≤ gq ∧ gq ≠ qb) := Lib.hid (by
              have h1 := (own8.lt gq (by simp [Value.ownBlock])).1
              refine ⟨h1, ?_⟩
              rcases at8 with h | h
              · exact (HOB2.out gq h).2
              · have h3 : (w3.alloc (.cells #[.int .i64 (k : Int), .int .i64 (cp : Int)] 127)).drew.heap.size = w3.heap.size + 1 := World.size_alloc _ _
                omega)
            have HL9 := Lib.hid (show mj + 1 = (pj (j + 1)).length by rw [HPK.out, List.length_append, ← HMJ.out]; rfl)
            clear own8 grow8 at8 lt8 y0 y1 y2 y3 hyl HBd HOd HNW HSd HON HX3 HB3 HO3 X3
            go_wp2_with fail
            go_roundw
            case rel => exact ⟨j + 1, mj + 1, _, by omega, by go_num, rfl, HL9.out, HO9.out, (fun g hg => by obtain rfl := Option.some.inj hg; exact HG9.out), hcell9, X9.out, HX9.out, HB9.out, HS9.out⟩
            case measure => simp [intOf]; omega
          | false =>
            have HPK := Lib.hid (HJF.out rfl j)
            have HO9 : Hid (w3.ownsRow (w.heap.size + 2) 127 2 vj mj ((pj (j + 1)).flatMap pcC)) := Lib.hid (by rw [HPK.out]; exact HO3.out)
            have HL9 := Lib.hid (show mj = (pj (j + 1)).length by rw [HPK.out, ← HMJ.out])
            clear HO3
            go_wp2_with fail
            go_roundw
            case rel => exact ⟨j + 1, mj, _, by omega, by go_num, rfl, HL9.out, HO9.out, HOB2.out, hcell4, X3.out, HX3.out, HB3.out, hsz3⟩
            case measure => simp [intOf]; omega
        · obtain rfl : j = ym := by omega
          have HL9 := Lib.hid (show mj = (pk (k + 1)).length by rw [HMJ.out, HJN.out])
          have HO9 : Hid (wr.ownsRow (w.heap.size + 2) 127 2 vj mj ((pk (k + 1)).flatMap pcC)) := Lib.hid (by rw [← HJN.out]; exact HO.out)
          clear HO hcell HMJ
          go_wp2_with fail
          go_roundw
          case rel => exact ⟨k + 1, mj, _, by omega, by go_num, rfl, HL9.out, HO9.out, HX.out, HB.out, hsz⟩
          case measure => simp [intOf]; omega
    · obtain rfl : k = n := by omega
      have hml : (pk k).length = m := HMM.out.symm
      have HSM := Lib.hid (HSZ2.out.trans hml)
      have HVB : Hid (∀ j, left.getD j 0 ≤ 1000000000) := Lib.hid (fun j => by
        by_cases hj : j < left.length
        · rw [getD_lt _ _ hj]; exact HBL.out _ (List.getElem_mem hj)
        · rw [getD_ge _ _ (by omega)]; omega)
      obtain ⟨SS, hSS⟩ : ∃ SS, A + B = SS := ⟨_, rfl⟩
      have hAB : (A : Int) + (B : Int) = (SS : Int) := by omega
      have hSS9 : 2 ≤ SS ∧ SS ≤ 40 := by omega
      obtain ⟨hSS1, hSS2⟩ := hSS9
      have own := HO.out
      rcases HO.out.2 with ⟨hv, h0⟩ | ⟨g, cap, cur, hv, hbg, hg, hmc, hcm, -, -⟩
      · subst hv
        have hm0 : m = 0 := h0
        have HE : Hid (s.size = 0) := Lib.hid (HSM.out.trans hm0)
        clear own HO HMM hml HSM h0 hsz HPS2 HPB2 HPL2 HPZ HST2 HSZ2 HIT
        subst hm0
        go_wp2_with fail
        with_reducible refine (stbNR _).mono ?_
        rintro e w2 ⟨rfl, rfl⟩
        obtain ⟨og, hog⟩ : ∃ og, wr.heap.size = og := ⟨_, rfl⟩
        have hog9 : w.heap.size ≤ og := by have := HB.out.size; omega
        go_wp2_with (refine wpList_make_row _ rfl _ _ 22 rfl 3 i0 (.int .i64 0) Tryz.underlying22 hi hz0 hz1 rfl k rfl rfl ?d1 ?d2 ?_)
        case d1 => rw [hz2]; omega
        case d2 => unfold maxLen; omega
        intro w3 R3 g3 s3
        try rw [hog] at R3
        try rw [hog] at s3
        have HR3 := Lib.hid (R3.congr (f' := frV s A B s.size) fun j _ => by rw [HE.out]; simp [frV, frS])
        have HB3 := Lib.hid (HB.out.grown g3 HB.out.size (by simp))
        clear R3 g3 s3 hB HX HB
        go_wp2_with fail
        go_loopw [50] (fun i wr => i = .int .i64 0 ∧ w3 = wr) (fun _ _ => 0)
        case atStart => exact ⟨rfl, rfl⟩
        case round =>
          obtain ⟨rfl, rfl⟩ := hrel
          have HF := Lib.hid (HFR.out w3 og HR3.out)
          go_wp2_with fail
          go_ret
          exact ⟨_, rfl, HF.out, HB3.out, hog9⟩
      · subst hv
        have hP0 : PrW wr g (pk k).toArray wr := PrW.of_own own hml
        have C := Lib.hid (stbR g m cap (pk k).toArray wr wr hP0 (by simpa using hml) (by omega))
        rw [HST2.out] at C
        have hgw : w.heap.size + 1 < g := by omega
        clear own HO HMM hml HPS2 HPB2 HPL2 HPZ HST2 HSZ2 HIT hg hbg hP0 hsz
        go_wp2_with fail
        with_reducible refine C.out.mono ?_
        rintro e w2 ⟨rfl, hP2⟩
        have HP2 := Lib.hid (PcC.of hP2)
        have HX2 := Lib.hid (HX.out.grown hP2.gr (by simp; omega))
        have HB2 := Lib.hid (HB.out.grown hP2.gr HB.out.size (fun q hq => by injection hq with hq; omega))
        clear hP2 C hB HX HB
        obtain ⟨og, hog⟩ : ∃ og, w2.heap.size = og := ⟨_, rfl⟩
        have hog2 : w.heap.size < og := by have := HX2.out.1; omega
        have hog3 : g < og := by have := HP2.out.lt; omega
        go_wp2_with (refine wpList_make_row _ rfl _ _ 22 rfl 3 i0 (.int .i64 0) Tryz.underlying22 hi hz0 hz1 rfl k rfl rfl ?d1 ?d2 ?_)
        case d1 => rw [hz2]; omega
        case d2 => unfold maxLen; omega
        intro w3 R3 g3 s3
        try rw [hog] at R3
        try rw [hog] at s3
        have HR3 := Lib.hid (R3.congr (f' := frV s A B 0) fun j _ => by simp [frV, frS])
        have HX3 := Lib.hid (HX2.out.grown g3 (by simp))
        have HB3 := Lib.hid (HB2.out.grown g3 HB2.out.size (by simp))
        have HP3 := Lib.hid (HP2.out.grown g3 (by simp))
        clear R3 g3 s3 HX2 HB2 HP2 hog
        go_wp2_with fail
        go_loopw [50] (fun i wx => ∃ ix : Nat, ix ≤ m ∧ i = .int .i64 ix ∧ RowG wx og k (frV s A B ix) ∧ PcC wx g s ∧ XB wx w.heap.size [.string k0, .int .i64 3, .int .i64 (A : Nat), .int .i64 (B : Nat), .slice tv tags.length tc, .int .i64 le, .int .i64 (M : Nat), .string gr, .bool al, .int .i64 od, .int .i64 fr, .int .i64 t2] ∧ Below w.heap.size w wx) (fun i _ => m - (intOf i).toNat)
        case atStart => exact ⟨0, Nat.zero_le _, rfl, HR3.out, HP3.out, HX3.out, HB3.out⟩
        case round =>
          obtain ⟨ix, hixm, rfl, hR, hP, hX, hB5⟩ := hrel
          have HX5 := Lib.hid hX
          have HP5 := Lib.hid hP
          have HB5 := Lib.hid hB5
          have HR5 := Lib.hid hR
          clear hX HR3 HX3 HB3 HP3 hR
          by_cases hlt : ix < m
          · have hxs : ix < s.size := by have := HSM.out; omega
            have c0 := hP.c0 ix hxs
            have c1 := hP.c1 ix hxs
            obtain ⟨p0, p1, p2, p3⟩ := HSI.out ix hxs
            obtain ⟨it, hit⟩ : ∃ it : Nat, s[ix]!.1 = it := ⟨s[ix]!.1.toNat, by omega⟩
            obtain ⟨ct, hct⟩ : ∃ ct : Nat, s[ix]!.2 = ct := ⟨s[ix]!.2.toNat, by omega⟩
            rw [hit] at c0 p0 p1
            rw [hct] at c1 p2 p3
            have hitk : it < k := by have := HNI.out; omega
            obtain ⟨vv, hvv⟩ : ∃ vv, frS s A B ix it = vv := ⟨_, rfl⟩
            have hv9 : vv ≤ 1000000000 := by rw [← hvv]; exact Nat.le_trans (HFL.out ix it (by omega)) (HVB.out it)
            have HHIT := Lib.hid (fun hsel => frV_hit s A B ix it ct hsel hit hct vv hvv)
            have HMISS := Lib.hid (fun hsel j => frV_miss s A B ix j hsel)
            have HVV := Lib.hid hvv
            clear hP hit hct hvv
            have HXa := Lib.hid (HX5.out.alloc (.cells #[.int .i64 (it : Int), .int .i64 (ct : Int)] 127))
            have HPa := Lib.hid (HP5.out.below ((Below.refl _ _).alloc (Nat.le_refl _) (.cells #[.int .i64 (it : Int), .int .i64 (ct : Int)] 127)))
            have HRa := Lib.hid (HR5.out.alloc (.cells #[.int .i64 (it : Int), .int .i64 (ct : Int)] 127))
            have HBa := Lib.hid (HB5.out.alloc HB5.out.size (.cells #[.int .i64 (it : Int), .int .i64 (ct : Int)] 127))
            have X0 := Lib.hid (XB.new wr [.int .i64 (it : Int), .int .i64 (ct : Int)] 127)
            simp only [List.toArray] at X0
            obtain ⟨r, hr⟩ : ∃ r, ix % SS = r := ⟨_, rfl⟩
            obtain ⟨dv, hdv⟩ : ∃ dv, ix / SS = dv := ⟨_, rfl⟩
            obtain ⟨pp, hpp⟩ : ∃ pp, (dv + 1) * SS = pp := ⟨_, rfl⟩
            have hdm : SS * dv + r = ix := by rw [← hr, ← hdv]; exact Nat.div_add_mod ix SS
            have hrl : r < SS := by rw [← hr]; exact Nat.mod_lt _ (by omega)
            have hpp2 : pp = SS * dv + SS := by rw [← hpp, Nat.add_mul, Nat.one_mul, Nat.mul_comm]
            have hdv9 : dv ≤ 2000 := by
              have : dv ≤ ix := by rw [← hdv]; exact Nat.div_le_self _ _
              omega
            have HSEL : Hid (selB A B s.size ix = (decide (A ≤ r) && decide (pp ≤ m))) := Lib.hid (by unfold selB; rw [hSS, hr, hdv, hpp, HSM.out])
            have k1 : (ix : Int).tdiv (SS : Int) = (dv : Int) := by rw [Int.tdiv_eq_ediv_of_nonneg (by omega), ← hdv]; simp
            have k2 : (ix : Int).tmod (SS : Int) = (r : Int) := by rw [Int.tmod_eq_emod_of_nonneg (by omega), ← hr]; simp
            have k3 : ((dv : Int) + 1) * (SS : Int) = (pp : Int) := by rw [← hpp]; simp
            have k4 : IntKind.i64.wrap (pp : Int) = (pp : Int) := by rw [IntKind.wrap_i64]; omega
            have k5 : IntKind.i64.wrap (dv : Int) = (dv : Int) := by rw [IntKind.wrap_i64]; omega
            have k6 : IntKind.i64.wrap (r : Int) = (r : Int) := by rw [IntKind.wrap_i64]; omega
            have k7 : ((SS : Int) == 0) = false := by simp; omega
            have k8 : ¬ (SS = 0) := by omega
            have k9 : IntKind.i64.wrap ((dv : Int) + 1) = (dv : Int) + 1 := by rw [IntKind.wrap_i64]; omega
            have k10 : IntKind.i64.wrap ((A : Int) + (B : Int)) = (SS : Int) := by rw [hAB, IntKind.wrap_i64]; omega
            have hpp9 : pp ≤ 3000 := by omega
            clear hr hdv hpp hpp2 hdm
            go_upto_region 16 with (fail)
            generalize wr.alloc (.cells #[.int .i64 (it : Int), .int .i64 (ct : Int)] 127) = w5 at *
            clear c0 c1
            obtain ⟨qb, hqb⟩ : ∃ qb, wr.heap.size = qb := ⟨_, rfl⟩
            rw [hqb] at X0
            try rw [hqb]
            obtain ⟨x0, x1, x2, x3, x4, x5, x6, x7, x8, x9, x10, x11⟩ := HXa.out.at12
            have hxl := HXa.out.1
            go_upto_if 84 with (fail)
            go_cut [84] (fun u wx => u = .bool (decide (A ≤ r) && decide (pp ≤ m)) ∧ RowG wx og k (frV s A B ix) ∧ PcC wx g s ∧ XB wx w.heap.size [.string k0, .int .i64 3, .int .i64 (A : Nat), .int .i64 (B : Nat), .slice tv tags.length tc, .int .i64 le, .int .i64 (M : Nat), .string gr, .bool al, .int .i64 od, .int .i64 fr, .int .i64 t2] ∧ Below w.heap.size w wx ∧ XB wx qb [.int .i64 (it : Int), .int .i64 (ct : Int)])
            case first =>
              by_cases h1 : A ≤ r
              · have e1 : decide ((A : Int) ≤ (r : Int)) = true := decide_eq_true (by omega)
                by_cases h2 : pp ≤ m
                · have e2 : decide ((pp : Int) ≤ (m : Int)) = true := decide_eq_true (by omega)
                  have HD : Hid ((decide (A ≤ r) && decide (pp ≤ m)) = true) := Lib.hid (by simp [h1, h2])
                  go_wp2_with fail
                  go_quiet (fail)
                  go_wp2_with fail
                  go_meet
                  exact ⟨by rw [HD.out], HRa.out.drewN _, ⟨HPa.out.lt, HPa.out.c0, HPa.out.c1⟩, HXa.out.drewN _, below_drewN HBa.out _, X0.out.drewN _⟩
                · have e2 : decide ((pp : Int) ≤ (m : Int)) = false := decide_eq_false (by omega)
                  have HD : Hid ((decide (A ≤ r) && decide (pp ≤ m)) = false) := Lib.hid (by simp [h1, h2])
                  go_wp2_with fail
                  go_quiet (fail)
                  go_wp2_with fail
                  go_meet
                  exact ⟨by rw [HD.out], HRa.out.drewN _, ⟨HPa.out.lt, HPa.out.c0, HPa.out.c1⟩, HXa.out.drewN _, below_drewN HBa.out _, X0.out.drewN _⟩
              · have e1 : decide ((A : Int) ≤ (r : Int)) = false := decide_eq_false (by omega)
                have HD : Hid ((decide (A ≤ r) && decide (pp ≤ m)) = false) := Lib.hid (by simp [h1])
                go_wp2_with fail
                go_quiet (fail)
                go_wp2_with fail
                go_meet
                exact ⟨by rw [HD.out], HRa.out.drewN _, ⟨HPa.out.lt, HPa.out.c0, HPa.out.c1⟩, HXa.out.drewN _, below_drewN HBa.out _, X0.out.drewN _⟩
            case rest =>
            obtain ⟨rfl, hR6, hP6, hX6, hB6, hY6⟩ := hcut
            clear HXa HPa HRa HBa X0 x0 x1 x2 x3 x4 x5 x6 x7 x8 x9 x10 x11 hxl k1 k2 k3 k4 k5 k6 k7 k8 k9 k10
            have r0 := hR6.cell it hitk
            have r1 := hR6.free it hitk
            unfold frV at r0
            rw [HVV.out] at r0
            have HR6 := Lib.hid hR6
            have HP6 := Lib.hid hP6
            have HX6 := Lib.hid hX6
            have HB6 := Lib.hid hB6
            have HY6 := Lib.hid hY6
            clear hR6 hP6 hX6 hB6 hY6
            cases hsel : (decide (A ≤ r) && decide (pp ≤ m)) with
            | true =>
              rw [hsel] at HSEL
              have HH := Lib.hid (HHIT.out HSEL.out)
              clear hsel
              have b0 := HY6.out.2 0 _ rfl
              have b1 := HY6.out.2 1 _ rfl
              go_upto_region 18 with (fail)
              go_still_tail 8, (by kernel_rfl)
              change wpList _ _ _ _ _ (World.drew _)
              have r2 := (show (World.drew _).cell? ⟨og, it, none⟩ = some (.int .i64 (vv : Int)) from r0)
              have r3 := (show (World.drew _).frozen? ⟨og, it, none⟩ = false from r1)
              have HX7 := Lib.hid HX6.out.drew
              have HP7 := Lib.hid HP6.out.drew
              have HR7 := Lib.hid HR6.out.drew
              have HB7 := Lib.hid HB6.out.drew
              clear r0 r1 b0 b1 HX6 HP6 HR6 HB6 HY6
              generalize World.drew _ = w6 at *
              go_wp2_with fail
              go_roundw
              case rel =>
                refine ⟨ix + 1, by omega, by go_num, ?_, ?_, ?_, ?_⟩
                · exact (HR7.out.set it hitk _).congr (fun i _ => HH.out i)
                · exact HP7.out.far (by show g ≠ og; omega) _
                · exact HX7.out.grown (grown_set (grown_same w6 (some og)) (p := ⟨og, it, none⟩) (.inl rfl) _) (by simp; omega)
                · exact HB7.out.setCell (by show w.heap.size ≤ og; omega) _
              case measure => simp [intOf]; omega
            | false =>
              rw [hsel] at HSEL
              have HH := Lib.hid (HMISS.out HSEL.out)
              clear hsel r0 r1
              go_wp2_with fail
              go_roundw
              case rel => exact ⟨ix + 1, by omega, by go_num, HR6.out.congr (fun i _ => HH.out i), HP6.out, HX6.out, HB6.out⟩
              case measure => simp [intOf]; omega
          · obtain rfl : ix = m := by omega
            have HF := Lib.hid (HFR.out wr og (by rw [HSM.out]; exact HR5.out))
            clear hP HR5
            go_wp2_with fail
            go_ret
            exact ⟨_, rfl, HF.out, HB5.out, by omega⟩
end Go.Proofs.YtdefjnefkdemiaaGreatDoor
