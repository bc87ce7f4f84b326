/- handref1.StepsOf (printed by gen_stepsof.py). -/
import Derived.Test.YtgdagknjnidmiaaGreatDoorSteps
import Derived.Test.YtgdagknjnidmiaaGreatDoorCntOf
import Derived.Test.YtgdagknjnidmiaaGreatDoorSntIdx
import Derived.Test.YtgdagknjnidmiaaGreatDoorSortRw
import Derived.Test.YtgdagknjnidmiaaGreatDoorSentFault
import Derived.Test.YtgdagknjnidmiaaGreatDoorVRange
import Derived.Deep.RegionWith
import Derived.Deep.Cut
import Derived.Deep.DeepCutAuto
import Derived.Deep.QuietTactic
import Derived.BigQuiet
set_option linter.unusedVariables false
namespace Go.Proofs.YtgdagknjnidmiaaGreatDoor
open Go.RowKit Go.Maps

/-- a row of nobody -/
def ZW : Value := .agg #[.string ⟨#[]⟩, .int .i64 0, .int .i64 0, .int .i64 0, .int .i64 0, .int .i64 0]
theorem zero_row (w : World) : (zeroValue 37).run Tryz.prog w = .ok ZW w := by kernel_rfl
theorem zero_row_any {w : World} : (zeroValue 37).run Tryz.prog w = .ok ZW w := zero_row w
theorem eqS_toL (a b : ByteArray) : eqS a b = (a.toList == b.toList) := by
  unfold eqS
  rw [Bool.eq_iff_iff, decide_eq_true_eq, beq_iff_eq]
  simp [Lib.toList_data]
theorem ints_newW {w : World} {zs : List Int} {cs : Array Value} (hc : cs = (zs.map (Value.int .i64)).toArray) : IntsAt (w.alloc (.cells cs 3)) (some ⟨w.heap.size, 0, none⟩) zs := by
  subst hc
  intro j hj
  refine ⟨w.heap.size, 0, rfl, by rw [World.size_alloc]; omega, ?_⟩
  have h := (XB.new w (zs.map (Value.int .i64)) 3).2 j (.int .i64 zs[j]) (by rw [List.getElem?_map, List.getElem?_eq_getElem hj]; rfl)
  rw [Nat.zero_add]
  exact h
def nmW (ks : List ByteArray) (s : ByteArray) : ByteArray := if hasS ks s = true then s else ⟨#[]⟩
/-- what stands at the keys: whole rows -/
def agW (c : Rws) : ByteArray → Value := fun s => .agg #[.string (nmW c.keys s), .int .i64 (c.f s 1 : Int), .int .i64 (c.f s 2 : Int), .int .i64 (c.f s 3 : Int), .int .i64 (c.f s 4 : Int), .int .i64 (c.f s 5 : Int)]
theorem agW_put (c : Rws) (s : ByteArray) (d : Int → Bool) (x : Value) (hx : x = .agg #[.string s, .int .i64 ((c.f s 1 + incN d 1 : Nat) : Int), .int .i64 ((c.f s 2 + incN d 2 : Nat) : Int), .int .i64 ((c.f s 3 + incN d 3 : Nat) : Int), .int .i64 ((c.f s 4 + incN d 4 : Nat) : Int), .int .i64 ((c.f s 5 + incN d 5 : Nat) : Int)]) :
    putV (agW c) s x = agW (rwS c s d) := by
  subst hx
  funext y
  unfold putV agW nmW rwS
  by_cases e : sameS s y = true
  · have := sameS_eq.1 e
    subst this
    rw [if_pos e]
    simp only [hasS_addK, e, Bool.or_true, if_true]
  · have e' : sameS s y = false := by simpa using e
    rw [if_neg e]
    simp [hasS_addK, e']
/-- what was done, an act more -/
theorem did_put (acts : List Ac) (span : Int) (x : Snt) (i : Nat) (h : i < acts.length) (v : Bool) (hv : v = (didB (acts.take i) span x acts[i].kind || (eqS acts[i].sent x.id && decide (acts[i].at_ ≤ x.at_ + span)))) :
    putI (fun k => .bool (didB (acts.take i) span x k)) acts[i].kind (.bool v) = fun k => .bool (didB (acts.take (i + 1)) span x k) := by
  subst hv
  funext k
  unfold putI
  rw [didB_succ _ _ _ _ _ h]
  by_cases e : acts[i].kind = k
  · subst e
    rw [if_pos rfl, decide_eq_true rfl, Bool.true_and]
  · rw [if_neg e, decide_eq_false e, Bool.false_and, Bool.or_false]
theorem few_ofW {α : Type} [DecidableEq α] : ∀ (ks m : List α), ks.Nodup → (∀ s ∈ ks, s ∈ m) → ks.length ≤ m.length
  | [], m, _, _ => Nat.zero_le _
  | x :: ks, m, h, hs => by
    have hx := hs x (by simp)
    rw [List.nodup_cons] at h
    have h2 := few_ofW ks (m.erase x) h.2 (fun s hs' => (List.mem_erase_of_ne (fun (e : s = x) => h.1 (by rw [← e]; exact hs'))).2 (hs s (by simp [hs'])))
    rw [List.length_erase_of_mem hx] at h2
    have : 0 < m.length := List.length_pos_of_mem hx
    rw [List.length_cons]
    omega
/-- no key twice, all in a short list: few keys -/
theorem few_keysW {ks m : List ByteArray} (h : ks.Nodup) (hs : ∀ s ∈ ks, s ∈ m) : ks.length ≤ m.length := by
  have := few_ofW (ks.map fun s => s.data.toList) (m.map fun s => s.data.toList) (by
    rw [List.Nodup, List.pairwise_map]
    exact h.imp fun {a b} h e => h (sameS_eq.1 (decide_eq_true e))) (fun s hs' => by
    obtain ⟨x, hx, rfl⟩ := List.mem_map.1 hs'
    exact List.mem_map.2 ⟨x, hs x hx, rfl⟩)
  simpa using this
/-- what a round keeps -/
structure StS (w0 : World) (bw n1 : Nat) (r0 : Rws) (qx : Nat) (xc : List Value) (qr : Nat) (rc : List Value) (q16 bd n2 : Nat) (ks : List Int) (f : Int → Bool) (w : World) : Prop where
  map : VM w ZW bw n1 r0.keys (agW r0)
  bel : Below w0.heap.size w0 w
  xb : XB w qx xc
  ob : OB w qr rc 37
  did : XB w q16 [.map (some bd)]
  vi : VI w (.bool false) bd n2 ks (fun k => .bool (f k))
  lo : w0.heap.size ≤ bw ∧ bw < qx ∧ qx < qr ∧ qr < bd ∧ bd < q16
section
variable {w0 w w' : World} {bw n1 qx qr q16 bd n2 n2' : Nat} {r0 : Rws} {xc rc rc' : List Value} {ks ks' : List Int} {f f' : Int → Bool}
theorem StS.alloc (h : StS w0 bw n1 r0 qx xc qr rc q16 bd n2 ks f w) (o : Obj) : StS w0 bw n1 r0 qx xc qr rc q16 bd n2 ks f (w.alloc o) :=
  ⟨h.map.alloc o, h.bel.alloc h.bel.size o, h.xb.alloc o, h.ob.alloc o, h.did.alloc o, h.vi.alloc o, h.lo⟩
theorem StS.cnt (h : StS w0 bw n1 r0 qx xc qr rc q16 bd n2 ks f w) (k : w.grownBy w' (some qr)) (ho : OB w' qr rc' 37) : StS w0 bw n1 r0 qx xc qr rc' q16 bd n2 ks f w' := by
  obtain ⟨l1, l2, l3, l4, l5⟩ := h.lo
  exact ⟨h.map.kept k (fun e => by have := Option.some.inj e; omega), h.bel.grown k h.bel.size (fun g hg => by have := Option.some.inj hg; omega), h.xb.grown k (fun e => by have := Option.some.inj e; omega), ho, h.did.grown k (fun e => by have := Option.some.inj e; omega), h.vi.kept k (fun e => by have := Option.some.inj e; omega), h.lo⟩
theorem StS.upd (h : StS w0 bw n1 r0 qx xc qr rc q16 bd n2 ks f w) (k : w.grownBy w' (some bd)) (hv : VI w' (.bool false) bd n2' ks' (fun k => .bool (f' k))) : StS w0 bw n1 r0 qx xc qr rc q16 bd n2' ks' f' w' := by
  obtain ⟨l1, l2, l3, l4, l5⟩ := h.lo
  exact ⟨h.map.kept k (fun e => by have := Option.some.inj e; omega), h.bel.grown k h.bel.size (fun g hg => by have := Option.some.inj hg; omega), h.xb.grown k (fun e => by have := Option.some.inj e; omega), h.ob.grown k (fun e => by have := Option.some.inj e; omega), h.did.grown k (fun e => by have := Option.some.inj e; omega), hv, h.lo⟩
end

set_option maxRecDepth 100000 in
set_option maxHeartbeats 16000000 in
theorem StepsOf_any (a : Option Addr) (l : List Snt) (nl cl : Nat) (ac : Option Addr) (acts : List Ac) (na ca : Nat) (span : Int) (w : World) (hn : l.length = nl) (hn1 : nl ≤ 1000) (hcl : nl ≤ cl) (hcl' : cl ≤ maxLen) (hI : RAt w a 4 Snt.cells l) (hok : ∀ x ∈ l, x.ok)
    (hlets : (rws l acts span l.length).keys.length ≤ 12)
    (hm : acts.length = na) (hm1 : na ≤ 1000) (hJ : RAt w ac 3 Ac.cells acts) (hoka : ∀ x ∈ acts, x.ok) :
    Calls Tryz.prog 9 #[.slice a nl cl, .slice ac na ca, .int .i64 span] w fun e w' => ∃ v, e = .returned (.tuple #[v, .int .i64 (stE l acts span)]) ∧ RwIs w' v (stL l acts span) ∧ Below w.heap.size w w' := by
  obtain ⟨i0, hi, hz0, hz1, hz2⟩ := info_parts infoRw
  have hmm := @run_makeMap Tryz.prog
  have HI := Lib.hid hI
  have HJ := Lib.hid hJ
  have HN := Lib.hid hn
  have HM := Lib.hid hm
  have HOK := Lib.hid hok
  have HOA := Lib.hid hoka
  have HLT := Lib.hid hlets
  have HE : Hid (stE l acts span = if sentE l ≠ 0 then sentE l else if acsE l acts ≠ 0 then acsE l acts else if span < 0 ∨ 4321440 < span then 1 else 0) := Lib.hid rfl
  have HAL : Hid (stL l acts span = if stE l acts span = 0 then rwL (rws l acts span l.length) else []) := Lib.hid rfl
  have C1 := Lib.hid (SentFault_any a l nl cl w hn hn1 hcl hcl' hI hok)
  have CIX := Lib.hid (fun q id w' (hb : Below w.heap.size w w') hq => stOfIdx_any a l nl cl q id w' hn hn1 (hI.below hb) hq)
  obtain ⟨E, hE⟩ : ∃ z, stE l acts span = z := ⟨_, rfl⟩
  obtain ⟨LL, hLL⟩ : ∃ z, stL l acts span = z := ⟨_, rfl⟩
  rw [hE] at HE HAL
  rw [hLL] at HAL
  rw [hE, hLL]
  obtain ⟨SE, hSE⟩ : ∃ z, sentE l = z := ⟨_, rfl⟩
  have HSE := Lib.hid hSE
  rw [hSE] at HE C1
  clear hn hI hok hm hJ hoka hE hLL hSE hcl hcl' hlets
  have FAIL : Hid (E ≠ 0 → LL = []) := Lib.hid (fun h => HAL.out.trans (if_neg h))
  go_enter Tryz.func9, Tryz.ntmps9
  go_wp2_with fail
  with_reducible refine C1.out.mono ?_
  rintro e w1 ⟨rfl, b1⟩
  have HB1 := Lib.hid b1
  clear b1 C1
  by_cases h1 : SE = 0
  · subst h1
    have HE2 : Hid (E = if acsE l acts ≠ 0 then acsE l acts else if span < 0 ∨ 4321440 < span then 1 else 0) := Lib.hid (by have h := HE.out; rw [if_neg (by simp)] at h; exact h)
    obtain ⟨AE, hAE⟩ : ∃ z, acsE l acts = z := ⟨_, rfl⟩
    rw [hAE] at HE2
    have HAE := Lib.hid hAE.symm
    clear hAE HE
    go_wp2_with fail
    go_loopw [10, 11, 33] (fun _ _ i wx => ∃ (k : Nat), k ≤ na ∧ i = .int .i64 k ∧ Hid (AE = acsE l (acts.drop k)) ∧ Below w.heap.size w wx) (fun _ _ i _ => na - (intOf i).toNat)
    case atStart => exact ⟨0, Nat.zero_le _, rfl, HAE, HB1.out⟩
    case round =>
      obtain ⟨k, hk2, rfl, hAE, hB⟩ := hrel
      have HB := Lib.hid hB
      clear HB1 hB
      by_cases hlt2 : k < na
      · --@r2
        have hkl : k < acts.length := by have := HM.out; omega
        obtain ⟨p, off, hap, hp, c0, c1, c2⟩ := rat3 (HJ.out.below HB.out) hkl (v0 := .string acts[k].sent) (v1 := .int .i64 acts[k].kind) (v2 := .int .i64 acts[k].at_) rfl
        subst hap
        obtain ⟨o1, o2, o3, o4, o5⟩ := HOA.out acts[k] (List.getElem_mem hkl)
        have HA := Lib.hid (hAE.out.trans (acsE_drop l acts k hkl))
        generalize acts[k] = x at *
        obtain ⟨aid, ak, aat⟩ := x
        simp only at c0 c1 c2 o1
        have HBx := Lib.hid (HB.out.alloc HB.out.size (.cells #[.string aid, .int .i64 ak, .int .i64 aat] 65))
        have HX := Lib.hid (XB.new wr [.string aid, .int .i64 ak, .int .i64 aat] 65)
        simp only [List.toArray] at HX
        go_upto_region 9 with (fail)
        generalize wr.alloc (.cells #[.string aid, .int .i64 ak, .int .i64 aat] 65) = wa at *
        generalize wr.heap.size = q at *
        clear c0 c1 c2 HB hAE
        have CI := Lib.hid (CIX.out q aid wa HBx.out (HX.out.2 0 _ rfl))
        have HIB := Lib.hid (idxG_bd (sIds l) aid)
        have HSL := Lib.hid (show (sIds l).length = l.length from List.length_map ..)
        rw [show (l.map Snt.id) = sIds l from rfl] at CI
        have C3 := Lib.hid (fun w => moment_any aat w)
        go_wp2_with fail
        with_reducible refine CI.out.mono ?_
        rintro e wb ⟨rfl, bb⟩
        have HBb := Lib.hid (HBx.out.trans (bb.mono HBx.out.size))
        have HXb := Lib.hid (HX.out.below bb)
        clear bb CI HBx HX
        have x1 := HXb.out.2 1 _ rfl
        have x2 := HXb.out.2 2 _ rfl
        have hxl := HXb.out.1
        by_cases hx : idxG (sIds l) aid < 0
        · have hAV : acE l ⟨aid, ak, aat⟩ = 8 := if_pos hx
          rw [hAV, if_neg (by decide)] at HA
          obtain rfl : E = 8 := by have h := HE2.out; rw [HA.out, if_pos (by decide)] at h; exact h
          obtain rfl := FAIL.out (by decide)
          obtain ⟨ix, hix⟩ : ∃ z, idxG (sIds l) aid = z := ⟨_, rfl⟩
          rw [hix] at hx ⊢
          clear hix
          go_wp2_with fail
          refine bodyPost_ret (v := .tuple #[.slice none 0 0, .int .i64 8]) (by simp [results, Tryz.results9, go_sem]) rfl ?_
          exact ⟨_, rfl, RwIs.nil _, HBb.out⟩
        · obtain ⟨j, hj9⟩ : ∃ j : Nat, idxG (sIds l) aid = (j : Int) := ⟨(idxG (sIds l) aid).toNat, by omega⟩
          have hjl : j < l.length := by have h := HIB.out; rw [HSL.out] at h; omega
          have hjn : j < nl := by have := HN.out; omega
          have hAV : acE l ⟨aid, ak, aat⟩ = if kndB ak = false then 4 else if momB aat = false then 1 else if aat < l[j].at_ then 7 else 0 := by
            unfold acE
            show (if idxG (sIds l) aid < 0 then (8 : Int) else _) = _
            rw [if_neg hx, hj9, sAt_get hjl]
          rw [hAV] at HA
          rw [hj9] at hx ⊢
          clear hAV HIB HSL hj9
          obtain ⟨p2, off2, hap2, hp2, d0, d1, d2, d3⟩ := (HI.out.below HBb.out).at4 hjl (v0 := .string l[j].id) (v1 := .string l[j].person) (v2 := .string l[j].letter) (v3 := .int .i64 l[j].at_) rfl
          subst hap2
          generalize l[j] = y at *
          obtain ⟨yid, yp, yl, yat⟩ := y
          simp only at d0 d1 d2 d3 HA
          clear d0 d1 d2
          have hj0 : (0 : Int) ≤ (j : Int) := by omega
          have hj1 : (j : Int) < (nl : Int) := by omega
          have H2 := Lib.hid (show kndB ak = decide (1 ≤ ak ∧ ak ≤ 4) from rfl)
          generalize kndB ak = b2 at *
          obtain ⟨mb, hmb⟩ : ∃ z, momB aat = z := ⟨_, rfl⟩
          rw [hmb] at HA C3
          clear hmb
          by_cases hkk : ak < 1 ∨ 4 < ak
          · obtain rfl : b2 = false := H2.out.trans (decide_eq_false (by omega))
            rw [if_pos rfl, if_neg (by decide)] at HA
            obtain rfl : E = 4 := by have h := HE2.out; rw [HA.out, if_pos (by decide)] at h; exact h
            obtain rfl := FAIL.out (by decide)
            rcases hkk with hkk | hkk
            · go_wp2_with fail
              refine bodyPost_ret (v := .tuple #[.slice none 0 0, .int .i64 4]) (by simp [results, Tryz.results9, go_sem]) rfl ?_
              exact ⟨_, rfl, RwIs.nil _, HBb.out⟩
            · have hk9 : ¬ ak < 1 := by omega
              go_wp2_with fail
              refine bodyPost_ret (v := .tuple #[.slice none 0 0, .int .i64 4]) (by simp [results, Tryz.results9, go_sem]) rfl ?_
              exact ⟨_, rfl, RwIs.nil _, HBb.out⟩
          · obtain ⟨hka, hkb⟩ : ¬ ak < 1 ∧ ¬ 4 < ak := by omega
            clear hkk
            obtain rfl : b2 = true := H2.out.trans (decide_eq_true (by omega))
            rw [if_neg (by decide : ¬ (true = false))] at HA
            go_wp2_with fail
            with_reducible refine (C3.out _).mono ?_
            rintro e w4 ⟨rfl, rfl⟩
            cases mb with
            | false =>
              rw [if_pos rfl, if_neg (by decide)] at HA
              obtain rfl : E = 1 := by have h := HE2.out; rw [HA.out, if_pos (by decide)] at h; exact h
              obtain rfl := FAIL.out (by decide)
              go_wp2_with fail
              refine bodyPost_ret (v := .tuple #[.slice none 0 0, .int .i64 1]) (by simp [results, Tryz.results9, go_sem]) rfl ?_
              exact ⟨_, rfl, RwIs.nil _, HBb.out⟩
            | true =>
              rw [if_neg (by decide : ¬ (true = false))] at HA
              by_cases hay : aat < yat
              · rw [if_pos hay, if_neg (by decide)] at HA
                obtain rfl : E = 7 := by have h := HE2.out; rw [HA.out, if_pos (by decide)] at h; exact h
                obtain rfl := FAIL.out (by decide)
                go_wp2_with fail
                go_quiet (fail)
                go_wp2_with fail
                refine bodyPost_ret (v := .tuple #[.slice none 0 0, .int .i64 7]) (by simp [results, Tryz.results9, go_sem]) rfl ?_
                exact ⟨_, rfl, RwIs.nil _, below_drewN HBb.out _⟩
              · rw [if_neg hay, if_pos rfl] at HA
                clear C3 CIX
                go_wp2_with fail
                go_quiet (fail)
                go_wp2_with fail
                go_roundw
                case rel => exact ⟨k + 1, by omega, by go_num, HA, below_drewN HBb.out _⟩
                case measure => simp [intOf]; omega
        --@end
      · --@r3
        have hA0 : AE = 0 := by rw [hAE.out, List.drop_eq_nil_of_le (by rw [HM.out]; omega)]; rfl
        subst hA0
        have HAE0 : Hid (acsE l acts = 0) := Lib.hid HAE.out.symm
        have HE3 : Hid (E = if span < 0 ∨ 4321440 < span then 1 else 0) := Lib.hid (by have h := HE2.out; rw [if_neg (by simp)] at h; exact h)
        clear HE2 hAE HAE CIX
        by_cases hs0 : span < 0
        · obtain rfl : E = 1 := HE3.out.trans (if_pos (by omega))
          obtain rfl := FAIL.out (by decide)
          go_wp2_with fail
          refine bodyPost_ret (v := .tuple #[.slice none 0 0, .int .i64 1]) (by simp [results, Tryz.results9, go_sem]) rfl ?_
          exact ⟨_, rfl, RwIs.nil _, HB.out⟩
        · by_cases hs1 : 4321440 < span
          · obtain rfl : E = 1 := HE3.out.trans (if_pos (by omega))
            obtain rfl := FAIL.out (by decide)
            go_wp2_with fail
            refine bodyPost_ret (v := .tuple #[.slice none 0 0, .int .i64 1]) (by simp [results, Tryz.results9, go_sem]) rfl ?_
            exact ⟨_, rfl, RwIs.nil _, HB.out⟩
          · obtain rfl : E = 0 := HE3.out.trans (if_neg (by omega))
            have HLL : Hid (LL = rwL (rws l acts span nl)) := Lib.hid (by have h := HAL.out; rw [if_pos rfl, HN.out] at h; exact h)
            rw [HN.out] at HLT
            clear HE3 HAL FAIL
            have HGD := Lib.hid (acsE_good HAE0.out)
            have HMOM := Lib.hid (sentE_mom HSE.out)
            have HV0 := Lib.hid (VM.made wr ZW)
            have HB2 := Lib.hid (HB.out.alloc HB.out.size (.map #[] 0))
            obtain ⟨bw, hbw⟩ : ∃ z, wr.heap.size = z := ⟨_, rfl⟩
            rw [hbw] at HV0
            have hwb : w.heap.size ≤ bw := by rw [← hbw]; exact HB.out.size
            have HV1 : Hid (VM (wr.alloc (.map #[] 0)) ZW bw 0 (rws l acts span 0).keys (agW (rws l acts span 0))) := Lib.hid HV0.out
            clear HB HV0 HAE0
            go_upto_region 22 with (fail)
            generalize wr.alloc (.map #[] 0) = wm at *
            try rw [hbw]
            clear hbw
            go_wp2_with fail
            go_loopw [14, 15, 16, 19, 76] (fun _ _ _ _ i wx => ∃ (k n1 : Nat), k ≤ nl ∧ i = .int .i64 k ∧ n1 ≤ k ∧ VM wx ZW bw n1 (rws l acts span k).keys (agW (rws l acts span k)) ∧ Below w.heap.size w wx) (fun _ _ _ _ i _ => nl - (intOf i).toNat)
            case atStart => exact ⟨0, 0, Nat.zero_le _, rfl, Nat.le_refl _, HV1.out, HB2.out⟩
            case round =>
              obtain ⟨k, n1, hk4, rfl, hn1', hV, hB⟩ := hrel
              have HV := Lib.hid hV
              have HB := Lib.hid hB
              clear HV1 HB2 hV hB
              by_cases hlt4 : k < nl
              · --@r4
                have hkl : k < l.length := by have := HN.out; omega
                obtain ⟨p, off, hap, hp, c0, c1, c2, c3⟩ := (HI.out.below HB.out).at4 hkl (v0 := .string l[k].id) (v1 := .string l[k].person) (v2 := .string l[k].letter) (v3 := .int .i64 l[k].at_) rfl
                subst hap
                obtain ⟨o1, o2, o3, o4, o5⟩ := HOK.out l[k] (List.getElem_mem hkl)
                obtain ⟨hm0, hm9⟩ := HMOM.out l[k] (List.getElem_mem hkl)
                have HRS := Lib.hid (rws_succ l acts span k hkl)
                have HBD := Lib.hid (fun s j => rws_bd l acts span k s j)
                have HDP := Lib.hid (fun i h v hv => did_put acts span (l[k]'hkl) i h v hv)
                have hDN : didB (acts.take na) span l[k] = didB acts span l[k] := by rw [← HM.out, List.take_length]
                have hD0 : ∀ z, didB (acts.take 0) span l[k] z = false := fun _ => rfl
                obtain ⟨D, hD⟩ : ∃ D : Nat → Int → Bool, ∀ i, didB (acts.take i) span l[k] = D i := ⟨fun i => didB (acts.take i) span l[k], fun _ => rfl⟩
                rw [← hDN, hD] at HRS
                simp only [hD] at HDP hD0
                have HD0 := Lib.hid hD0
                clear hD hDN hD0
                generalize l[k] = x at *
                obtain ⟨sid, sp, s, sat⟩ := x
                simp only at c0 c1 c2 c3 o1 o3 hm0 hm9 HRS HDP
                obtain ⟨r0, hr0⟩ : ∃ z, rws l acts span k = z := ⟨_, rfl⟩
                rw [hr0] at HV HRS HBD
                clear hr0 o2 o4 o5
                have HBx := Lib.hid (HB.out.alloc HB.out.size (.cells #[.string sid, .string sp, .string s, .int .i64 sat] 62))
                have HVx := Lib.hid (HV.out.alloc (.cells #[.string sid, .string sp, .string s, .int .i64 sat] 62))
                have HX := Lib.hid (XB.new wr [.string sid, .string sp, .string s, .int .i64 sat] 62)
                simp only [List.toArray] at HX
                have hbq := HV.out.lt
                go_upto_region 25 with (fail)
                generalize wr.alloc (.cells #[.string sid, .string sp, .string s, .int .i64 sat] 62) = wa at *
                generalize wr.heap.size = qx at *
                clear c0 c1 c2 c3 HV HB
                have x2 := HX.out.2 2 _ rfl
                have hxl := HX.out.1
                have hsm : s.size ≤ maxLen := by unfold maxLen; omega
                have hnm1 : n1 < maxLen := by unfold maxLen; omega
                have hlk := HVx.out.look Tryz.underlying82 zero_row_any s hsm
                obtain ⟨nm, hnm⟩ : ∃ z, nmW r0.keys s = z := ⟨_, rfl⟩
                obtain ⟨f1, hf1⟩ : ∃ z, r0.f s 1 = z := ⟨_, rfl⟩
                obtain ⟨f2, hf2⟩ : ∃ z, r0.f s 2 = z := ⟨_, rfl⟩
                obtain ⟨f3, hf3⟩ : ∃ z, r0.f s 3 = z := ⟨_, rfl⟩
                obtain ⟨f4, hf4⟩ : ∃ z, r0.f s 4 = z := ⟨_, rfl⟩
                obtain ⟨f5, hf5⟩ : ∃ z, r0.f s 5 = z := ⟨_, rfl⟩
                have hbd : f1 ≤ 1000 ∧ f2 ≤ 1000 ∧ f3 ≤ 1000 ∧ f4 ≤ 1000 ∧ f5 ≤ 1000 := by
                  have b1 := HBD.out s 1; have b2 := HBD.out s 2; have b3 := HBD.out s 3; have b4 := HBD.out s 4; have b5 := HBD.out s 5
                  omega
                have hag : agW r0 s = .agg #[.string nm, .int .i64 (f1 : Int), .int .i64 (f2 : Int), .int .i64 (f3 : Int), .int .i64 (f4 : Int), .int .i64 (f5 : Int)] := by unfold agW; rw [hnm, hf1, hf2, hf3, hf4, hf5]
                rw [hag] at hlk
                have HF := Lib.hid (show r0.f s 1 = f1 ∧ r0.f s 2 = f2 ∧ r0.f s 3 = f3 ∧ r0.f s 4 = f4 ∧ r0.f s 5 = f5 from ⟨hf1, hf2, hf3, hf4, hf5⟩)
                clear hnm hf1 hf2 hf3 hf4 hf5 hag HBD
                have HBb := Lib.hid (HBx.out.alloc HBx.out.size (.cells #[.string nm, .int .i64 (f1 : Int), .int .i64 (f2 : Int), .int .i64 (f3 : Int), .int .i64 (f4 : Int), .int .i64 (f5 : Int)] 37))
                have HVb := Lib.hid (HVx.out.alloc (.cells #[.string nm, .int .i64 (f1 : Int), .int .i64 (f2 : Int), .int .i64 (f3 : Int), .int .i64 (f4 : Int), .int .i64 (f5 : Int)] 37))
                have HXb := Lib.hid (HX.out.alloc (.cells #[.string nm, .int .i64 (f1 : Int), .int .i64 (f2 : Int), .int .i64 (f3 : Int), .int .i64 (f4 : Int), .int .i64 (f5 : Int)] 37))
                have HOb := Lib.hid (OB.new wa [.string nm, .int .i64 (f1 : Int), .int .i64 (f2 : Int), .int .i64 (f3 : Int), .int .i64 (f4 : Int), .int .i64 (f5 : Int)] 37)
                simp only [List.toArray] at HOb
                go_upto_region 26 with (fail)
                generalize wa.alloc (.cells #[.string nm, .int .i64 (f1 : Int), .int .i64 (f2 : Int), .int .i64 (f3 : Int), .int .i64 (f4 : Int), .int .i64 (f5 : Int)] 37) = wb at *
                generalize wa.heap.size = qr at *
                have hxqr : qx < qr := hxl
                clear hlk x2 HBx HVx HX
                have x2 := HXb.out.2 2 _ rfl
                have hxl2 := HXb.out.1
                have r0' := HOb.out.cell 0 _ rfl
                have r1' := HOb.out.cell 1 _ rfl
                have rf0 := HOb.out.free 0
                have rf1 := HOb.out.free 1
                have hol := HOb.out.lt
                have hw1 : IntKind.i64.wrap ((f1 : Int) + 1) = (f1 : Int) + 1 := by rw [IntKind.wrap_i64]; omega
                have G : wb.grownBy ((wb.setCell ⟨qr, 0, none⟩ (.string s)).setCell ⟨qr, 1, none⟩ (.int .i64 ((f1 : Int) + 1))) (some qr) := grown_set (p := ⟨qr, 1, none⟩) (grown_set (p := ⟨qr, 0, none⟩) (grownW_same wb _) (.inl rfl) _) (.inl rfl) _
                have HOc := Lib.hid ((HOb.out.put (cs' := [.string s, .int .i64 (f1 : Int), .int .i64 (f2 : Int), .int .i64 (f3 : Int), .int .i64 (f4 : Int), .int .i64 (f5 : Int)]) 0 (.string s) rfl).put (cs' := [.string s, .int .i64 ((f1 : Int) + 1), .int .i64 (f2 : Int), .int .i64 (f3 : Int), .int .i64 (f4 : Int), .int .i64 (f5 : Int)]) 1 (.int .i64 ((f1 : Int) + 1)) rfl)
                have HVc := Lib.hid (HVb.out.kept G (fun e => by have := Option.some.inj e; omega))
                have HBc := Lib.hid (HBb.out.grown G HBb.out.size (fun g hg => by have := Option.some.inj hg; omega))
                have HXc := Lib.hid (HXb.out.grown G (fun e => by have := Option.some.inj e; omega))
                clear G
                go_upto_region 27 with (fail)
                generalize ((wb.setCell ⟨qr, 0, none⟩ (.string s)).setCell ⟨qr, 1, none⟩ (.int .i64 ((f1 : Int) + 1))) = wc at *
                clear x2 hxl hxl2 r0' r1' rf0 rf1 HOb HVb HBb HXb hol
                have hoc := HOc.out.lt
                have HV2 := Lib.hid (VI.made wc (.bool false))
                have HMA := Lib.hid (HVc.out.alloc (.map #[] 0))
                have HBA := Lib.hid (HBc.out.alloc HBc.out.size (.map #[] 0))
                have HXA := Lib.hid (HXc.out.alloc (.map #[] 0))
                have HOA2 := Lib.hid (HOc.out.alloc (.map #[] 0))
                obtain ⟨bd, hbd2⟩ : ∃ z, wc.heap.size = z := ⟨_, rfl⟩
                rw [hbd2] at HV2 hoc
                have hz3 : (wc.alloc (.map #[] 0)).heap.size = bd + 1 := by rw [World.size_alloc, hbd2]
                have HX3 : ∀ t, XB ((wc.alloc (.map #[] 0)).alloc (.cells #[.map (some bd)] t)) (bd + 1) [.map (some bd)] := fun t => by
                  have h := XB.new (wc.alloc (.map #[] 0)) [.map (some bd)] t
                  rw [hz3] at h
                  exact h
                have HST : Hid (∀ t, StS w bw n1 r0 qx [.string sid, .string sp, .string s, .int .i64 sat] qr [.string s, .int .i64 ((f1 : Int) + 1), .int .i64 (f2 : Int), .int .i64 (f3 : Int), .int .i64 (f4 : Int), .int .i64 (f5 : Int)] (bd + 1) bd 0 [] (D 0) ((wc.alloc (.map #[] 0)).alloc (.cells #[.map (some bd)] t))) := Lib.hid (fun t => ⟨HMA.out.alloc _, HBA.out.alloc HBA.out.size _, HXA.out.alloc _, HOA2.out.alloc _, HX3 t, by
                  have e : (fun k => Value.bool (D 0 k)) = fun _ => .bool false := funext fun z => by rw [HD0.out z]
                  rw [e]
                  exact HV2.out.alloc _, by omega⟩)
                clear HV2 HMA HBA HXA HOA2 HX3 HOc HVc HBc HXc
                go_upto_region 28 with (fail)
                have HS0 := Lib.hid (HST.out 83)
                generalize ((wc.alloc (.map #[] 0)).alloc (.cells #[.map (some bd)] 83)) = wd at *
                try rw [hbd2]
                clear HST hbd2 hz3 HD0
                go_wp2_with fail
                go_loopw [18, 94] (fun _ i wx => ∃ (j n2 : Nat) (ks : List Int), j ≤ na ∧ i = .int .i64 j ∧ n2 ≤ j ∧ StS w bw n1 r0 qx [.string sid, .string sp, .string s, .int .i64 sat] qr [.string s, .int .i64 ((f1 : Int) + 1), .int .i64 (f2 : Int), .int .i64 (f3 : Int), .int .i64 (f4 : Int), .int .i64 (f5 : Int)] (bd + 1) bd n2 ks (D j) wx) (fun _ i _ => na - (intOf i).toNat)
                case atStart => exact ⟨0, 0, [], Nat.zero_le _, rfl, Nat.le_refl _, HS0.out⟩
                case round =>
                  obtain ⟨j, n2, ks, hj4, rfl, hn2', hS⟩ := hrel
                  have HS := Lib.hid hS
                  clear HS0 hS
                  by_cases hlt5 : j < na
                  · have hjl : j < acts.length := by have := HM.out; omega
                    obtain ⟨p2, off2, hap, hp2, c0, c1, c2⟩ := rat3 (HJ.out.below HS.out.bel) hjl (v0 := .string acts[j].sent) (v1 := .int .i64 acts[j].kind) (v2 := .int .i64 acts[j].at_) rfl
                    subst hap
                    obtain ⟨o1', o2', o3', o4', o5'⟩ := HOA.out acts[j] (List.getElem_mem hjl)
                    have HP := Lib.hid (fun v hv => HDP.out j hjl v hv)
                    generalize acts[j] = y at *
                    obtain ⟨aid, ak, aat⟩ := y
                    simp only at c0 c1 c2 o1' o2' o3' HP
                    have HSa := Lib.hid (HS.out.alloc (.cells #[.string aid, .int .i64 ak, .int .i64 aat] 65))
                    have HXa := Lib.hid (XB.new wr [.string aid, .int .i64 ak, .int .i64 aat] 65)
                    simp only [List.toArray] at HXa
                    go_upto_region 31 with (fail)
                    generalize wr.alloc (.cells #[.string aid, .int .i64 ak, .int .i64 aat] 65) = we at *
                    generalize wr.heap.size = qa at *
                    clear c0 c1 c2 HS
                    obtain ⟨a0, a1, a2⟩ : we.cell? ⟨qa, 0, none⟩ = some (.string aid) ∧ we.cell? ⟨qa, 1, none⟩ = some (.int .i64 ak) ∧ we.cell? ⟨qa, 2, none⟩ = some (.int .i64 aat) := ⟨HXa.out.2 0 _ rfl, HXa.out.2 1 _ rfl, HXa.out.2 2 _ rfl⟩
                    have hal := HXa.out.1
                    obtain ⟨x0, x3⟩ : we.cell? ⟨qx, 0, none⟩ = some (.string sid) ∧ we.cell? ⟨qx, 3, none⟩ = some (.int .i64 sat) := ⟨HSa.out.xb.2 0 _ rfl, HSa.out.xb.2 3 _ rfl⟩
                    have hxl := HSa.out.xb.1
                    have m0 : we.cell? ⟨bd + 1, 0, none⟩ = some (.map (some bd)) := HSa.out.did.2 0 _ rfl
                    have hml := HSa.out.did.1
                    have hws : IntKind.i64.wrap (sat + span) = sat + span := by rw [IntKind.wrap_i64]; omega
                    have hlk := HSa.out.vi.look Tryz.underlying83 (zero_boolW _) ak (by omega) (by omega)
                    have hn2m : n2 < maxLen := by unfold maxLen; omega
                    have hk0 : -9223372036854775808 ≤ ak := by omega
                    have hk1 : ak ≤ 9223372036854775807 := by omega
                    have HEQ := Lib.hid (eqS_toL aid sid)
                    obtain ⟨ob, hob⟩ : ∃ z, D j ak = z := ⟨_, rfl⟩
                    have HOV := Lib.hid hob
                    simp only [hob] at hlk
                    clear hob
                    cases ob with
                    | true =>
                      go_wp2_with (first | (at_mapUpdate; refine wpList_update_vi _ rfl _ _ _ 83 4 rfl Tryz.underlying83 (.bool false) bd n2 ks (fun k => .bool (D j k)) rfl HSa.out.vi hn2m ak (.bool true) rfl rfl hk0 hk1 ?_))
                      intro w9 hv9 g9
                      rw [HP.out true (by rw [HOV.out]; rfl)] at hv9
                      have HS9 := Lib.hid (HSa.out.upd (f' := D (j + 1)) g9 hv9)
                      clear hv9 g9 HSa HXa a0 a1 a2 hal x0 x3 hxl m0 hml hlk HP HEQ HOV
                      go_wp2_with fail
                      go_roundw
                      case rel => exact ⟨j + 1, n2 + 1, _, by omega, by go_num, by omega, HS9.out⟩
                      case measure => simp [intOf]; omega
                    | false =>
                      by_cases he : (aid.toList == sid.toList) = true
                      · by_cases hle : aat ≤ sat + span
                        · go_wp2_with (first | (at_mapUpdate; refine wpList_update_vi _ rfl _ _ _ 83 4 rfl Tryz.underlying83 (.bool false) bd n2 ks (fun k => .bool (D j k)) rfl HSa.out.vi hn2m ak (.bool true) rfl rfl hk0 hk1 ?_))
                          intro w9 hv9 g9
                          rw [HP.out true (by rw [HOV.out, HEQ.out, he, decide_eq_true hle]; rfl)] at hv9
                          have HS9 := Lib.hid (HSa.out.upd (f' := D (j + 1)) g9 hv9)
                          clear hv9 g9 HSa HXa a0 a1 a2 hal x0 x3 hxl m0 hml hlk HP HEQ HOV
                          go_wp2_with fail
                          go_roundw
                          case rel => exact ⟨j + 1, n2 + 1, _, by omega, by go_num, by omega, HS9.out⟩
                          case measure => simp [intOf]; omega
                        · go_wp2_with (first | (at_mapUpdate; refine wpList_update_vi _ rfl _ _ _ 83 4 rfl Tryz.underlying83 (.bool false) bd n2 ks (fun k => .bool (D j k)) rfl HSa.out.vi hn2m ak (.bool false) rfl rfl hk0 hk1 ?_))
                          intro w9 hv9 g9
                          rw [HP.out false (by rw [HOV.out, HEQ.out, he, decide_eq_false (show ¬ aat ≤ sat + span from by omega)]; rfl)] at hv9
                          have HS9 := Lib.hid (HSa.out.upd (f' := D (j + 1)) g9 hv9)
                          clear hv9 g9 HSa HXa a0 a1 a2 hal x0 x3 hxl m0 hml hlk HP HEQ HOV
                          go_wp2_with fail
                          go_roundw
                          case rel => exact ⟨j + 1, n2 + 1, _, by omega, by go_num, by omega, HS9.out⟩
                          case measure => simp [intOf]; omega
                      · have he' : (aid.toList == sid.toList) = false := by simpa using he
                        go_wp2_with (first | (at_mapUpdate; refine wpList_update_vi _ rfl _ _ _ 83 4 rfl Tryz.underlying83 (.bool false) bd n2 ks (fun k => .bool (D j k)) rfl HSa.out.vi hn2m ak (.bool false) rfl rfl hk0 hk1 ?_))
                        intro w9 hv9 g9
                        rw [HP.out false (by rw [HOV.out, HEQ.out, he']; rfl)] at hv9
                        have HS9 := Lib.hid (HSa.out.upd (f' := D (j + 1)) g9 hv9)
                        clear hv9 g9 HSa HXa a0 a1 a2 hal x0 x3 hxl m0 hml hlk HP HEQ HOV
                        go_wp2_with fail
                        go_roundw
                        case rel => exact ⟨j + 1, n2 + 1, _, by omega, by go_num, by omega, HS9.out⟩
                        case measure => simp [intOf]; omega
                  · --@cn
                    obtain rfl : na = j := by omega
                    obtain ⟨d, hd⟩ : ∃ z, D na = z := ⟨_, rfl⟩
                    rw [hd] at HS HRS
                    clear HDP hd
                    have m0 : wr.cell? ⟨bd + 1, 0, none⟩ = some (.map (some bd)) := HS.out.did.2 0 _ rfl
                    go_upto_region 34 with (fail)
                    have HSc := Lib.hid (HS.out.alloc (.cells #[.int .i64 1, .int .i64 2, .int .i64 3] 3))
                    have CC := Lib.hid (stCount_any qr 2 f2 _ (some ⟨wr.heap.size, 0, none⟩) [1, 2, 3] 3 3 (bd + 1) bd n2 ks d (wr.alloc (.cells #[.int .i64 1, .int .i64 2, .int .i64 3] 3)) HSc.out.ob rfl (by omega) rfl (by omega) (ints_newW (zs := [1, 2, 3]) rfl) (by decide) (HSc.out.did.2 0 _ rfl) HSc.out.vi)
                    go_wp2_with fail
                    with_reducible refine CC.out.mono ?_
                    rintro e wz ⟨rfl, ho, gr⟩
                    rw [show (if ([1, 2, 3] : List Int).any d = true then 1 else 0) = incN d 2 by unfold incN incB; simp] at ho
                    have HSd : Hid (StS w bw n1 r0 qx [.string sid, .string sp, .string s, .int .i64 sat] qr [.string s, .int .i64 ((f1 : Int) + 1), .int .i64 ((f2 + incN d 2 : Nat) : Int), .int .i64 (f3 : Int), .int .i64 (f4 : Int), .int .i64 (f5 : Int)] (bd + 1) bd n2 ks d wz) := Lib.hid (HSc.out.cnt gr ho)
                    clear HS HSc CC ho gr
                    have HS := Lib.hid HSd.out
                    clear HSd
                    go_upto_region 35 with (fail)
                    have HSc := Lib.hid (HS.out.alloc (.cells #[.int .i64 2, .int .i64 3] 3))
                    have CC := Lib.hid (stCount_any qr 3 f3 _ (some ⟨wz.heap.size, 0, none⟩) [2, 3] 2 2 (bd + 1) bd n2 ks d (wz.alloc (.cells #[.int .i64 2, .int .i64 3] 3)) HSc.out.ob rfl (by omega) rfl (by omega) (ints_newW (zs := [2, 3]) rfl) (by decide) (HSc.out.did.2 0 _ rfl) HSc.out.vi)
                    go_wp2_with fail
                    with_reducible refine CC.out.mono ?_
                    rintro e wz ⟨rfl, ho, gr⟩
                    rw [show (if ([2, 3] : List Int).any d = true then 1 else 0) = incN d 3 by unfold incN incB; simp] at ho
                    have HSd : Hid (StS w bw n1 r0 qx [.string sid, .string sp, .string s, .int .i64 sat] qr [.string s, .int .i64 ((f1 : Int) + 1), .int .i64 ((f2 + incN d 2 : Nat) : Int), .int .i64 ((f3 + incN d 3 : Nat) : Int), .int .i64 (f4 : Int), .int .i64 (f5 : Int)] (bd + 1) bd n2 ks d wz) := Lib.hid (HSc.out.cnt gr ho)
                    clear HS HSc CC ho gr
                    have HS := Lib.hid HSd.out
                    clear HSd
                    go_upto_region 36 with (fail)
                    have HSc := Lib.hid (HS.out.alloc (.cells #[.int .i64 3] 3))
                    have CC := Lib.hid (stCount_any qr 4 f4 _ (some ⟨wz.heap.size, 0, none⟩) [3] 1 1 (bd + 1) bd n2 ks d (wz.alloc (.cells #[.int .i64 3] 3)) HSc.out.ob rfl (by omega) rfl (by omega) (ints_newW (zs := [3]) rfl) (by decide) (HSc.out.did.2 0 _ rfl) HSc.out.vi)
                    go_wp2_with fail
                    with_reducible refine CC.out.mono ?_
                    rintro e wz ⟨rfl, ho, gr⟩
                    rw [show (if ([3] : List Int).any d = true then 1 else 0) = incN d 4 by unfold incN incB; simp] at ho
                    have HSd : Hid (StS w bw n1 r0 qx [.string sid, .string sp, .string s, .int .i64 sat] qr [.string s, .int .i64 ((f1 : Int) + 1), .int .i64 ((f2 + incN d 2 : Nat) : Int), .int .i64 ((f3 + incN d 3 : Nat) : Int), .int .i64 ((f4 + incN d 4 : Nat) : Int), .int .i64 (f5 : Int)] (bd + 1) bd n2 ks d wz) := Lib.hid (HSc.out.cnt gr ho)
                    clear HS HSc CC ho gr
                    have HS := Lib.hid HSd.out
                    clear HSd
                    go_upto_region 37 with (fail)
                    have HSc := Lib.hid (HS.out.alloc (.cells #[.int .i64 4] 3))
                    have CC := Lib.hid (stCount_any qr 5 f5 _ (some ⟨wz.heap.size, 0, none⟩) [4] 1 1 (bd + 1) bd n2 ks d (wz.alloc (.cells #[.int .i64 4] 3)) HSc.out.ob rfl (by omega) rfl (by omega) (ints_newW (zs := [4]) rfl) (by decide) (HSc.out.did.2 0 _ rfl) HSc.out.vi)
                    go_wp2_with fail
                    with_reducible refine CC.out.mono ?_
                    rintro e wz ⟨rfl, ho, gr⟩
                    rw [show (if ([4] : List Int).any d = true then 1 else 0) = incN d 5 by unfold incN incB; simp] at ho
                    have HSd : Hid (StS w bw n1 r0 qx [.string sid, .string sp, .string s, .int .i64 sat] qr [.string s, .int .i64 ((f1 : Int) + 1), .int .i64 ((f2 + incN d 2 : Nat) : Int), .int .i64 ((f3 + incN d 3 : Nat) : Int), .int .i64 ((f4 + incN d 4 : Nat) : Int), .int .i64 ((f5 + incN d 5 : Nat) : Int)] (bd + 1) bd n2 ks d wz) := Lib.hid (HSc.out.cnt gr ho)
                    clear HS HSc CC ho gr
                    have HS := Lib.hid HSd.out
                    clear HSd
                    obtain ⟨g0, g1, g2, g3, g4, g5⟩ := show _ ∧ _ ∧ _ ∧ _ ∧ _ ∧ _ from ⟨HS.out.ob.cell 0 _ rfl, HS.out.ob.cell 1 _ rfl, HS.out.ob.cell 2 _ rfl, HS.out.ob.cell 3 _ rfl, HS.out.ob.cell 4 _ rfl, HS.out.ob.cell 5 _ rfl⟩
                    have hgl := HS.out.ob.lt
                    have x2 : wz.cell? ⟨qx, 2, none⟩ = some (.string s) := HS.out.xb.2 2 _ rfl
                    have hxl := HS.out.xb.1
                    have HMP := Lib.hid HS.out.map
                    have HBL := Lib.hid HS.out.bel
                    go_wp2_with (first | (at_mapUpdate; refine wpList_update_vm _ rfl _ _ _ 82 37 rfl Tryz.underlying82 ZW bw n1 r0.keys (agW r0) rfl HMP.out hnm1 s (.agg #[.string s, .int .i64 ((f1 : Int) + 1), .int .i64 ((f2 + incN d 2 : Nat) : Int), .int .i64 ((f3 + incN d 3 : Nat) : Int), .int .i64 ((f4 + incN d 4 : Nat) : Int), .int .i64 ((f5 + incN d 5 : Nat) : Int)]) rfl rfl hsm ?_))
                    intro w9 hv9 g9
                    rw [agW_put r0 s d _ (by obtain ⟨e1, e2, e3, e4, e5⟩ := HF.out; rw [e1, e2, e3, e4, e5]; rfl)] at hv9
                    have HV9 : Hid (VM w9 ZW bw (n1 + 1) (rws l acts span (k + 1)).keys (agW (rws l acts span (k + 1)))) := Lib.hid (by rw [HRS.out]; exact hv9)
                    have HB9 := Lib.hid (HBL.out.grown g9 HBL.out.size (fun g hg => by have := Option.some.inj hg; omega))
                    clear hv9 g9 HS HMP HBL g0 g1 g2 g3 g4 g5 hgl x2 hxl
                    go_wp2_with fail
                    go_roundw
                    case rel => exact ⟨k + 1, n1 + 1, by omega, by go_num, by omega, HV9.out, HB9.out⟩
                    case measure => simp [intOf]; omega
                    --@end
                --@end
              · --@r5
                obtain rfl : nl = k := by omega
                obtain ⟨c, hc⟩ : ∃ z, rws l acts span nl = z := ⟨_, rfl⟩
                have HND : Hid c.keys.Nodup := Lib.hid (by rw [← hc]; exact rws_nodup l acts span nl)
                have hk8 : c.keys.length ≤ 12 := by rw [← hc]; exact HLT.out
                have HBD : Hid (∀ s j, c.f s j ≤ 1000) := Lib.hid (fun s j => by rw [← hc]; exact Nat.le_trans (rws_bd l acts span nl s j) hn1)
                rw [hc] at HV HLL
                clear hc HI HJ HOK HOA HMOM HGD HLT
                have hbr := HV.out.lt
                obtain ⟨r, hr⟩ : ∃ z, wr.heap.size = z := ⟨_, rfl⟩
                have hwr : w.heap.size ≤ r := by have := HB.out.size; omega
                rw [hr] at hbr
                have HBW := Lib.hid (fun w' (g : wr.grownBy w' none) => HB.out.grown g HB.out.size (fun g hg => by cases hg))
                clear HB
                go_wp2_with (first | (at_range; refine wpList_range_vm wr rfl _ 82 37 rfl Tryz.underlying82 ZW bw n1 c.keys (agW c) rfl HV.out ?_; intro w0 cnt0 hr0 hg0 hs0))
                try rw [hr] at hr0
                try rw [hr] at hs0
                try rw [hr]
                have HR0 := Lib.hid hr0
                have HB0 := Lib.hid (HBW.out w0 hg0)
                obtain ⟨B3, hB3⟩ : ∃ z, r + 1 = z := ⟨_, rfl⟩
                rw [hB3] at hs0
                clear HBW HV hg0 hr0 hr
                go_frame
                go_loopw [20, 22] (fun v29 _ wx => ∃ (dn : List ByteArray) (cnt j : Nat) (v : Value), v = v29 ∧ dn.length = j ∧ VR wx ZW bw r n1 c.keys (agW c) dn cnt ∧ wx.ownsRow B3 37 6 v j ((dn.map c.at_).flatMap Rw.cells) ∧ Below w.heap.size w wx ∧ B3 ≤ wx.heap.size) (fun _ _ wx => wx.rangeLeft bw r)
                case atStart => exact ⟨[], cnt0, 0, _, rfl, rfl, HR0.out, World.ownsRow_nil _ _ _ _, HB0.out, by omega⟩
                case round =>
                  obtain ⟨dn, cnt, j, v, rfl, hj, hR, hO, hB, hsz⟩ := hrel
                  have hm0 := hR.left_eq
                  have HR := Lib.hid hR
                  have HO := Lib.hid hO
                  have HB := Lib.hid hB
                  have HJL := Lib.hid hj
                  have hj8 : j ≤ 12 := by rw [← hj]; exact Nat.le_trans (few_keysW hR.sub.1 hR.sub.2) hk8
                  clear HR0 HB0 hR hO hB hj
                  go_wp2_with (first | (at_next; refine wpList_next_vm wr rfl _ rfl ZW bw r n1 cnt c.keys dn (agW c) rfl HR.out HND.out ?_ ?_))
                  · intro hpm
                    obtain ⟨m, hm⟩ : ∃ z, dn.map c.at_ = z := ⟨_, rfl⟩
                    have HPM : Hid (m.Perm (c.keys.map c.at_)) := Lib.hid (by rw [← hm]; exact hpm.map _)
                    have HML : Hid (m.length = j) := Lib.hid (by rw [← hm, List.length_map]; exact HJL.out)
                    rw [hm] at HO
                    have HLS : Hid (srtW m = LL) := Lib.hid (by rw [srtW_isort, HLL.out]; exact rwL_same c HND.out m HPM.out)
                    obtain ⟨av, cv, hv, -, -⟩ := rowW_shape HO.out
                    subst hv
                    have CS := Lib.hid (sortRw_any B3 wr av j cv m HO.out HML.out (by omega))
                    have HOB : Hid (∀ g, (Value.slice av j cv).ownBlock = some g → B3 ≤ g) := Lib.hid (fun g hg => (HO.out.lt g hg).1)
                    clear hm HO HR HPM hpm hm0
                    go_wp2_with fail
                    with_reducible refine CS.out.mono ?_
                    rintro e ws ⟨rfl, hrow, hgs⟩
                    have HB9 := Lib.hid (HB.out.grown hgs HB.out.size (fun g hg => by have := HOB.out g hg; omega))
                    rw [HLS.out, HML.out] at hrow
                    have hll : LL.length = j := by rw [← HLS.out, srtW_len, HML.out]
                    rw [← hll] at hrow
                    obtain ⟨a9, c9, hv9, hr9, -, -⟩ := RAt.of_own hrow (fun x _ => x.len)
                    have HCI : Hid (RwIs ws (.slice av j cv) LL) := Lib.hid ⟨a9, c9, by rw [hll] at hv9 ⊢; exact hv9, hr9⟩
                    clear hrow hgs hr9 hv9 CS
                    go_wp2_with fail
                    refine bodyPost_ret (v := .tuple #[.slice av j cv, .int .i64 0]) (by simp [results, Tryz.results9, go_sem]) rfl ?_
                    exact ⟨_, rfl, HCI.out, HB9.out⟩
                  · intro s w1 cnt1 hs hnd1 hs9 hR1 hlt hg1 hs1 hen
                    obtain ⟨m1, h1'⟩ : ∃ z, c.f s 1 = z := ⟨_, rfl⟩
                    obtain ⟨m2, h2'⟩ : ∃ z, c.f s 2 = z := ⟨_, rfl⟩
                    obtain ⟨m3, h3'⟩ : ∃ z, c.f s 3 = z := ⟨_, rfl⟩
                    obtain ⟨m4, h4'⟩ : ∃ z, c.f s 4 = z := ⟨_, rfl⟩
                    obtain ⟨m5, h5'⟩ : ∃ z, c.f s 5 = z := ⟨_, rfl⟩
                    have hag : agW c s = .agg #[.string s, .int .i64 (m1 : Int), .int .i64 (m2 : Int), .int .i64 (m3 : Int), .int .i64 (m4 : Int), .int .i64 (m5 : Int)] := by unfold agW nmW; rw [if_pos (hasS_mem.2 hs), h1', h2', h3', h4', h5']
                    rw [hag] at hen ⊢
                    have HR1 := Lib.hid hR1
                    have HO1 := Lib.hid (rowW_grown HO.out hg1 (fun g hg e => by have := (HO.out.lt g hg).1; injection e with e; omega))
                    have HB1 := Lib.hid (HB.out.grown hg1 HB.out.size (fun g hg => by injection hg with e; omega))
                    have HTK := Lib.hid (show (((dn ++ [s]).map c.at_).flatMap Rw.cells) = ((dn.map c.at_).flatMap Rw.cells) ++ [.string s, .int .i64 (m1 : Int), .int .i64 (m2 : Int), .int .i64 (m3 : Int), .int .i64 (m4 : Int), .int .i64 (m5 : Int)] by
                      rw [← h1', ← h2', ← h3', ← h4', ← h5', List.map_append, List.flatMap_append]
                      simp [Rws.at_, Rw.cells])
                    have hqr : B3 ≤ w1.heap.size := by omega
                    clear HO HB HR hR1 hg1 hag h1' h2' h3' h4' h5' hs1
                    have HX := Lib.hid (XB.new w1 [.string s, .int .i64 (m1 : Int), .int .i64 (m2 : Int), .int .i64 (m3 : Int), .int .i64 (m4 : Int), .int .i64 (m5 : Int)] 37)
                    simp only [List.toArray] at HX
                    have BA := (Below.refl w1.heap.size w1).alloc (Nat.le_refl _) (.cells #[.string s, .int .i64 (m1 : Int), .int .i64 (m2 : Int), .int .i64 (m3 : Int), .int .i64 (m4 : Int), .int .i64 (m5 : Int)] 37)
                    have HRa := Lib.hid (HR1.out.below BA)
                    have HOa := Lib.hid (rowW_below HO1.out BA)
                    have HBa := Lib.hid (HB1.out.trans (BA.mono HB1.out.size))
                    have hsa : B3 ≤ (w1.alloc (.cells #[.string s, .int .i64 (m1 : Int), .int .i64 (m2 : Int), .int .i64 (m3 : Int), .int .i64 (m4 : Int), .int .i64 (m5 : Int)] 37)).heap.size := by rw [World.size_alloc]; omega
                    clear BA HR1 HO1 HB1
                    go_upto_region 44 with (fail)
                    generalize w1.alloc (.cells #[.string s, .int .i64 (m1 : Int), .int .i64 (m2 : Int), .int .i64 (m3 : Int), .int .i64 (m4 : Int), .int .i64 (m5 : Int)] 37) = wa at *
                    generalize w1.heap.size = q at *
                    obtain ⟨x0, x1, x2, x3, x4, x5⟩ := show _ ∧ _ ∧ _ ∧ _ ∧ _ ∧ _ from ⟨HX.out.2 0 _ rfl, HX.out.2 1 _ rfl, HX.out.2 2 _ rfl, HX.out.2 3 _ rfl, HX.out.2 4 _ rfl, HX.out.2 5 _ rfl⟩
                    have hxl := HX.out.1
                    have BA := (Below.refl wa.heap.size wa).alloc (Nat.le_refl _) (.cells #[.string s, .int .i64 (m1 : Int), .int .i64 (m2 : Int), .int .i64 (m3 : Int), .int .i64 (m4 : Int), .int .i64 (m5 : Int)] 37)
                    have HRb := Lib.hid (HRa.out.below BA)
                    have HOb := Lib.hid (rowW_below HOa.out BA)
                    have HBb := Lib.hid (HBa.out.trans (BA.mono HBa.out.size))
                    have HNW : Hid (∀ j u, ([.string s, .int .i64 (m1 : Int), .int .i64 (m2 : Int), .int .i64 (m3 : Int), .int .i64 (m4 : Int), .int .i64 (m5 : Int)] : List Value)[j]? = some u → (wa.alloc (.cells #[.string s, .int .i64 (m1 : Int), .int .i64 (m2 : Int), .int .i64 (m3 : Int), .int .i64 (m4 : Int), .int .i64 (m5 : Int)] 37)).cell? ((⟨wa.heap.size, 0, none⟩ : Addr).add j) = some u) := Lib.hid (fun j u h => World.news_of_block (heap_alloc_new wa (.cells #[.string s, .int .i64 (m1 : Int), .int .i64 (m2 : Int), .int .i64 (m3 : Int), .int .i64 (m4 : Int), .int .i64 (m5 : Int)] 37)) j u h)
                    have HSb : Hid (B3 ≤ (wa.alloc (.cells #[.string s, .int .i64 (m1 : Int), .int .i64 (m2 : Int), .int .i64 (m3 : Int), .int .i64 (m4 : Int), .int .i64 (m5 : Int)] 37)).heap.size) := Lib.hid (by rw [World.size_alloc]; omega)
                    have HOB : Hid (∀ g, v.ownBlock = some g → B3 ≤ g) := Lib.hid (fun g hg => (HOa.out.lt g hg).1)
                    have hmy : j + 1 ≤ maxLen := by unfold maxLen; omega
                    have hmb : (j + 1) * 56 ≤ 140737488355328 := by omega
                    clear HRa HOa HBa BA
                    go_wp2_with (first | (at_builtin; refine wpList_append_lies _ rfl _ _ 31 rfl B3 37 i0 _ 6 56 Tryz.underlying31 hi hz0 hz1 hz2 rfl (by decide) v j _ rfl HOb.out ⟨wa.heap.size, 0, none⟩ 1 1 [.string s, .int .i64 (m1 : Int), .int .i64 (m2 : Int), .int .i64 (m3 : Int), .int .i64 (m4 : Int), .int .i64 (m5 : Int)] rfl rfl HNW.out ?ca2 Nat.one_pos hmy hmb HSb.out _ rfl ?_))
                    case ca2 => simp [Value.oneCell']
                    intro gq cq9 w8 own8 grow8 at8 lt8
                    have HO9 : Hid (w8.ownsRow B3 37 6 (.slice (some ⟨gq, 0, none⟩) (j + 1) cq9) (j + 1) (((dn ++ [s]).map c.at_).flatMap Rw.cells)) := Lib.hid (by rw [HTK.out]; exact own8)
                    have HR9 := Lib.hid (HRb.out.kept grow8 (fun e => by have := HOB.out bw e.symm; omega) (fun e => by have := HOB.out r e.symm; omega))
                    have HB9 := Lib.hid (HBb.out.grown grow8 HBb.out.size (fun g hg => by have := HOB.out g hg; omega))
                    have hs9 : B3 ≤ w8.heap.size := Nat.le_trans HSb.out grow8.size
                    clear own8 grow8 at8 lt8 HOb HRb HBb HNW HSb HOB x0 x1 x2 x3 x4 x5 hxl HX HTK
                    go_wp2_with fail
                    go_roundw
                    case rel => exact ⟨dn ++ [s], cnt1, j + 1, _, rfl, by rw [List.length_append, HJL.out]; rfl, HR9.out, HO9.out, HB9.out, hs9⟩
                    case measure => rw [HR9.out.left_eq, hm0]; exact hlt
                --@end
        --@end
  · have e1 : (SE == 0) = false := by simpa using h1
    have e2 : (SE != 0) = true := by simpa using h1
    obtain rfl : E = SE := HE.out.trans (if_pos h1)
    obtain rfl := FAIL.out h1
    go_wp2_with fail
    refine bodyPost_ret (v := .tuple #[.slice none 0 0, .int .i64 E]) (by simp [results, Tryz.results9, go_sem]) rfl ?_
    exact ⟨_, rfl, RwIs.nil _, HB1.out⟩
end Go.Proofs.YtgdagknjnidmiaaGreatDoor
