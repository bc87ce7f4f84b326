/- segment.walk and handref1.each over a function that keeps something in boxes of its own: in general. -/
import Derived.Test.YtfdpfkdfglombaaGreatDoorCnO
import Derived.Test.YtfdpfkdfglombaaGreatDoorSgL
import Derived.Deep.AppendLies
import Derived.Deep.Cut
import Derived.Deep.CutBlock
import Derived.Deep.DeepCutAuto
import Derived.Test.YtfdpfkdfglombaaGreatDoorShelf
import Derived.Shelf.Sort.Plain
import Derived.Shelf.Slices.In.SortNone
import Derived.Test.YtfdpfkdfglombaaGreatDoorCkSp
import Derived.Sort.OwnSorted
import Derived.Lib.SlicesCompact
import Derived.Test.YtfdpfkdfglombaaGreatDoorSgM
import Derived.Laws.EntriesVeiled
import Derived.Deep.RegionWith
set_option linter.unusedVariables false
namespace Go.Proofs.YtfdpfkdfglombaaGreatDoor
open Go.RowKit

/-- every part of a condition lies below block n -/
def LwT (n d : Nat) (c : Cn) : Prop := ∀ g, n ≤ g → FarT d c g
theorem RAt.lowG {α : Type} {w w' : World} {a : Option Addr} {C n : Nat} {f : α → List Value} {l : List α} (h : RAt w a C f l) (k : Below n w w') (hf : ∀ g, n ≤ g → Far a l.length g) : RAt w' a C f l := by
  intro j hj
  obtain ⟨p, off, h1, h2, h3⟩ := h j hj
  have hp : p < n := by
    by_cases e : n ≤ p
    · exact absurd rfl (hf p e (by omega) p off h1)
    · omega
  exact ⟨p, off, h1, Nat.lt_of_lt_of_le h2 k.size, fun i v hv => by
    have e := h3 i v hv
    unfold World.cell? at e ⊢
    rw [k.block p hp]
    exact e⟩
theorem TAt.lowG {w w' : World} {n : Nat} (k : Below n w w') : ∀ {d : Nat} {c : Cn}, TAt d w c → LwT n d c → TAt d w' c
  | 0, _, h, _ => h
  | d + 1, c, ⟨h1, h2, h3, h4, h5, h6⟩, hf => ⟨h1, h2, h3.lowG k (fun g e => (hf g e).1), h4.lowG k (fun g e => (hf g e).2.1), h5.lowG k (fun g e => (hf g e).2.2.1), fun x hx => TAt.lowG k (h6 x hx) (fun g e => (hf g e).2.2.2 x hx)⟩
theorem LwT.arg {n d : Nat} {c x : Cn} (h : LwT n (d + 1) c) (hx : x ∈ c.args) : LwT n d x := fun g hg => (h g hg).2.2.2 x hx
def AllT (G : Nd → Prop) : Nat → Cn → Prop
  | 0, _ => True
  | d + 1, c => G c.nd ∧ ∀ x ∈ c.args, AllT G d x
theorem AllT.true : ∀ (d : Nat) (c : Cn), AllT (fun _ => True) d c
  | 0, _ => trivial
  | d + 1, c => ⟨trivial, fun x _ => AllT.true d x⟩
theorem Fm.all : ∀ (d : Nat) (c : Cn), Fm d c → AllT (fun n => 1 ≤ n.kind ∧ n.kind ≤ 14) d c
  | 0, _, _ => trivial
  | d + 1, c, ⟨h1, _, _, h4⟩ => ⟨h1, fun x hx => Fm.all d x (h4 x hx)⟩
/-- what a function that is called for each condition keeps -/
structure WkOk {σ : Type} (I : Nat → σ → World → Prop) (R : World → World → Prop) (Sf : World → Nat → Prop) (n : Nat) : Prop where
  trans : ∀ {a b c}, R a b → R b c → R a c
  low : ∀ {a b}, R a b → Below n a b
  al : ∀ {k s w}, I k s w → ∀ o, I k s (w.alloc o) ∧ R w (w.alloc o) ∧ Sf (w.alloc o) w.heap.size
  keep : ∀ {w w' k}, R w w' → Sf w k → w'.heap[k]? = w.heap[k]? ∧ Sf w' k
def WkO {σ : Type} (I : Nat → σ → World → Prop) (R : World → World → Prop) (k : Nat) (s : σ) (w : World) (v : Value) (e : Ending) (w' : World) : Prop := e = .returned v ∧ I k s w' ∧ R w w'
theorem XB.same {w w' : World} {q : Nat} {cs : List Value} (h : XB w q cs) (e : w'.heap[q]? = w.heap[q]?) : XB w' q cs := by
  refine ⟨?_, fun i v hv => ?_⟩
  · have h1 := h.1
    rcases Nat.lt_or_ge q w'.heap.size with h2 | h2
    · exact h2
    · rw [Array.getElem?_eq_none h2, Array.getElem?_eq_getElem h1] at e; cases e
  · have h2 := h.2 i v hv
    unfold World.cell? at h2 ⊢
    rw [e]
    exact h2
theorem gT_drop {σ : Type} (f : σ → Nd → σ) (d : Nat) (l : List Cn) (j : Nat) (s : σ) (h : j < l.length) : (l.drop j).foldl (fun s x => gT f d x s) s = (l.drop (j + 1)).foldl (fun s x => gT f d x s) (gT f d l[j] s) := by
  rw [List.drop_eq_getElem_cons h]; rfl
theorem szN_drop (d : Nat) (l : List Cn) (j : Nat) (h : j < l.length) : ((l.drop j).map (szN d)).sum = szN d l[j] + ((l.drop (j + 1)).map (szN d)).sum := by
  rw [List.drop_eq_getElem_cons h, List.map_cons, List.sum_cons]

set_option maxRecDepth 100000 in
set_option maxHeartbeats 4000000 in
theorem walk2_any {σ : Type} {I : Nat → σ → World → Prop} {R : World → World → Prop} {Sf : World → Nat → Prop} {f : σ → Nd → σ} {n : Nat} {G : Nd → Prop} (H : WkOk I R Sf n) (fid q2 q3 : Nat) (eg : ∀ args w, (callFunc fid args).run Tryz.prog w = .ok (.enter fid args) w)
    (CK : ∀ (x : Cn) (k : Nat) (s : σ) (w : World), x.nd.ok → G x.nd → k ≤ 1000 → I k s w → Calls Tryz.prog fid #[x.agg, .pointer (some ⟨q2, 0, none⟩), .pointer (some ⟨q3, 0, none⟩)] w (WkO I R (k + 1) (f s x.nd) w (.int .i64 0))) :
    ∀ (d : Nat) (c : Cn) (k : Nat) (s : σ) (w : World), TAt d w c → LwT n d c → AllT G d c → k + szN d c ≤ 1000 → I k s w →
      Calls Tryz.prog 38 #[c.agg, .func (.func fid) #[] #[.pointer (some ⟨q2, 0, none⟩), .pointer (some ⟨q3, 0, none⟩)]] w (WkO I R (k + szN d c) (gT f d c s) w (.int .i64 0))
  | 0, _, _, _, _, h, _, _, _, _ => h.elim
  | d + 1, c, k, s, w, ⟨hok, ⟨ha1, ha2, ha3'⟩, hV, hW, hA, hC⟩, hL, ⟨hG0, hG1⟩, hk, hI => by
    have ha3 := wdM_le ha3'
    have HI := Lib.hid (fun c k s w => walk2_any H fid q2 q3 eg CK d c k s w)
    have HH := Lib.hid H
    have hz : szN (d + 1) c = 1 + (c.args.map (szN d)).sum := rfl
    have hg : gT f (d + 1) c s = c.args.foldl (fun s x => gT f d x s) (f s c.nd) := rfl
    rw [hz] at hk ⊢
    rw [hg]
    have C0 := Lib.hid (fun w h => CK c k s w hok hG0 (by omega) h)
    have HG1 := Lib.hid hG1
    have HA := Lib.hid hA
    have HC := Lib.hid hC
    have HL := Lib.hid hL
    have HLA := Lib.hid (fun g hg => (hL g hg).2.2.1)
    have HIw := Lib.hid hI
    unfold Cn.agg
    clear hz hg hG0 hG1 H hok hV hW hA hC hL ha1 ha2 ha3' hI CK
    obtain ⟨S1, hS1⟩ : ∃ z, f s c.nd = z := ⟨_, rfl⟩
    rw [hS1] at C0 ⊢
    clear hS1
    obtain ⟨nd, args⟩ := c
    obtain ⟨kind, name, field, sign, va, vc, vals, wa, wc, whs, within, number, aa, ac⟩ := nd
    unfold Cn.agg at C0
    simp only [Cn.nd, Cn.args] at *
    obtain ⟨nv, hnv⟩ : ∃ z, vals.length = z := ⟨_, rfl⟩
    obtain ⟨nw, hnw⟩ : ∃ z, whs.length = z := ⟨_, rfl⟩
    obtain ⟨na, hna⟩ : ∃ z, args.length = z := ⟨_, rfl⟩
    rw [hnv, hnw, hna] at C0 ⊢
    rw [hna] at ha3
    have HNA := Lib.hid hna
    obtain ⟨KK, hKK⟩ : ∃ z, k + (1 + (args.map (szN d)).sum) = z := ⟨_, rfl⟩
    obtain ⟨SS, hSS⟩ : ∃ z, args.foldl (fun s x => gT f d x s) S1 = z := ⟨_, rfl⟩
    have HKK := Lib.hid hKK
    have HSS := Lib.hid hSS
    rw [hKK] at hk ⊢
    rw [hSS]
    clear hnv hnw hna hKK hSS
    obtain ⟨a1, a2, a3⟩ := HH.out.al HIw.out (.cells #[.int .i64 kind, .string name, .string field, .string sign, .slice va nv vc, .slice wa nw wc, .int .i64 within, .int .i64 number, .slice aa na ac] 30)
    have HI1 := Lib.hid a1
    have HR1 := Lib.hid a2
    have HS1 := Lib.hid a3
    have HX := Lib.hid (XB.new w [.int .i64 kind, .string name, .string field, .string sign, .slice va nv vc, .slice wa nw wc, .int .i64 within, .int .i64 number, .slice aa na ac] 30)
    clear a1 a2 a3 HIw
    go_enter Tryz.func38, Tryz.ntmps38
    go_wp2_with fail
    ((with_reducible refine (C0.out _ HI1.out).mono ?_); rintro e w1 ⟨rfl, i1, r1⟩)
    have HX1 := Lib.hid (HX.out.same (HH.out.keep r1 HS1.out).1)
    have HI2 := Lib.hid i1
    have HR2 := Lib.hid (HH.out.trans HR1.out r1)
    clear i1 r1 HX HI1 HR1 HS1 C0
    have x8 := HX1.out.2 8 _ rfl
    have xl := HX1.out.1
    go_wp2_with fail
    clear x8 xl
    go_loopw [18] (fun i wr => ∃ (j kk : Nat) (s' : σ), j ≤ na ∧ i = .int .i64 j ∧ Hid (kk + ((args.drop j).map (szN d)).sum = KK) ∧ Hid ((args.drop j).foldl (fun s x => gT f d x s) s' = SS) ∧ I kk s' wr ∧ R w wr) (fun i _ => na - (intOf i).toNat)
    case atStart => exact ⟨0, k + 1, S1, Nat.zero_le _, rfl, Lib.hid (by rw [← HKK.out, List.drop_zero]; omega), HSS, HI2.out, HR2.out⟩
    case round =>
      obtain ⟨j, kk, s', hj, rfl, HK, HS, hIr, hRr⟩ := hrel
      have HIr := Lib.hid hIr
      have HRr := Lib.hid hRr
      clear hIr hRr HI2 HR2 HX1
      by_cases hlt : j < na
      · have hjl : j < args.length := by have := HNA.out; omega
        have hm := List.getElem_mem hjl
        obtain ⟨p, off, rfl, hp, c0, c1, c2, c3, c4, c5, c6, c7, c8⟩ := (HA.out.lowG (HH.out.low HRr.out) HLA.out).at9c hjl
        have HD := Lib.hid (gT_drop f d args j s' hjl)
        have HZ := Lib.hid (szN_drop d args j hjl)
        have HTx := Lib.hid ((HC.out _ hm).lowG (HH.out.low HRr.out) (HL.out.arg (c := .mk ⟨kind, name, field, sign, va, vc, vals, wa, wc, whs, within, number, _, ac⟩ args) hm))
        have HLx : Hid (LwT n d args[j]) := Lib.hid (HL.out.arg (c := .mk ⟨kind, name, field, sign, va, vc, vals, wa, wc, whs, within, number, _, ac⟩ args) hm)
        have HGx : Hid (AllT G d args[j]) := Lib.hid (HG1.out _ hm)
        have C1 := Lib.hid (fun w h1 h3 h4 => HI.out (args[j]'hjl) kk s' w h1 HLx.out HGx.out h3 h4)
        clear hm
        generalize args[j] = x at *
        obtain ⟨zz, hzz⟩ : ∃ z, szN d x = z := ⟨_, rfl⟩
        obtain ⟨s2, hs2⟩ : ∃ z, gT f d x s' = z := ⟨_, rfl⟩
        rw [hzz] at HZ C1
        rw [hs2] at HD C1
        clear hzz hs2
        obtain ⟨xn, xargs⟩ := x
        obtain ⟨xkind, xname, xfield, xsign, xva, xvc, xvals, xwa, xwc, xwhs, xwithin, xnumber, xaa, xac⟩ := xn
        unfold Cn.agg at C1
        simp only [Cn.nd, Cn.args] at *
        obtain ⟨xnv, hxnv⟩ : ∃ z, xvals.length = z := ⟨_, rfl⟩
        obtain ⟨xnw, hxnw⟩ : ∃ z, xwhs.length = z := ⟨_, rfl⟩
        obtain ⟨xna, hxna⟩ : ∃ z, xargs.length = z := ⟨_, rfl⟩
        rw [hxnv] at c4 C1
        rw [hxnw] at c5 C1
        rw [hxna] at c8 C1
        clear hxnv hxnw hxna
        obtain ⟨a1, a2, a3⟩ := HH.out.al HIr.out (.cells #[.int .i64 xkind, .string xname, .string xfield, .string xsign, .slice xva xnv xvc, .slice xwa xnw xwc, .int .i64 xwithin, .int .i64 xnumber, .slice xaa xna xac] 30)
        have HIa := Lib.hid a1
        have HRa := Lib.hid (HH.out.trans HRr.out a2)
        have HTa := Lib.hid (HTx.out.lowG (HH.out.low a2) HLx.out)
        clear a1 a2 a3 HIr HRr HTx
        have hkk : kk + zz ≤ 1000 := by have := HK.out; have := HZ.out; omega
        go_wp2_with fail
        ((with_reducible refine (C1.out _ HTa.out hkk HIa.out).mono ?_); rintro e w5 ⟨rfl, i5, r5⟩)
        have HI5 := Lib.hid i5
        have HR5 := Lib.hid (HH.out.trans HRa.out r5)
        clear i5 r5 HIa HRa HTa c0 c1 c2 c3 c4 c5 c6 c7 c8 hp
        go_wp2_with fail
        go_roundw
        case rel => exact ⟨j + 1, kk + zz, s2, by omega, by go_num, Lib.hid (by have := HK.out; have := HZ.out; omega), Lib.hid (by rw [← HS.out, HD.out]), HI5.out, HR5.out⟩
        case measure => simp [intOf]; omega
      · have e1 : args.drop j = [] := List.drop_eq_nil_of_le (by have := HNA.out; omega)
        have hk9 : kk = KK := by have h := HK.out; rw [e1] at h; simpa using h
        have hs9 : s' = SS := by have h := HS.out; rw [e1] at h; exact h
        clear e1
        rw [hk9, hs9] at HIr
        clear hk9 hs9 HK HS
        go_wp2_with fail
        go_ret
        exact ⟨rfl, HIr.out, HRr.out⟩

set_option maxRecDepth 100000 in
set_option maxHeartbeats 4000000 in
theorem walk1_any {σ : Type} {I : Nat → σ → World → Prop} {R : World → World → Prop} {Sf : World → Nat → Prop} {f : σ → Nd → σ} {n : Nat} {G : Nd → Prop} (H : WkOk I R Sf n) (fid q2 : Nat) (eg : ∀ args w, (callFunc fid args).run Tryz.prog w = .ok (.enter fid args) w)
    (CK : ∀ (x : Cn) (k : Nat) (s : σ) (w : World), x.nd.ok → G x.nd → k ≤ 1000 → I k s w → Calls Tryz.prog fid #[x.agg, .pointer (some ⟨q2, 0, none⟩)] w (WkO I R (k + 1) (f s x.nd) w (.int .i64 0))) :
    ∀ (d : Nat) (c : Cn) (k : Nat) (s : σ) (w : World), TAt d w c → LwT n d c → AllT G d c → k + szN d c ≤ 1000 → I k s w →
      Calls Tryz.prog 38 #[c.agg, .func (.func fid) #[] #[.pointer (some ⟨q2, 0, none⟩)]] w (WkO I R (k + szN d c) (gT f d c s) w (.int .i64 0))
  | 0, _, _, _, _, h, _, _, _, _ => h.elim
  | d + 1, c, k, s, w, ⟨hok, ⟨ha1, ha2, ha3'⟩, hV, hW, hA, hC⟩, hL, ⟨hG0, hG1⟩, hk, hI => by
    have ha3 := wdM_le ha3'
    have HI := Lib.hid (fun c k s w => walk1_any H fid q2 eg CK d c k s w)
    have HH := Lib.hid H
    have hz : szN (d + 1) c = 1 + (c.args.map (szN d)).sum := rfl
    have hg : gT f (d + 1) c s = c.args.foldl (fun s x => gT f d x s) (f s c.nd) := rfl
    rw [hz] at hk ⊢
    rw [hg]
    have C0 := Lib.hid (fun w h => CK c k s w hok hG0 (by omega) h)
    have HG1 := Lib.hid hG1
    have HA := Lib.hid hA
    have HC := Lib.hid hC
    have HL := Lib.hid hL
    have HLA := Lib.hid (fun g hg => (hL g hg).2.2.1)
    have HIw := Lib.hid hI
    unfold Cn.agg
    clear hz hg hG0 hG1 H hok hV hW hA hC hL ha1 ha2 ha3' hI CK
    obtain ⟨S1, hS1⟩ : ∃ z, f s c.nd = z := ⟨_, rfl⟩
    rw [hS1] at C0 ⊢
    clear hS1
    obtain ⟨nd, args⟩ := c
    obtain ⟨kind, name, field, sign, va, vc, vals, wa, wc, whs, within, number, aa, ac⟩ := nd
    unfold Cn.agg at C0
    simp only [Cn.nd, Cn.args] at *
    obtain ⟨nv, hnv⟩ : ∃ z, vals.length = z := ⟨_, rfl⟩
    obtain ⟨nw, hnw⟩ : ∃ z, whs.length = z := ⟨_, rfl⟩
    obtain ⟨na, hna⟩ : ∃ z, args.length = z := ⟨_, rfl⟩
    rw [hnv, hnw, hna] at C0 ⊢
    rw [hna] at ha3
    have HNA := Lib.hid hna
    obtain ⟨KK, hKK⟩ : ∃ z, k + (1 + (args.map (szN d)).sum) = z := ⟨_, rfl⟩
    obtain ⟨SS, hSS⟩ : ∃ z, args.foldl (fun s x => gT f d x s) S1 = z := ⟨_, rfl⟩
    have HKK := Lib.hid hKK
    have HSS := Lib.hid hSS
    rw [hKK] at hk ⊢
    rw [hSS]
    clear hnv hnw hna hKK hSS
    obtain ⟨a1, a2, a3⟩ := HH.out.al HIw.out (.cells #[.int .i64 kind, .string name, .string field, .string sign, .slice va nv vc, .slice wa nw wc, .int .i64 within, .int .i64 number, .slice aa na ac] 30)
    have HI1 := Lib.hid a1
    have HR1 := Lib.hid a2
    have HS1 := Lib.hid a3
    have HX := Lib.hid (XB.new w [.int .i64 kind, .string name, .string field, .string sign, .slice va nv vc, .slice wa nw wc, .int .i64 within, .int .i64 number, .slice aa na ac] 30)
    clear a1 a2 a3 HIw
    go_enter Tryz.func38, Tryz.ntmps38
    go_wp2_with fail
    ((with_reducible refine (C0.out _ HI1.out).mono ?_); rintro e w1 ⟨rfl, i1, r1⟩)
    have HX1 := Lib.hid (HX.out.same (HH.out.keep r1 HS1.out).1)
    have HI2 := Lib.hid i1
    have HR2 := Lib.hid (HH.out.trans HR1.out r1)
    clear i1 r1 HX HI1 HR1 HS1 C0
    have x8 := HX1.out.2 8 _ rfl
    have xl := HX1.out.1
    go_wp2_with fail
    clear x8 xl
    go_loopw [18] (fun i wr => ∃ (j kk : Nat) (s' : σ), j ≤ na ∧ i = .int .i64 j ∧ Hid (kk + ((args.drop j).map (szN d)).sum = KK) ∧ Hid ((args.drop j).foldl (fun s x => gT f d x s) s' = SS) ∧ I kk s' wr ∧ R w wr) (fun i _ => na - (intOf i).toNat)
    case atStart => exact ⟨0, k + 1, S1, Nat.zero_le _, rfl, Lib.hid (by rw [← HKK.out, List.drop_zero]; omega), HSS, HI2.out, HR2.out⟩
    case round =>
      obtain ⟨j, kk, s', hj, rfl, HK, HS, hIr, hRr⟩ := hrel
      have HIr := Lib.hid hIr
      have HRr := Lib.hid hRr
      clear hIr hRr HI2 HR2 HX1
      by_cases hlt : j < na
      · have hjl : j < args.length := by have := HNA.out; omega
        have hm := List.getElem_mem hjl
        obtain ⟨p, off, rfl, hp, c0, c1, c2, c3, c4, c5, c6, c7, c8⟩ := (HA.out.lowG (HH.out.low HRr.out) HLA.out).at9c hjl
        have HD := Lib.hid (gT_drop f d args j s' hjl)
        have HZ := Lib.hid (szN_drop d args j hjl)
        have HTx := Lib.hid ((HC.out _ hm).lowG (HH.out.low HRr.out) (HL.out.arg (c := .mk ⟨kind, name, field, sign, va, vc, vals, wa, wc, whs, within, number, _, ac⟩ args) hm))
        have HLx : Hid (LwT n d args[j]) := Lib.hid (HL.out.arg (c := .mk ⟨kind, name, field, sign, va, vc, vals, wa, wc, whs, within, number, _, ac⟩ args) hm)
        have HGx : Hid (AllT G d args[j]) := Lib.hid (HG1.out _ hm)
        have C1 := Lib.hid (fun w h1 h3 h4 => HI.out (args[j]'hjl) kk s' w h1 HLx.out HGx.out h3 h4)
        clear hm
        generalize args[j] = x at *
        obtain ⟨zz, hzz⟩ : ∃ z, szN d x = z := ⟨_, rfl⟩
        obtain ⟨s2, hs2⟩ : ∃ z, gT f d x s' = z := ⟨_, rfl⟩
        rw [hzz] at HZ C1
        rw [hs2] at HD C1
        clear hzz hs2
        obtain ⟨xn, xargs⟩ := x
        obtain ⟨xkind, xname, xfield, xsign, xva, xvc, xvals, xwa, xwc, xwhs, xwithin, xnumber, xaa, xac⟩ := xn
        unfold Cn.agg at C1
        simp only [Cn.nd, Cn.args] at *
        obtain ⟨xnv, hxnv⟩ : ∃ z, xvals.length = z := ⟨_, rfl⟩
        obtain ⟨xnw, hxnw⟩ : ∃ z, xwhs.length = z := ⟨_, rfl⟩
        obtain ⟨xna, hxna⟩ : ∃ z, xargs.length = z := ⟨_, rfl⟩
        rw [hxnv] at c4 C1
        rw [hxnw] at c5 C1
        rw [hxna] at c8 C1
        clear hxnv hxnw hxna
        obtain ⟨a1, a2, a3⟩ := HH.out.al HIr.out (.cells #[.int .i64 xkind, .string xname, .string xfield, .string xsign, .slice xva xnv xvc, .slice xwa xnw xwc, .int .i64 xwithin, .int .i64 xnumber, .slice xaa xna xac] 30)
        have HIa := Lib.hid a1
        have HRa := Lib.hid (HH.out.trans HRr.out a2)
        have HTa := Lib.hid (HTx.out.lowG (HH.out.low a2) HLx.out)
        clear a1 a2 a3 HIr HRr HTx
        have hkk : kk + zz ≤ 1000 := by have := HK.out; have := HZ.out; omega
        go_wp2_with fail
        ((with_reducible refine (C1.out _ HTa.out hkk HIa.out).mono ?_); rintro e w5 ⟨rfl, i5, r5⟩)
        have HI5 := Lib.hid i5
        have HR5 := Lib.hid (HH.out.trans HRa.out r5)
        clear i5 r5 HIa HRa HTa c0 c1 c2 c3 c4 c5 c6 c7 c8 hp
        go_wp2_with fail
        go_roundw
        case rel => exact ⟨j + 1, kk + zz, s2, by omega, by go_num, Lib.hid (by have := HK.out; have := HZ.out; omega), Lib.hid (by rw [← HS.out, HD.out]), HI5.out, HR5.out⟩
        case measure => simp [intOf]; omega
      · have e1 : args.drop j = [] := List.drop_eq_nil_of_le (by have := HNA.out; omega)
        have hk9 : kk = KK := by have h := HK.out; rw [e1] at h; simpa using h
        have hs9 : s' = SS := by have h := HS.out; rw [e1] at h; exact h
        clear e1
        rw [hk9, hs9] at HIr
        clear hk9 hs9 HK HS
        go_wp2_with fail
        go_ret
        exact ⟨rfl, HIr.out, HRr.out⟩

set_option maxRecDepth 100000 in
set_option maxHeartbeats 4000000 in
theorem each2_any {σ : Type} {I : Nat → σ → World → Prop} {R : World → World → Prop} {Sf : World → Nat → Prop} {f : σ → Nd → σ} {n : Nat} {G : Nd → Prop} (H : WkOk I R Sf n) (fid q2 q3 : Nat) (eg : ∀ args w, (callFunc fid args).run Tryz.prog w = .ok (.enter fid args) w)
    (CK : ∀ (x : Cn) (k : Nat) (s : σ) (w : World), x.nd.ok → G x.nd → k ≤ 1000 → I k s w → Calls Tryz.prog fid #[x.agg, .pointer (some ⟨q2, 0, none⟩), .pointer (some ⟨q3, 0, none⟩)] w (WkO I R (k + 1) (f s x.nd) w (.tuple #[]))) :
    ∀ (d : Nat) (c : Cn) (k : Nat) (s : σ) (w : World), TAt d w c → LwT n d c → AllT G d c → k + szN d c ≤ 1000 → I k s w →
      Calls Tryz.prog 59 #[c.agg, .func (.func fid) #[] #[.pointer (some ⟨q2, 0, none⟩), .pointer (some ⟨q3, 0, none⟩)]] w (WkO I R (k + szN d c) (gT f d c s) w (.tuple #[]))
  | 0, _, _, _, _, h, _, _, _, _ => h.elim
  | d + 1, c, k, s, w, ⟨hok, ⟨ha1, ha2, ha3'⟩, hV, hW, hA, hC⟩, hL, ⟨hG0, hG1⟩, hk, hI => by
    have ha3 := wdM_le ha3'
    have HI := Lib.hid (fun c k s w => each2_any H fid q2 q3 eg CK d c k s w)
    have HH := Lib.hid H
    have hz : szN (d + 1) c = 1 + (c.args.map (szN d)).sum := rfl
    have hg : gT f (d + 1) c s = c.args.foldl (fun s x => gT f d x s) (f s c.nd) := rfl
    rw [hz] at hk ⊢
    rw [hg]
    have C0 := Lib.hid (fun w h => CK c k s w hok hG0 (by omega) h)
    have HG1 := Lib.hid hG1
    have HA := Lib.hid hA
    have HC := Lib.hid hC
    have HL := Lib.hid hL
    have HLA := Lib.hid (fun g hg => (hL g hg).2.2.1)
    have HIw := Lib.hid hI
    unfold Cn.agg
    clear hz hg hG0 hG1 H hok hV hW hA hC hL ha1 ha2 ha3' hI CK
    obtain ⟨S1, hS1⟩ : ∃ z, f s c.nd = z := ⟨_, rfl⟩
    rw [hS1] at C0 ⊢
    clear hS1
    obtain ⟨nd, args⟩ := c
    obtain ⟨kind, name, field, sign, va, vc, vals, wa, wc, whs, within, number, aa, ac⟩ := nd
    unfold Cn.agg at C0
    simp only [Cn.nd, Cn.args] at *
    obtain ⟨nv, hnv⟩ : ∃ z, vals.length = z := ⟨_, rfl⟩
    obtain ⟨nw, hnw⟩ : ∃ z, whs.length = z := ⟨_, rfl⟩
    obtain ⟨na, hna⟩ : ∃ z, args.length = z := ⟨_, rfl⟩
    rw [hnv, hnw, hna] at C0 ⊢
    rw [hna] at ha3
    have HNA := Lib.hid hna
    obtain ⟨KK, hKK⟩ : ∃ z, k + (1 + (args.map (szN d)).sum) = z := ⟨_, rfl⟩
    obtain ⟨SS, hSS⟩ : ∃ z, args.foldl (fun s x => gT f d x s) S1 = z := ⟨_, rfl⟩
    have HKK := Lib.hid hKK
    have HSS := Lib.hid hSS
    rw [hKK] at hk ⊢
    rw [hSS]
    clear hnv hnw hna hKK hSS
    obtain ⟨a1, a2, a3⟩ := HH.out.al HIw.out (.cells #[.int .i64 kind, .string name, .string field, .string sign, .slice va nv vc, .slice wa nw wc, .int .i64 within, .int .i64 number, .slice aa na ac] 30)
    have HI1 := Lib.hid a1
    have HR1 := Lib.hid a2
    have HS1 := Lib.hid a3
    have HX := Lib.hid (XB.new w [.int .i64 kind, .string name, .string field, .string sign, .slice va nv vc, .slice wa nw wc, .int .i64 within, .int .i64 number, .slice aa na ac] 30)
    clear a1 a2 a3 HIw
    go_enter Tryz.func59, Tryz.ntmps59
    go_wp2_with fail
    ((with_reducible refine (C0.out _ HI1.out).mono ?_); rintro e w1 ⟨rfl, i1, r1⟩)
    have HX1 := Lib.hid (HX.out.same (HH.out.keep r1 HS1.out).1)
    have HI2 := Lib.hid i1
    have HR2 := Lib.hid (HH.out.trans HR1.out r1)
    clear i1 r1 HX HI1 HR1 HS1 C0
    have x8 := HX1.out.2 8 _ rfl
    have xl := HX1.out.1
    go_wp2_with fail
    clear x8 xl
    go_loopw [12] (fun i wr => ∃ (j kk : Nat) (s' : σ), j ≤ na ∧ i = .int .i64 j ∧ Hid (kk + ((args.drop j).map (szN d)).sum = KK) ∧ Hid ((args.drop j).foldl (fun s x => gT f d x s) s' = SS) ∧ I kk s' wr ∧ R w wr) (fun i _ => na - (intOf i).toNat)
    case atStart => exact ⟨0, k + 1, S1, Nat.zero_le _, rfl, Lib.hid (by rw [← HKK.out, List.drop_zero]; omega), HSS, HI2.out, HR2.out⟩
    case round =>
      obtain ⟨j, kk, s', hj, rfl, HK, HS, hIr, hRr⟩ := hrel
      have HIr := Lib.hid hIr
      have HRr := Lib.hid hRr
      clear hIr hRr HI2 HR2 HX1
      by_cases hlt : j < na
      · have hjl : j < args.length := by have := HNA.out; omega
        have hm := List.getElem_mem hjl
        obtain ⟨p, off, rfl, hp, c0, c1, c2, c3, c4, c5, c6, c7, c8⟩ := (HA.out.lowG (HH.out.low HRr.out) HLA.out).at9c hjl
        have HD := Lib.hid (gT_drop f d args j s' hjl)
        have HZ := Lib.hid (szN_drop d args j hjl)
        have HTx := Lib.hid ((HC.out _ hm).lowG (HH.out.low HRr.out) (HL.out.arg (c := .mk ⟨kind, name, field, sign, va, vc, vals, wa, wc, whs, within, number, _, ac⟩ args) hm))
        have HLx : Hid (LwT n d args[j]) := Lib.hid (HL.out.arg (c := .mk ⟨kind, name, field, sign, va, vc, vals, wa, wc, whs, within, number, _, ac⟩ args) hm)
        have HGx : Hid (AllT G d args[j]) := Lib.hid (HG1.out _ hm)
        have C1 := Lib.hid (fun w h1 h3 h4 => HI.out (args[j]'hjl) kk s' w h1 HLx.out HGx.out h3 h4)
        clear hm
        generalize args[j] = x at *
        obtain ⟨zz, hzz⟩ : ∃ z, szN d x = z := ⟨_, rfl⟩
        obtain ⟨s2, hs2⟩ : ∃ z, gT f d x s' = z := ⟨_, rfl⟩
        rw [hzz] at HZ C1
        rw [hs2] at HD C1
        clear hzz hs2
        obtain ⟨xn, xargs⟩ := x
        obtain ⟨xkind, xname, xfield, xsign, xva, xvc, xvals, xwa, xwc, xwhs, xwithin, xnumber, xaa, xac⟩ := xn
        unfold Cn.agg at C1
        simp only [Cn.nd, Cn.args] at *
        obtain ⟨xnv, hxnv⟩ : ∃ z, xvals.length = z := ⟨_, rfl⟩
        obtain ⟨xnw, hxnw⟩ : ∃ z, xwhs.length = z := ⟨_, rfl⟩
        obtain ⟨xna, hxna⟩ : ∃ z, xargs.length = z := ⟨_, rfl⟩
        rw [hxnv] at c4 C1
        rw [hxnw] at c5 C1
        rw [hxna] at c8 C1
        clear hxnv hxnw hxna
        obtain ⟨a1, a2, a3⟩ := HH.out.al HIr.out (.cells #[.int .i64 xkind, .string xname, .string xfield, .string xsign, .slice xva xnv xvc, .slice xwa xnw xwc, .int .i64 xwithin, .int .i64 xnumber, .slice xaa xna xac] 30)
        have HIa := Lib.hid a1
        have HRa := Lib.hid (HH.out.trans HRr.out a2)
        have HTa := Lib.hid (HTx.out.lowG (HH.out.low a2) HLx.out)
        clear a1 a2 a3 HIr HRr HTx
        have hkk : kk + zz ≤ 1000 := by have := HK.out; have := HZ.out; omega
        go_wp2_with fail
        ((with_reducible refine (C1.out _ HTa.out hkk HIa.out).mono ?_); rintro e w5 ⟨rfl, i5, r5⟩)
        have HI5 := Lib.hid i5
        have HR5 := Lib.hid (HH.out.trans HRa.out r5)
        clear i5 r5 HIa HRa HTa c0 c1 c2 c3 c4 c5 c6 c7 c8 hp
        go_wp2_with fail
        go_roundw
        case rel => exact ⟨j + 1, kk + zz, s2, by omega, by go_num, Lib.hid (by have := HK.out; have := HZ.out; omega), Lib.hid (by rw [← HS.out, HD.out]), HI5.out, HR5.out⟩
        case measure => simp [intOf]; omega
      · have e1 : args.drop j = [] := List.drop_eq_nil_of_le (by have := HNA.out; omega)
        have hk9 : kk = KK := by have h := HK.out; rw [e1] at h; simpa using h
        have hs9 : s' = SS := by have h := HS.out; rw [e1] at h; exact h
        clear e1
        rw [hk9, hs9] at HIr
        clear hk9 hs9 HK HS
        go_wp2_with fail
        go_end0
        exact ⟨rfl, HIr.out, HRr.out⟩
end Go.Proofs.YtfdpfkdfglombaaGreatDoor
/- Two lists of strings in boxes, that a function which is called for each condition appends to. -/
set_option linter.unusedVariables false
namespace Go.Proofs.YtfdpfkdfglombaaGreatDoor
open Go.RowKit

abbrev Nms := List ByteArray × List ByteArray
structure NmI (n B q2 q3 k : Nat) (s : Nms) (v2 v3 : Value) (w : World) : Prop where
  b2 : OB w q2 [v2] 44
  b3 : OB w q3 [v3] 44
  o2 : w.ownsRow B 9 1 v2 s.1.length (s.1.map Value.string)
  o3 : w.ownsRow B 9 1 v3 s.2.length (s.2.map Value.string)
  dj : ∀ b, v2.ownBlock = some b → v3.ownBlock ≠ some b
  l2 : s.1.length ≤ 2 * k
  l3 : s.2.length ≤ 2 * k
  e2 : n ≤ q2
  e3 : n ≤ q3
  ne : q2 ≠ q3
  q2B : q2 < B
  q3B : q3 < B
  bs : B ≤ w.heap.size
def NmS (n B q2 q3 k : Nat) (s : Nms) (w : World) : Prop := ∃ v2 v3, NmI n B q2 q3 k s v2 v3 w
def NmF (q2 q3 : Nat) (w : World) (k : Nat) : Prop := k < w.heap.size ∧ k ≠ q2 ∧ k ≠ q3 ∧ (∀ v, OB w q2 [v] 44 → v.ownBlock ≠ some k) ∧ (∀ v, OB w q3 [v] 44 → v.ownBlock ≠ some k)
def NmR (n q2 q3 : Nat) (w w' : World) : Prop := Below n w w' ∧ ∀ k, NmF q2 q3 w k → w'.heap[k]? = w.heap[k]? ∧ NmF q2 q3 w' k
theorem OB.one {w : World} {q : Nat} {u v : Value} {t : TypeId} (h : OB w q [u] t) (h' : OB w q [v] t) : u = v := by
  unfold OB at h h'
  rw [h] at h'
  injection h' with h'
  injection h' with h'
  have := congrArg Array.toList h'
  simpa using this
section
variable {n B q2 q3 k : Nat} {s : Nms} {v2 v3 : Value} {w : World}
theorem NmI.swap (h : NmI n B q2 q3 k s v2 v3 w) : NmI n B q3 q2 k (s.2, s.1) v3 v2 w :=
  ⟨h.b3, h.b2, h.o3, h.o2, fun b e e' => h.dj b e' e, h.l3, h.l2, h.e3, h.e2, fun e => h.ne e.symm, h.q3B, h.q2B, h.bs⟩
theorem NmF.swap {k : Nat} (h : NmF q2 q3 w k) : NmF q3 q2 w k := ⟨h.1, h.2.2.1, h.2.1, h.2.2.2.2, h.2.2.2.1⟩
theorem NmR.swap {w' : World} (h : NmR n q2 q3 w w') : NmR n q3 q2 w w' := ⟨h.1, fun k hk => ⟨(h.2 k hk.swap).1, (h.2 k hk.swap).2.swap⟩⟩
theorem NmR.refl (w : World) : NmR n q2 q3 w w := ⟨Below.refl _ _, fun k h => ⟨rfl, h⟩⟩
theorem NmR.trans {a b c : World} (h : NmR n q2 q3 a b) (h' : NmR n q2 q3 b c) : NmR n q2 q3 a c :=
  ⟨h.1.trans h'.1, fun k hk => ⟨(h'.2 k (h.2 k hk).2).1.trans (h.2 k hk).1, (h'.2 k (h.2 k hk).2).2⟩⟩
theorem NmI.alloc (h : NmI n B q2 q3 k s v2 v3 w) (o : Obj) : NmI n B q2 q3 k s v2 v3 (w.alloc o) :=
  ⟨h.b2.alloc o, h.b3.alloc o, h.o2.alloc o, h.o3.alloc o, h.dj, h.l2, h.l3, h.e2, h.e3, h.ne, h.q2B, h.q3B, by rw [World.size_alloc]; have := h.bs; omega⟩
theorem NmI.mono {k' : Nat} (h : NmI n B q2 q3 k s v2 v3 w) (hk : k ≤ k') : NmI n B q2 q3 k' s v2 v3 w :=
  ⟨h.b2, h.b3, h.o2, h.o3, h.dj, by have := h.l2; omega, by have := h.l3; omega, h.e2, h.e3, h.ne, h.q2B, h.q3B, h.bs⟩
theorem OB.unalloc {q : Nat} {v : Value} {t : TypeId} {o : Obj} (h : OB (w.alloc o) q [v] t) (hq : q < w.heap.size) : OB w q [v] t := by
  unfold OB at h ⊢
  rw [← h]
  exact (Below.heap_alloc w o q hq).symm
theorem NmI.allocF (h : NmI n B q2 q3 k s v2 v3 w) (o : Obj) : NmR n q2 q3 w (w.alloc o) ∧ NmF q2 q3 (w.alloc o) w.heap.size := by
  have hb := h.bs
  have h2 := h.q2B
  have h3 := h.q3B
  have h4 := h.e2
  refine ⟨⟨(Below.refl _ _).alloc (by omega) _, fun j hj => ⟨Below.heap_alloc w o j hj.1, by rw [World.size_alloc]; have := hj.1; omega, hj.2.1, hj.2.2.1, fun v hv => hj.2.2.2.1 v (hv.unalloc (by omega)), fun v hv => hj.2.2.2.2 v (hv.unalloc (by omega))⟩⟩,
    by rw [World.size_alloc]; omega, by omega, by omega, fun v hv e => ?_, fun v hv e => ?_⟩
  · obtain rfl := h.b2.one (hv.unalloc (by omega))
    have := (h.o2.lt _ e).2
    omega
  · obtain rfl := h.b3.one (hv.unalloc (by omega))
    have := (h.o3.lt _ e).2
    omega
theorem nmOk : WkOk (NmS n B q2 q3) (NmR n q2 q3) (NmF q2 q3) n where
  trans := NmR.trans
  low := fun h => h.1
  al := fun ⟨v2, v3, h⟩ o => ⟨⟨v2, v3, h.alloc o⟩, (h.allocF o).1, (h.allocF o).2⟩
  keep := fun h hk => h.2 _ hk
/-- the first list is appended to -/
theorem NmI.app {x : ByteArray} {o : Obj} {g cap k' : Nat} {w8 : World} (h : NmI n B q2 q3 k s v2 v3 w) (own8 : w8.ownsRow B 9 1 (.slice (some ⟨g, 0, none⟩) (s.1.length + 1) cap) (s.1.length + 1) (s.1.map Value.string ++ [.string x])) (g8 : (w.alloc o).grownBy w8 v2.ownBlock)
    (hat : v2.ownBlock = some g ∨ g = (w.alloc o).heap.size) (hk1 : s.1.length + 1 ≤ 2 * k') (hk2 : k ≤ k') :
    OB w8 q2 [v2] 44 ∧ NmI n B q2 q3 k' (s.1 ++ [x], s.2) (.slice (some ⟨g, 0, none⟩) (s.1.length + 1) cap) v3 (w8.setCell ⟨q2, 0, none⟩ (.slice (some ⟨g, 0, none⟩) (s.1.length + 1) cap)) ∧ NmR n q2 q3 w (w8.setCell ⟨q2, 0, none⟩ (.slice (some ⟨g, 0, none⟩) (s.1.length + 1) cap)) := by
  have hb := h.bs
  have h2 := h.q2B
  have h3 := h.q3B
  have h4 := h.e2
  have h5 := h.e3
  have hne := h.ne
  have hB : ∀ b, v2.ownBlock = some b → B ≤ b ∧ b < w.heap.size := fun b e => h.o2.lt b e
  have hB3 : ∀ b, v3.ownBlock = some b → B ≤ b ∧ b < w.heap.size := fun b e => h.o3.lt b e
  have ha := h.alloc o
  have hsz : (w.alloc o).heap.size = w.heap.size + 1 := World.size_alloc _ _
  have n2 : v2.ownBlock ≠ some q2 := fun e => by have := hB _ e; omega
  have n3 : v2.ownBlock ≠ some q3 := fun e => by have := hB _ e; omega
  have ob8 : OB w8 q2 [v2] 44 := ha.b2.grown g8 n2
  have o38 : w8.ownsRow B 9 1 v3 s.2.length (s.2.map Value.string) := ha.o3.kept g8 (by
    cases e : v3.ownBlock with
    | none => exact .inl rfl
    | some b => exact .inr (fun e' => h.dj b e'.symm e))
  obtain ⟨v', hv'⟩ : ∃ z, Value.slice (some ⟨g, 0, none⟩) (s.1.length + 1) cap = z := ⟨_, rfl⟩
  have hvb : v'.ownBlock = some g := by rw [← hv']; rfl
  rw [hv'] at own8 ⊢
  have kk : w8.grownBy (w8.setCell ⟨q2, 0, none⟩ v') (some q2) := ⟨rfl, rfl, rfl, by simp [World.setCell], fun j _ hne => Below.heap_setCell w8 _ _ j (by rintro rfl; exact hne rfl)⟩
  have hgB := own8.lt g hvb
  refine ⟨ob8, ⟨ob8.put 0 v' rfl, (ha.b3.grown g8 n3).grown kk (fun e => by have := Option.some.inj e; omega), ?_, ?_, ?_, ?_, by have := h.l3; simp only; omega, h4, h5, hne, h2, h3, ?_⟩, ?_, ?_⟩
  · have e1 : (s.1 ++ [x]).length = s.1.length + 1 := by simp
    have e2 : (s.1 ++ [x]).map Value.string = s.1.map Value.string ++ [.string x] := by simp
    simp only [e1, e2]
    exact own8.kept kk (.inr (fun e => by rw [hvb] at e; have := Option.some.inj e; omega))
  · refine o38.kept kk ?_
    cases e : v3.ownBlock with
    | none => exact .inl rfl
    | some b => exact .inr (fun e' => by have := hB3 b e; have := Option.some.inj e'; omega)
  · intro b e e'
    rw [hvb] at e
    obtain rfl := Option.some.inj e
    rcases hat with h9 | h9
    · exact h.dj _ h9 e'
    · have := hB3 _ e'
      omega
  · simp only [List.length_append, List.length_cons, List.length_nil]; omega
  · have := g8.size
    simp only [World.setCell, Array.size_modify]
    omega
  · refine Below.setCell (Below.grown ((Below.refl n w).alloc (by omega) o) g8 (by omega) (fun b e => by have := hB b e; omega)) (by show n ≤ q2; omega) _
  · intro j hj
    obtain ⟨j1, j2, j3, j4, j5⟩ := hj
    have e1 : w8.heap[j]? = w.heap[j]? := (g8.block j (by omega) (fun e => j4 v2 h.b2 e.symm)).trans (Below.heap_alloc w o j j1)
    have e2 : (w8.setCell ⟨q2, 0, none⟩ v').heap[j]? = w.heap[j]? := (Below.heap_setCell w8 _ _ j (by simpa using j2)).trans e1
    have hs8 := g8.size
    refine ⟨e2, by simp only [World.setCell, Array.size_modify]; omega, j2, j3, fun v hv e => ?_, fun v hv e => ?_⟩
    · obtain rfl := (ob8.put 0 v' rfl : OB _ q2 [v'] _).one hv
      rw [hvb] at e
      obtain rfl := Option.some.inj e
      rcases hat with h9 | h9
      · exact j4 v2 h.b2 h9
      · omega
    · obtain rfl := ((ha.b3.grown g8 n3).grown kk (fun e => by have := Option.some.inj e; omega) : OB _ q3 [v3] _).one hv
      exact j5 v3 h.b3 e
end
end Go.Proofs.YtfdpfkdfglombaaGreatDoor
/- The functions that gather names: ofRecord, ofEvents, Names$1, NamesOf$1 (printed by gen_namesc.py). -/
set_option linter.unusedVariables false
namespace Go.Proofs.YtfdpfkdfglombaaGreatDoor
open Go.RowKit

theorem infoStrN : (Tryz.prog.info? 9).map (fun i => (i.zero, i.size, i.bytes)) = some (some (.string ⟨#[]⟩), 1, 16) := by kernel_rfl
def evA (n : Nd) : List ByteArray := if 11 ≤ n.kind ∧ n.kind ≤ 14 then [n.name] else []
def evB (n : Nd) : List ByteArray := if n.kind = 14 then [n.field] else []
theorem withinS_any (a b c : Int) (w : World) : Calls Tryz.prog 79 #[.int .i64 a, .int .i64 b, .int .i64 c] w fun e w' => e = .returned (.bool (decide (b ≤ a ∧ a ≤ c))) ∧ w = w' := by
  by_cases h1 : b ≤ a
  · by_cases h2 : a ≤ c
    · rw [decide_eq_true ⟨h1, h2⟩]
      go_enter Tryz.func79, Tryz.ntmps79
      go_wp2
      go_ret
      exact ⟨rfl, rfl⟩
    · rw [decide_eq_false (by omega)]
      go_enter Tryz.func79, Tryz.ntmps79
      go_wp2
      go_ret
      exact ⟨rfl, rfl⟩
  · rw [decide_eq_false (by omega)]
    go_enter Tryz.func79, Tryz.ntmps79
    go_wp2
    go_ret
    exact ⟨rfl, rfl⟩
theorem ofRecord_any (b : Bool) (kind : Int) (name field sign : ByteArray) (va wa aa : Option Addr) (nv vc nw wcp na ac : Nat) (within number : Int) (w : World) (hb : decide (6 ≤ kind ∧ kind ≤ 10) = b) : Calls Tryz.prog 53 #[.agg #[.int .i64 kind, .string name, .string field, .string sign, .slice va nv vc, .slice wa nw wcp, .int .i64 within, .int .i64 number, .slice aa na ac]] w fun e w' => e = .returned (.bool b) ∧ w.alloc (.cells #[.int .i64 kind, .string name, .string field, .string sign, .slice va nv vc, .slice wa nw wcp, .int .i64 within, .int .i64 number, .slice aa na ac] 30) = w' := by
  have C := Lib.hid (fun w => withinS_any kind 6 10 w)
  rw [hb] at C
  clear hb
  go_enter Tryz.func53, Tryz.ntmps53
  go_wp2_with fail
  with_reducible refine (C.out _).mono ?_
  rintro e w1 ⟨rfl, rfl⟩
  go_wp2
  go_ret
  exact ⟨rfl, rfl⟩
theorem ofEvents_any (b : Bool) (kind : Int) (name field sign : ByteArray) (va wa aa : Option Addr) (nv vc nw wcp na ac : Nat) (within number : Int) (w : World) (hb : decide (11 ≤ kind ∧ kind ≤ 14) = b) : Calls Tryz.prog 54 #[.agg #[.int .i64 kind, .string name, .string field, .string sign, .slice va nv vc, .slice wa nw wcp, .int .i64 within, .int .i64 number, .slice aa na ac]] w fun e w' => e = .returned (.bool b) ∧ w.alloc (.cells #[.int .i64 kind, .string name, .string field, .string sign, .slice va nv vc, .slice wa nw wcp, .int .i64 within, .int .i64 number, .slice aa na ac] 30) = w' := by
  have C := Lib.hid (fun w => withinS_any kind 11 14 w)
  rw [hb] at C
  clear hb
  go_enter Tryz.func54, Tryz.ntmps54
  go_wp2_with fail
  with_reducible refine (C.out _).mono ?_
  rintro e w1 ⟨rfl, rfl⟩
  go_wp2
  go_ret
  exact ⟨rfl, rfl⟩
set_option maxRecDepth 100000 in
set_option maxHeartbeats 4000000 in
theorem namesC_any (n B q2 q3 : Nat) (x : Cn) (k : Nat) (s : Nms) (w : World) (hok : x.nd.ok) (hG : 1 ≤ x.nd.kind ∧ x.nd.kind ≤ 14) (hk : k ≤ 1000) (hI : NmS n B q2 q3 k s w) :
    Calls Tryz.prog 52 #[x.agg, .pointer (some ⟨q2, 0, none⟩), .pointer (some ⟨q3, 0, none⟩)] w (WkO (NmS n B q2 q3) (NmR n q2 q3) (k + 1) (nmF s x.nd) w (.int .i64 0)) := by
  obtain ⟨i0, hi, hz0, hz1, hz2⟩ := info_parts infoStrN
  obtain ⟨v2, v3, hI⟩ := hI
  have HE : nmF s x.nd = (s.1 ++ fdN x.nd, (s.2 ++ evA x.nd) ++ evB x.nd) := by rw [List.append_assoc]; rfl
  have h1t : 6 ≤ x.nd.kind ∧ x.nd.kind ≤ 10 → s.1 ++ fdN x.nd = s.1 ++ [x.nd.name] := fun h => by rw [show fdN x.nd = [x.nd.name] from if_pos h]
  have h1f : ¬ (6 ≤ x.nd.kind ∧ x.nd.kind ≤ 10) → s.1 ++ fdN x.nd = s.1 := fun h => by rw [show fdN x.nd = [] from if_neg h, List.append_nil]
  have h2t : 11 ≤ x.nd.kind ∧ x.nd.kind ≤ 14 → s.2 ++ evA x.nd = s.2 ++ [x.nd.name] := fun h => by rw [show evA x.nd = [x.nd.name] from if_pos h]
  have h2f : ¬ (11 ≤ x.nd.kind ∧ x.nd.kind ≤ 14) → s.2 ++ evA x.nd = s.2 := fun h => by rw [show evA x.nd = [] from if_neg h, List.append_nil]
  have h3t : x.nd.kind = 14 → (s.2 ++ evA x.nd) ++ evB x.nd = (s.2 ++ evA x.nd) ++ [x.nd.field] := fun h => by rw [show evB x.nd = [x.nd.field] from if_pos h]
  have h3f : ¬ (x.nd.kind = 14) → (s.2 ++ evA x.nd) ++ evB x.nd = (s.2 ++ evA x.nd) := fun h => by rw [show evB x.nd = [] from if_neg h, List.append_nil]
  rw [HE]
  clear HE
  obtain ⟨S1, hS1⟩ : ∃ z, s.1 ++ fdN x.nd = z := ⟨_, rfl⟩
  obtain ⟨S3, hS3⟩ : ∃ z, (s.2 ++ evA x.nd) ++ evB x.nd = z := ⟨_, rfl⟩
  rw [hS1] at h1t h1f ⊢
  rw [hS3] at h3t h3f ⊢
  obtain ⟨S2, hS2⟩ : ∃ z, s.2 ++ evA x.nd = z := ⟨_, rfl⟩
  rw [hS2] at h2t h2f h3t h3f
  have hS2l : S2.length ≤ s.2.length + 1 := by
    rw [← hS2, List.length_append]
    have : (evA x.nd).length ≤ 1 := by unfold evA; split <;> simp
    omega
  have H1t := Lib.hid h1t
  have H1f := Lib.hid h1f
  have H2t := Lib.hid h2t
  have H2f := Lib.hid h2f
  have H3t := Lib.hid h3t
  have H3f := Lib.hid h3f
  clear hok hS1 hS2 hS3 h1t h1f h2t h2f h3t h3f
  have hs2l := hI.l3
  have hs1l := hI.l2
  unfold Cn.agg
  obtain ⟨nd, args⟩ := x
  obtain ⟨kind, name, field, sign, va, vc, vals, wa, wcp, whs, within, number, aa, ac⟩ := nd
  simp only [Cn.nd, Cn.args] at *
  obtain ⟨nv, hnv⟩ : ∃ z, vals.length = z := ⟨_, rfl⟩
  obtain ⟨nw, hnw⟩ : ∃ z, whs.length = z := ⟨_, rfl⟩
  obtain ⟨na, hna⟩ : ∃ z, args.length = z := ⟨_, rfl⟩
  rw [hnv, hnw, hna]
  clear hnv hnw hna
  obtain ⟨r1, f1⟩ := hI.allocF (.cells #[.int .i64 kind, .string name, .string field, .string sign, .slice va nv vc, .slice wa nw wcp, .int .i64 within, .int .i64 number, .slice aa na ac] 30)
  have HI := Lib.hid ((hI.alloc (.cells #[.int .i64 kind, .string name, .string field, .string sign, .slice va nv vc, .slice wa nw wcp, .int .i64 within, .int .i64 number, .slice aa na ac] 30)).mono (Nat.le_succ k))
  have HR := Lib.hid r1
  have HF := Lib.hid f1
  have HX := Lib.hid (XB.new w [.int .i64 kind, .string name, .string field, .string sign, .slice va nv vc, .slice wa nw wcp, .int .i64 within, .int .i64 number, .slice aa na ac] 30)
  simp only [List.toArray] at HX
  clear hI r1 f1
  go_enter Tryz.func52, Tryz.ntmps52
  go_wp2_with fail
  obtain ⟨b1, hb1⟩ : ∃ z, decide (6 ≤ kind ∧ kind ≤ 10) = z := ⟨_, rfl⟩
  with_reducible refine (ofRecord_any b1 _ _ _ _ _ _ _ _ _ _ _ _ _ _ _ _ hb1).mono ?_
  rintro e w1 ⟨rfl, rfl⟩
  go_upto_if 6 with (fail)
  obtain ⟨r1, f1⟩ := HI.out.allocF (.cells #[.int .i64 kind, .string name, .string field, .string sign, .slice va nv vc, .slice wa nw wcp, .int .i64 within, .int .i64 number, .slice aa na ac] 30)
  have HI' := Lib.hid (HI.out.alloc (.cells #[.int .i64 kind, .string name, .string field, .string sign, .slice va nv vc, .slice wa nw wcp, .int .i64 within, .int .i64 number, .slice aa na ac] 30))
  have HR' := Lib.hid (HR.out.trans r1)
  have HF' := Lib.hid (r1.2 _ HF.out).2
  have HX' := Lib.hid (HX.out.alloc (.cells #[.int .i64 kind, .string name, .string field, .string sign, .slice va nv vc, .slice wa nw wcp, .int .i64 within, .int .i64 number, .slice aa na ac] 30))
  clear r1 f1 HI HR HF HX
  have HI := HI'
  have HR := HR'
  have HF := HF'
  have HX := HX'
  clear HI' HR' HF' HX'
  obtain ⟨p, hp⟩ : ∃ z, w.heap.size = z := ⟨_, rfl⟩
  rw [hp] at HX HF ⊢
  clear hp
  generalize (w.alloc (.cells #[.int .i64 kind, .string name, .string field, .string sign, .slice va nv vc, .slice wa nw wcp, .int .i64 within, .int .i64 number, .slice aa na ac] 30)).alloc (.cells #[.int .i64 kind, .string name, .string field, .string sign, .slice va nv vc, .slice wa nw wcp, .int .i64 within, .int .i64 number, .slice aa na ac] 30) = wb at *
  go_cut [] (fun wx => ∃ u2 u3, NmI n B q2 q3 (k + 1) (S1, s.2) u2 u3 wx ∧ NmR n q2 q3 w wx ∧ XB wx p [.int .i64 kind, .string name, .string field, .string sign, .slice va nv vc, .slice wa nw wcp, .int .i64 within, .int .i64 number, .slice aa na ac] ∧ NmF q2 q3 wx p)
  case first =>
    cases b1 with
    | true =>
      have e9 := H1t.out (of_decide_eq_true hb1)
      subst e9
      have hI0 := HI.out
      have cq := hI0.b2.cell 0 _ rfl
      have cql := hI0.b2.lt
      have xs := HX.out.2 1 _ rfl
      have xl := HX.out.1
      have hO : wb.ownsRow B 9 1 v2 s.1.length (s.1.map Value.string) := hI0.o2
      have hl : s.1.length ≤ 2 * (k + 1) := hI0.l2
      have hbs := hI0.bs
      go_wp2_with (at_builtin; refine wpList_append_lies _ rfl _ _ 44 rfl B 9 i0 _ 1 16 Tryz.underlying44 hi hz0 hz1 hz2 rfl (by decide) _ _ _ rfl (hO.alloc _) ⟨wb.heap.size, 0, none⟩ 1 1 [.string name] rfl rfl ?a1 ?a2 (by omega) ?a3 ?a4 ?a5 _ rfl ?_)
      try case a1 => exact cells_new wb #[.string name] 9
      case a2 => simp [Value.oneCell']
      case a3 => unfold maxLen; omega
      case a4 => omega
      case a5 => first | omega | (simp; omega)
      intro g cap w8 own8 g8 hat8 hlt8
      obtain ⟨o8, i8, r8⟩ := hI0.app (x := name) (k' := k + 1) own8 g8 (by rw [World.size_alloc]; exact hat8) (by omega) (by omega)
      have c8 := o8.cell 0 _ rfl
      have f8 := o8.free 0
      have l8 := o8.lt
      have HI8 := Lib.hid i8
      have HR8 := Lib.hid (HR.out.trans r8)
      have HX8 := Lib.hid (HX.out.same (nmOk (n := n) (B := B) (q2 := q2) (q3 := q3) |>.keep r8 (HF.out)).1)
      have HF8 := Lib.hid (nmOk (n := n) (B := B) (q2 := q2) (q3 := q3) |>.keep r8 (HF.out)).2
      clear own8 g8 hat8 hlt8 o8 i8 r8 cq cql xs xl hO hl hbs hI0
      go_wp2_with fail
      go_meet
      exact ⟨_, _, HI8.out, HR8.out, HX8.out, HF8.out⟩
    | false =>
      have e9 := H1f.out (of_decide_eq_false hb1)
      subst e9
      go_wp2_with fail
      go_meet
      exact ⟨_, _, HI.out, HR.out, HX.out, HF.out⟩
  case rest =>
  obtain ⟨v2, v3, hI, hR, hX, hF⟩ := hcut
  clear HI HR HX HF
  have HI := Lib.hid hI
  have HR := Lib.hid hR
  have HX := Lib.hid hX
  have HF := Lib.hid hF
  clear hI hR hX hF
  generalize wc = wb at *
  clear H1t H1f
  have x0 := HX.out.2 0 _ rfl
  have x1 := HX.out.2 1 _ rfl
  have x2 := HX.out.2 2 _ rfl
  have x3 := HX.out.2 3 _ rfl
  have x4 := HX.out.2 4 _ rfl
  have x5 := HX.out.2 5 _ rfl
  have x6 := HX.out.2 6 _ rfl
  have x7 := HX.out.2 7 _ rfl
  have x8 := HX.out.2 8 _ rfl
  have xl := HX.out.1
  go_wp2_with fail
  obtain ⟨b2, hb2⟩ : ∃ z, decide (11 ≤ kind ∧ kind ≤ 14) = z := ⟨_, rfl⟩
  with_reducible refine (ofEvents_any b2 _ _ _ _ _ _ _ _ _ _ _ _ _ _ _ _ hb2).mono ?_
  rintro e w1 ⟨rfl, rfl⟩
  clear x0 x1 x2 x3 x4 x5 x6 x7 x8 xl
  go_upto_if 13 with (fail)
  obtain ⟨r1, f1⟩ := HI.out.allocF (.cells #[.int .i64 kind, .string name, .string field, .string sign, .slice va nv vc, .slice wa nw wcp, .int .i64 within, .int .i64 number, .slice aa na ac] 30)
  have HI' := Lib.hid (HI.out.alloc (.cells #[.int .i64 kind, .string name, .string field, .string sign, .slice va nv vc, .slice wa nw wcp, .int .i64 within, .int .i64 number, .slice aa na ac] 30))
  have HR' := Lib.hid (HR.out.trans r1)
  have HF' := Lib.hid (r1.2 _ HF.out).2
  have HX' := Lib.hid (HX.out.alloc (.cells #[.int .i64 kind, .string name, .string field, .string sign, .slice va nv vc, .slice wa nw wcp, .int .i64 within, .int .i64 number, .slice aa na ac] 30))
  clear r1 f1 HI HR HF HX
  have HI := HI'
  have HR := HR'
  have HF := HF'
  have HX := HX'
  clear HI' HR' HF' HX'
  generalize wb.alloc (.cells #[.int .i64 kind, .string name, .string field, .string sign, .slice va nv vc, .slice wa nw wcp, .int .i64 within, .int .i64 number, .slice aa na ac] 30) = wb at *
  go_cut [] (fun wx => ∃ u2 u3, NmI n B q2 q3 (k + 1) (S1, S2) u2 u3 wx ∧ NmR n q2 q3 w wx ∧ XB wx p [.int .i64 kind, .string name, .string field, .string sign, .slice va nv vc, .slice wa nw wcp, .int .i64 within, .int .i64 number, .slice aa na ac] ∧ NmF q2 q3 wx p)
  case first =>
    cases b2 with
    | true =>
      have e9 := H2t.out (of_decide_eq_true hb2)
      subst e9
      have hI0 := HI.out.swap
      have cq := hI0.b2.cell 0 _ rfl
      have cql := hI0.b2.lt
      have xs := HX.out.2 1 _ rfl
      have xl := HX.out.1
      have hO : wb.ownsRow B 9 1 v3 s.2.length (s.2.map Value.string) := hI0.o2
      have hl : s.2.length ≤ 2 * (k + 1) := hI0.l2
      have hbs := hI0.bs
      go_wp2_with (at_builtin; refine wpList_append_lies _ rfl _ _ 44 rfl B 9 i0 _ 1 16 Tryz.underlying44 hi hz0 hz1 hz2 rfl (by decide) _ _ _ rfl (hO.alloc _) ⟨wb.heap.size, 0, none⟩ 1 1 [.string name] rfl rfl ?b1 ?b2 (by omega) ?b3 ?b4 ?b5 _ rfl ?_)
      try case b1 => exact cells_new wb #[.string name] 9
      case b2 => simp [Value.oneCell']
      case b3 => unfold maxLen; omega
      case b4 => omega
      case b5 => first | omega | (simp; omega)
      intro g cap w8 own8 g8 hat8 hlt8
      obtain ⟨o8, i8, r8⟩ := hI0.app (x := name) (k' := k + 1) own8 g8 (by rw [World.size_alloc]; exact hat8) (by show s.2.length + 1 ≤ 2 * (k + 1); omega) (by omega)
      have c8 := o8.cell 0 _ rfl
      have f8 := o8.free 0
      have l8 := o8.lt
      have HI8 := Lib.hid i8.swap
      have HR8 := Lib.hid (HR.out.trans r8.swap)
      have HX8 := Lib.hid (HX.out.same (nmOk (n := n) (B := B) (q2 := q2) (q3 := q3) |>.keep r8.swap (HF.out)).1)
      have HF8 := Lib.hid (nmOk (n := n) (B := B) (q2 := q2) (q3 := q3) |>.keep r8.swap (HF.out)).2
      clear own8 g8 hat8 hlt8 o8 i8 r8 cq cql xs xl hO hl hbs hI0
      go_wp2_with fail
      go_meet
      exact ⟨_, _, HI8.out, HR8.out, HX8.out, HF8.out⟩
    | false =>
      have e9 := H2f.out (of_decide_eq_false hb2)
      subst e9
      go_wp2_with fail
      go_meet
      exact ⟨_, _, HI.out, HR.out, HX.out, HF.out⟩
  case rest =>
  obtain ⟨v2, v3, hI, hR, hX, hF⟩ := hcut
  clear HI HR HX HF
  have HI := Lib.hid hI
  have HR := Lib.hid hR
  have HX := Lib.hid hX
  have HF := Lib.hid hF
  clear hI hR hX hF
  generalize wc = wb at *
  clear H2t H2f
  by_cases hb3 : kind = 14
  · have e9 := H3t.out hb3
    subst e9
    have x0 := HX.out.2 0 _ rfl
    have xl := HX.out.1
    have e14 : (kind == 14) = true := by simpa using hb3
    have hI0 := HI.out.swap
    have cq := hI0.b2.cell 0 _ rfl
    have cql := hI0.b2.lt
    have xs := HX.out.2 2 _ rfl
    have xl := HX.out.1
    have hO : wb.ownsRow B 9 1 v3 S2.length (S2.map Value.string) := hI0.o2
    have hl : S2.length ≤ 2 * (k + 1) := hI0.l2
    have hbs := hI0.bs
    go_wp2_with (at_builtin; refine wpList_append_lies _ rfl _ _ 44 rfl B 9 i0 _ 1 16 Tryz.underlying44 hi hz0 hz1 hz2 rfl (by decide) _ _ _ rfl (hO.alloc _) ⟨wb.heap.size, 0, none⟩ 1 1 [.string field] rfl rfl ?c1 ?c2 (by omega) ?c3 ?c4 ?c5 _ rfl ?_)
    try case c1 => exact cells_new wb #[.string field] 9
    case c2 => simp [Value.oneCell']
    case c3 => unfold maxLen; omega
    case c4 => omega
    case c5 => first | omega | (simp; omega)
    intro g cap w8 own8 g8 hat8 hlt8
    obtain ⟨o8, i8, r8⟩ := hI0.app (x := field) (k' := k + 1) own8 g8 (by rw [World.size_alloc]; exact hat8) (by show S2.length + 1 ≤ 2 * (k + 1); omega) (by omega)
    have c8 := o8.cell 0 _ rfl
    have f8 := o8.free 0
    have l8 := o8.lt
    have HI8 := Lib.hid i8.swap
    have HR8 := Lib.hid (HR.out.trans r8.swap)
    have HX8 := Lib.hid (HX.out.same (nmOk (n := n) (B := B) (q2 := q2) (q3 := q3) |>.keep r8.swap (HF.out)).1)
    have HF8 := Lib.hid (nmOk (n := n) (B := B) (q2 := q2) (q3 := q3) |>.keep r8.swap (HF.out)).2
    clear own8 g8 hat8 hlt8 o8 i8 r8 cq cql xs xl hO hl hbs hI0
    go_wp2_with fail
    go_ret
    exact ⟨rfl, ⟨_, _, HI8.out⟩, HR8.out⟩
  · have e9 := H3f.out hb3
    subst e9
    have x0 := HX.out.2 0 _ rfl
    have xl := HX.out.1
    have e14 : (kind == 14) = false := by simpa using hb3
    go_wp2_with fail
    go_ret
    exact ⟨rfl, ⟨_, _, HI.out⟩, HR.out⟩

set_option maxRecDepth 100000 in
set_option maxHeartbeats 4000000 in
theorem namesR_any (n B q2 q3 : Nat) (x : Cn) (k : Nat) (s : Nms) (w : World) (hok : x.nd.ok) (hG : 1 ≤ x.nd.kind ∧ x.nd.kind ≤ 14) (hk : k ≤ 1000) (hI : NmS n B q2 q3 k s w) :
    Calls Tryz.prog 60 #[x.agg, .pointer (some ⟨q2, 0, none⟩), .pointer (some ⟨q3, 0, none⟩)] w (WkO (NmS n B q2 q3) (NmR n q2 q3) (k + 1) (nmF s x.nd) w (.tuple #[])) := by
  obtain ⟨i0, hi, hz0, hz1, hz2⟩ := info_parts infoStrN
  obtain ⟨v2, v3, hI⟩ := hI
  have HE : nmF s x.nd = (s.1 ++ fdN x.nd, (s.2 ++ evA x.nd) ++ evB x.nd) := by rw [List.append_assoc]; rfl
  have h1t : 6 ≤ x.nd.kind ∧ x.nd.kind ≤ 10 → s.1 ++ fdN x.nd = s.1 ++ [x.nd.name] := fun h => by rw [show fdN x.nd = [x.nd.name] from if_pos h]
  have h1f : ¬ (6 ≤ x.nd.kind ∧ x.nd.kind ≤ 10) → s.1 ++ fdN x.nd = s.1 := fun h => by rw [show fdN x.nd = [] from if_neg h, List.append_nil]
  have h2t : 11 ≤ x.nd.kind ∧ x.nd.kind ≤ 14 → s.2 ++ evA x.nd = s.2 ++ [x.nd.name] := fun h => by rw [show evA x.nd = [x.nd.name] from if_pos h]
  have h2f : ¬ (11 ≤ x.nd.kind ∧ x.nd.kind ≤ 14) → s.2 ++ evA x.nd = s.2 := fun h => by rw [show evA x.nd = [] from if_neg h, List.append_nil]
  have h3t : x.nd.kind = 14 → (s.2 ++ evA x.nd) ++ evB x.nd = (s.2 ++ evA x.nd) ++ [x.nd.field] := fun h => by rw [show evB x.nd = [x.nd.field] from if_pos h]
  have h3f : ¬ (x.nd.kind = 14) → (s.2 ++ evA x.nd) ++ evB x.nd = (s.2 ++ evA x.nd) := fun h => by rw [show evB x.nd = [] from if_neg h, List.append_nil]
  rw [HE]
  clear HE
  obtain ⟨S1, hS1⟩ : ∃ z, s.1 ++ fdN x.nd = z := ⟨_, rfl⟩
  obtain ⟨S3, hS3⟩ : ∃ z, (s.2 ++ evA x.nd) ++ evB x.nd = z := ⟨_, rfl⟩
  rw [hS1] at h1t h1f ⊢
  rw [hS3] at h3t h3f ⊢
  obtain ⟨S2, hS2⟩ : ∃ z, s.2 ++ evA x.nd = z := ⟨_, rfl⟩
  rw [hS2] at h2t h2f h3t h3f
  have hS2l : S2.length ≤ s.2.length + 1 := by
    rw [← hS2, List.length_append]
    have : (evA x.nd).length ≤ 1 := by unfold evA; split <;> simp
    omega
  have H1t := Lib.hid h1t
  have H1f := Lib.hid h1f
  have H2t := Lib.hid h2t
  have H2f := Lib.hid h2f
  have H3t := Lib.hid h3t
  have H3f := Lib.hid h3f
  clear hok hS1 hS2 hS3 h1t h1f h2t h2f h3t h3f
  have hs2l := hI.l3
  have hs1l := hI.l2
  unfold Cn.agg
  obtain ⟨nd, args⟩ := x
  obtain ⟨kind, name, field, sign, va, vc, vals, wa, wcp, whs, within, number, aa, ac⟩ := nd
  simp only [Cn.nd, Cn.args] at *
  obtain ⟨nv, hnv⟩ : ∃ z, vals.length = z := ⟨_, rfl⟩
  obtain ⟨nw, hnw⟩ : ∃ z, whs.length = z := ⟨_, rfl⟩
  obtain ⟨na, hna⟩ : ∃ z, args.length = z := ⟨_, rfl⟩
  rw [hnv, hnw, hna]
  clear hnv hnw hna
  obtain ⟨r1, f1⟩ := hI.allocF (.cells #[.int .i64 kind, .string name, .string field, .string sign, .slice va nv vc, .slice wa nw wcp, .int .i64 within, .int .i64 number, .slice aa na ac] 30)
  have HI := Lib.hid ((hI.alloc (.cells #[.int .i64 kind, .string name, .string field, .string sign, .slice va nv vc, .slice wa nw wcp, .int .i64 within, .int .i64 number, .slice aa na ac] 30)).mono (Nat.le_succ k))
  have HR := Lib.hid r1
  have HF := Lib.hid f1
  have HX := Lib.hid (XB.new w [.int .i64 kind, .string name, .string field, .string sign, .slice va nv vc, .slice wa nw wcp, .int .i64 within, .int .i64 number, .slice aa na ac] 30)
  simp only [List.toArray] at HX
  clear hI r1 f1
  go_enter Tryz.func60, Tryz.ntmps60
  go_upto_block 0 with (fail)
  obtain ⟨p, hp⟩ : ∃ z, w.heap.size = z := ⟨_, rfl⟩
  rw [hp] at HX HF ⊢
  clear hp
  generalize w.alloc (.cells #[.int .i64 kind, .string name, .string field, .string sign, .slice va nv vc, .slice wa nw wcp, .int .i64 within, .int .i64 number, .slice aa na ac] 30) = wb at *
  go_cut [] (fun wx => ∃ u2 u3, NmI n B q2 q3 (k + 1) (S1, S2) u2 u3 wx ∧ NmR n q2 q3 w wx ∧ XB wx p [.int .i64 kind, .string name, .string field, .string sign, .slice va nv vc, .slice wa nw wcp, .int .i64 within, .int .i64 number, .slice aa na ac] ∧ NmF q2 q3 wx p)
  case first =>
    have x0 := HX.out.2 0 _ rfl
    have xl0 := HX.out.1
    by_cases hb1 : 6 ≤ kind ∧ kind ≤ 10
    · have e9 := H1t.out hb1
      have e8 := H2f.out (by omega)
      obtain ⟨hb1a, hb1b⟩ := hb1
      subst e9 e8
      have hI0 := HI.out
      have cq := hI0.b2.cell 0 _ rfl
      have cql := hI0.b2.lt
      have xs := HX.out.2 1 _ rfl
      have xl := HX.out.1
      have hO : wb.ownsRow B 9 1 v2 s.1.length (s.1.map Value.string) := hI0.o2
      have hl : s.1.length ≤ 2 * (k + 1) := hI0.l2
      have hbs := hI0.bs
      go_wp2_with (at_builtin; refine wpList_append_lies _ rfl _ _ 44 rfl B 9 i0 _ 1 16 Tryz.underlying44 hi hz0 hz1 hz2 rfl (by decide) _ _ _ rfl (hO.alloc _) ⟨wb.heap.size, 0, none⟩ 1 1 [.string name] rfl rfl ?d1 ?d2 (by omega) ?d3 ?d4 ?d5 _ rfl ?_)
      try case d1 => exact cells_new wb #[.string name] 9
      case d2 => simp [Value.oneCell']
      case d3 => unfold maxLen; omega
      case d4 => omega
      case d5 => first | omega | (simp; omega)
      intro g cap w8 own8 g8 hat8 hlt8
      obtain ⟨o8, i8, r8⟩ := hI0.app (x := name) (k' := k + 1) own8 g8 (by rw [World.size_alloc]; exact hat8) (by omega) (by omega)
      have c8 := o8.cell 0 _ rfl
      have f8 := o8.free 0
      have l8 := o8.lt
      have HI8 := Lib.hid i8
      have HR8 := Lib.hid (HR.out.trans r8)
      have HX8 := Lib.hid (HX.out.same (nmOk (n := n) (B := B) (q2 := q2) (q3 := q3) |>.keep r8 (HF.out)).1)
      have HF8 := Lib.hid (nmOk (n := n) (B := B) (q2 := q2) (q3 := q3) |>.keep r8 (HF.out)).2
      clear own8 g8 hat8 hlt8 o8 i8 r8 cq cql xs xl hO hl hbs hI0
      go_wp2_with fail
      go_meet
      exact ⟨_, _, HI8.out, HR8.out, HX8.out, HF8.out⟩
    · have e9 := H1f.out hb1
      by_cases hb2 : 11 ≤ kind
      · have e8 := H2t.out ⟨hb2, hG.2⟩
        have hb1a : 6 ≤ kind := by omega
        have hb1b : ¬ kind ≤ 10 := by omega
        subst e9 e8
        clear hb1
        have hI0 := HI.out.swap
        have cq := hI0.b2.cell 0 _ rfl
        have cql := hI0.b2.lt
        have xs := HX.out.2 1 _ rfl
        have xl := HX.out.1
        have hO : wb.ownsRow B 9 1 v3 s.2.length (s.2.map Value.string) := hI0.o2
        have hl : s.2.length ≤ 2 * (k + 1) := hI0.l2
        have hbs := hI0.bs
        go_wp2_with (at_builtin; refine wpList_append_lies _ rfl _ _ 44 rfl B 9 i0 _ 1 16 Tryz.underlying44 hi hz0 hz1 hz2 rfl (by decide) _ _ _ rfl (hO.alloc _) ⟨wb.heap.size, 0, none⟩ 1 1 [.string name] rfl rfl ?e1 ?e2 (by omega) ?e3 ?e4 ?e5 _ rfl ?_)
        try case e1 => exact cells_new wb #[.string name] 9
        case e2 => simp [Value.oneCell']
        case e3 => unfold maxLen; omega
        case e4 => omega
        case e5 => first | omega | (simp; omega)
        intro g cap w8 own8 g8 hat8 hlt8
        obtain ⟨o8, i8, r8⟩ := hI0.app (x := name) (k' := k + 1) own8 g8 (by rw [World.size_alloc]; exact hat8) (by show s.2.length + 1 ≤ 2 * (k + 1); omega) (by omega)
        have c8 := o8.cell 0 _ rfl
        have f8 := o8.free 0
        have l8 := o8.lt
        have HI8 := Lib.hid i8.swap
        have HR8 := Lib.hid (HR.out.trans r8.swap)
        have HX8 := Lib.hid (HX.out.same (nmOk (n := n) (B := B) (q2 := q2) (q3 := q3) |>.keep r8.swap (HF.out)).1)
        have HF8 := Lib.hid (nmOk (n := n) (B := B) (q2 := q2) (q3 := q3) |>.keep r8.swap (HF.out)).2
        clear own8 g8 hat8 hlt8 o8 i8 r8 cq cql xs xl hO hl hbs hI0
        go_wp2_with fail
        go_meet
        exact ⟨_, _, HI8.out, HR8.out, HX8.out, HF8.out⟩
      · have e8 := H2f.out (by omega)
        have hb1a : ¬ 6 ≤ kind := by omega
        subst e9 e8
        clear hb1
        go_wp2_with fail
        go_meet
        exact ⟨_, _, HI.out, HR.out, HX.out, HF.out⟩
  case rest =>
  obtain ⟨v2, v3, hI, hR, hX, hF⟩ := hcut
  clear HI HR HX HF
  have HI := Lib.hid hI
  have HR := Lib.hid hR
  have HX := Lib.hid hX
  have HF := Lib.hid hF
  clear hI hR hX hF
  generalize wc = wb at *
  clear H1t H1f H2t H2f
  by_cases hb3 : kind = 14
  · have e9 := H3t.out hb3
    subst e9
    have x0 := HX.out.2 0 _ rfl
    have xl := HX.out.1
    have e14 : (kind == 14) = true := by simpa using hb3
    have hI0 := HI.out.swap
    have cq := hI0.b2.cell 0 _ rfl
    have cql := hI0.b2.lt
    have xs := HX.out.2 2 _ rfl
    have xl := HX.out.1
    have hO : wb.ownsRow B 9 1 v3 S2.length (S2.map Value.string) := hI0.o2
    have hl : S2.length ≤ 2 * (k + 1) := hI0.l2
    have hbs := hI0.bs
    go_wp2_with (at_builtin; refine wpList_append_lies _ rfl _ _ 44 rfl B 9 i0 _ 1 16 Tryz.underlying44 hi hz0 hz1 hz2 rfl (by decide) _ _ _ rfl (hO.alloc _) ⟨wb.heap.size, 0, none⟩ 1 1 [.string field] rfl rfl ?f1 ?f2 (by omega) ?f3 ?f4 ?f5 _ rfl ?_)
    try case f1 => exact cells_new wb #[.string field] 9
    case f2 => simp [Value.oneCell']
    case f3 => unfold maxLen; omega
    case f4 => omega
    case f5 => first | omega | (simp; omega)
    intro g cap w8 own8 g8 hat8 hlt8
    obtain ⟨o8, i8, r8⟩ := hI0.app (x := field) (k' := k + 1) own8 g8 (by rw [World.size_alloc]; exact hat8) (by show S2.length + 1 ≤ 2 * (k + 1); omega) (by omega)
    have c8 := o8.cell 0 _ rfl
    have f8 := o8.free 0
    have l8 := o8.lt
    have HI8 := Lib.hid i8.swap
    have HR8 := Lib.hid (HR.out.trans r8.swap)
    have HX8 := Lib.hid (HX.out.same (nmOk (n := n) (B := B) (q2 := q2) (q3 := q3) |>.keep r8.swap (HF.out)).1)
    have HF8 := Lib.hid (nmOk (n := n) (B := B) (q2 := q2) (q3 := q3) |>.keep r8.swap (HF.out)).2
    clear own8 g8 hat8 hlt8 o8 i8 r8 cq cql xs xl hO hl hbs hI0
    go_wp2_with fail
    go_end0
    exact ⟨rfl, ⟨_, _, HI8.out⟩, HR8.out⟩
  · have e9 := H3f.out hb3
    subst e9
    have x0 := HX.out.2 0 _ rfl
    have xl := HX.out.1
    have e14 : (kind == 14) = false := by simpa using hb3
    go_wp2_with fail
    go_end0
    exact ⟨rfl, ⟨_, _, HI.out⟩, HR.out⟩

end Go.Proofs.YtfdpfkdfglombaaGreatDoor
/- slices.Sort at strings out of the shelf, laid over this translation by the kit (lay-shelf, lay-plain). -/
namespace Go.Proofs
open Go.Shelf
def Tryz.lays190_ren : Go.Shelf.Ren := ⟨fun | 190 => 105 | 125 => 167 | 258 => 166 | 128 => 218 | 129 => 219 | 302 => 209 | 303 => 210 | 304 => 211 | 305 => 212 | 306 => 213 | 307 => 214 | 308 => 215 | 309 => 216 | 310 => 217 | 333 => 257 | 329 => 258 | 330 => 259 | 334 => 260 | 335 => 261 | 336 => 196 | 344 => 277 | n => n, fun | 31 => 44 | 9 => 9 | 3 => 3 | 46 => 139 | 0 => 0 | 51 => 184 | 53 => 187 | 4 => 4 | 183 => 227 | 182 => 226 | 131 => 164 | 5 => 5 | 218 => 256 | 222 => 260 | 228 => 277 | 229 => 80 | n => n, fun | n => n⟩
theorem Tryz.lays190 : Go.Proofs.Lays.n190 Tryz.prog Tryz.lays190_ren := {
  mixed := by kernel_rfl
  f125 := Tryz.func167.trans (congrArg some (by kernel_rfl))
  f128 := Tryz.func218.trans (congrArg some (by kernel_rfl))
  f129 := Tryz.func219.trans (congrArg some (by kernel_rfl))
  f190 := Tryz.func105.trans (congrArg some (by kernel_rfl))
  f258 := Tryz.func166.trans (congrArg some (by kernel_rfl))
  f302 := Tryz.func209.trans (congrArg some (by kernel_rfl))
  f303 := Tryz.func210.trans (congrArg some (by kernel_rfl))
  f304 := Tryz.func211.trans (congrArg some (by kernel_rfl))
  f305 := Tryz.func212.trans (congrArg some (by kernel_rfl))
  f306 := Tryz.func213.trans (congrArg some (by kernel_rfl))
  f307 := Tryz.func214.trans (congrArg some (by kernel_rfl))
  f308 := Tryz.func215.trans (congrArg some (by kernel_rfl))
  f309 := Tryz.func216.trans (congrArg some (by kernel_rfl))
  f310 := Tryz.func217.trans (congrArg some (by kernel_rfl))
  f329 := Tryz.func258.trans (congrArg some (by kernel_rfl))
  f330 := Tryz.func259.trans (congrArg some (by kernel_rfl))
  f333 := Tryz.func257.trans (congrArg some (by kernel_rfl))
  f334 := Tryz.func260.trans (congrArg some (by kernel_rfl))
  f335 := Tryz.func261.trans (congrArg some (by kernel_rfl))
  f336 := Tryz.func196.trans (congrArg some (by kernel_rfl))
  f344 := Tryz.func277.trans (congrArg some (by kernel_rfl))
  t0 := Tryz.underlying0
  a0 := Tryz.isAgg0
  z0 := Tryz.sizeOf0
  v0 := Tryz.zeroValue0
  t3 := Tryz.underlying3
  a3 := Tryz.isAgg3
  z3 := Tryz.sizeOf3
  v3 := Tryz.zeroValue3
  t4 := Tryz.underlying4
  a4 := Tryz.isAgg4
  z4 := Tryz.sizeOf4
  v4 := Tryz.zeroValue4
  t5 := Tryz.underlying5
  a5 := Tryz.isAgg5
  z5 := Tryz.sizeOf5
  v5 := Tryz.zeroValue5
  t9 := Tryz.underlying9
  a9 := Tryz.isAgg9
  z9 := Tryz.sizeOf9
  v9 := Tryz.zeroValue9
  t31 := Tryz.underlying44
  a31 := Tryz.isAgg44
  z31 := Tryz.sizeOf44
  v31 := Tryz.zeroValue44
  t46 := Tryz.underlying139
  a46 := Tryz.isAgg139
  z46 := Tryz.sizeOf139
  v46 := Tryz.zeroValue139
  t51 := Tryz.underlying184
  a51 := Tryz.isAgg184
  z51 := Tryz.sizeOf184
  v51 := Tryz.zeroValue184
  t53 := Tryz.underlying187
  a53 := Tryz.isAgg187
  z53 := Tryz.sizeOf187
  v53 := Tryz.zeroValue187
  t131 := Tryz.underlying164
  a131 := Tryz.isAgg164
  z131 := Tryz.sizeOf164
  v131 := Tryz.zeroValue164
  t182 := Tryz.underlying226
  a182 := Tryz.isAgg226
  z182 := Tryz.sizeOf226
  v182 := Tryz.zeroValue226
  t183 := Tryz.underlying227
  a183 := Tryz.isAgg227
  z183 := Tryz.sizeOf227
  v183 := Tryz.zeroValue227
  t218 := Tryz.underlying256
  a218 := Tryz.isAgg256
  z218 := Tryz.sizeOf256
  v218 := Tryz.zeroValue256
  t222 := Tryz.underlying260
  a222 := Tryz.isAgg260
  z222 := Tryz.sizeOf260
  v222 := Tryz.zeroValue260
  t228 := Tryz.underlying277
  a228 := Tryz.isAgg277
  z228 := Tryz.sizeOf277
  v228 := Tryz.zeroValue277
  t229 := Tryz.underlying80
  a229 := Tryz.isAgg80
  z229 := Tryz.sizeOf80
  v229 := Tryz.zeroValue80 }
open Go.Sort Go.RowKit in
theorem Tryz.slices_Sort_string (blk off cap : Nat) (ss : List (List UInt8)) (w : World) (hH : Holds encStr w blk off ss.toArray) (hblk : blk < w.heap.size) (hsz : ss.length < 4611686018427387904) :
    Calls Tryz.prog 105 #[.slice (some ⟨blk, off, none⟩) ss.length cap] w fun e w' =>
      e = .returned (.tuple #[]) ∧ ∃ n os, w' = grow (putRow encStr (Sort.ahead w n) blk off (ss.mergeSort fun x y => decide (x ≤ y)).toArray) os := Any.slices_Sort_string Tryz.lays190 blk off cap ss w hH hblk hsz
open Go.RowKit Go.Sort in
theorem Tryz.slices_Sort_string_none (p : Option Addr) (cap : Nat) (w : World) :
    Calls Tryz.prog 105 #[.slice p 0 cap] w fun e w' => e = .returned (.tuple #[]) ∧ w' = w := Any.slices_Sort_string_none Tryz.lays190 p cap w
end Go.Proofs
/- Strings sorted, each once: slices.Sort and slices.Compact at a row of one's own; segment.sorted, handref1.sorted. -/
set_option linter.unusedVariables false
namespace Go.Proofs.YtfdpfkdfglombaaGreatDoor
open Go.RowKit Go.Sort Go.Lib

theorem grow_nilC (w : World) : grow w #[] = w := by unfold grow; simp
def bytL (l : List ByteArray) : List (List UInt8) := l.map fun s => s.data.toList
def strL (l : List (List UInt8)) : List ByteArray := l.map fun x => ⟨⟨x⟩⟩
theorem encL (l : List ByteArray) : (bytL l).map encStr = l.map Value.string := by
  unfold bytL
  rw [List.map_map]
  rfl
theorem bytL_strL (l : List (List UInt8)) : bytL (strL l) = l := by
  unfold bytL strL
  rw [List.map_map]
  conv => rhs; rw [← List.map_id l]
  rfl
theorem encS (l : List (List UInt8)) : l.map encStr = (strL l).map Value.string := by rw [← encL, bytL_strL]
/-- sorted; and each once -/
def srtS (l : List ByteArray) : List ByteArray := strL ((bytL l).mergeSort fun x y => decide (x ≤ y))
def cmpS (l : List ByteArray) : List ByteArray := strL (Lib.compact (bytL l))
def srtC (l : List ByteArray) : List ByteArray := cmpS (srtS l)
theorem compactLe (d : Array (List UInt8)) : ∀ m, (Lib.compactUpTo d m).length ≤ m
  | 0 => by simp [Lib.compactUpTo]
  | m + 1 => by
    have := compactLe d m
    rw [Lib.compactUpTo_succ, List.length_append]
    split <;> simp <;> omega
theorem compact_len_le (l : List (List UInt8)) : (Lib.compact l).length ≤ l.length := compactLe _ _
theorem srtS_len (l : List ByteArray) : (srtS l).length = l.length := by simp [srtS, strL, bytL]
theorem sortOwn {B j : Nat} {v : Value} {l : List ByteArray} {w : World} (own : w.ownsRow B 9 1 v j (l.map Value.string)) (hl : l.length = j) (hj : j ≤ 1000) :
    Calls Tryz.prog 105 #[v] w fun e w' => e = .returned (.tuple #[]) ∧ w'.ownsRow B 9 1 v j ((srtS l).map Value.string) ∧ w.grownBy w' v.ownBlock := by
  by_cases h0 : j = 0
  · subst h0
    obtain rfl := List.eq_nil_of_length_eq_zero hl
    have e0 : srtS [] = [] := by simp [srtS, strL, bytL]
    have hs : ∃ a c, v = .slice a 0 c := by
      rcases own.2 with ⟨rfl, -⟩ | ⟨g, cap, cur, rfl, -⟩
      · exact ⟨_, _, rfl⟩
      · exact ⟨_, _, rfl⟩
    obtain ⟨a, c, rfl⟩ := hs
    refine (Tryz.slices_Sort_string_none a c w).mono ?_
    rintro e w' ⟨rfl, rfl⟩
    exact ⟨rfl, by rw [e0]; exact own, ⟨rfl, rfl, rfl, Nat.le_refl _, fun _ _ _ => rfl⟩⟩
  · rcases own.2 with ⟨-, hk0⟩ | ⟨g2, cap2, cur, rfl, hbase, hb2, hn2, hm2, hs2, ht2⟩
    · exact absurd hk0 h0
    · have hsl : (bytL l).length = j := by unfold bytL; rw [List.length_map]; exact hl
      have ht3 : cur.toList.take (bytL l).length = (bytL l).map encStr := by rw [encL, hsl]; simpa using ht2
      have hH := holds_of_block hb2 ht3
      have hg2 : g2 < w.heap.size := (Array.getElem?_eq_some_iff.1 hb2).1
      have C2 := Tryz.slices_Sort_string g2 0 cap2 (bytL l) w hH hg2 (by omega)
      rw [hsl] at C2
      refine C2.mono ?_
      rintro e w' ⟨rfl, n, os, rfl⟩
      have htl : ((bytL l).mergeSort fun x y => decide (x ≤ y)).length = j := by rw [List.length_mergeSort]; exact hsl
      have o := ownsRow_sorted (w := w) (base := B) (g := g2) (cap := cap2) (n := n) (e := 9) (os := os) (cur := cur) (ss := bytL l) (ts := (bytL l).mergeSort fun x y => decide (x ≤ y)) (by rw [htl, hsl]) hbase hb2 (by rw [hsl]; exact hn2) hm2 hs2
      rw [hsl, encS] at o
      exact ⟨rfl, o, grownBy_sorted (w := w) (g := g2) (n := n) (os := os) _⟩
theorem compactOwn {B j : Nat} {v : Value} {l : List ByteArray} {w : World} (own : w.ownsRow B 9 1 v j (l.map Value.string)) (hl : l.length = j) (hj : j ≤ 1000) :
    Calls Tryz.prog 106 #[v] w fun e w' => ∃ v', e = .returned v' ∧ w'.ownsRow B 9 1 v' (cmpS l).length ((cmpS l).map Value.string) ∧ w.grownBy w' v.ownBlock ∧ v'.ownBlock = v.ownBlock := by
  by_cases h0 : j = 0
  · subst h0
    obtain rfl := List.eq_nil_of_length_eq_zero hl
    have e0 : cmpS [] = [] := by simp [cmpS, strL, bytL, Lib.compact, Lib.compactUpTo]
    have hs : ∃ a c, v = .slice a 0 c := by
      rcases own.2 with ⟨rfl, -⟩ | ⟨g, cap, cur, rfl, -⟩
      · exact ⟨_, _, rfl⟩
      · exact ⟨_, _, rfl⟩
    obtain ⟨a, c, rfl⟩ := hs
    refine (Tryz.slices_Compact_string_empty a c w).mono ?_
    rintro e w' ⟨rfl, rfl⟩
    exact ⟨_, rfl, by rw [e0]; exact own, ⟨rfl, rfl, rfl, Nat.le_refl _, fun _ _ _ => rfl⟩, rfl⟩
  · rcases own.2 with ⟨-, hk0⟩ | ⟨g2, cap2, cur, rfl, hbase, hb2, hn2, hm2, hs2, ht2⟩
    · exact absurd hk0 h0
    · have hsl : (bytL l).length = j := by unfold bytL; rw [List.length_map]; exact hl
      have ht3 : cur.toList.take (bytL l).length = (bytL l).map encStr := by rw [encL, hsl]; simpa using ht2
      have hH := holds_of_block hb2 ht3
      have C2 := Tryz.slices_Compact_string g2 0 cap2 (bytL l) w hH (by omega) (by omega)
      have hle : (Lib.compact (bytL l)).length ≤ j := by
        have h := compact_len_le (bytL l)
        omega
      rw [hsl] at C2
      refine C2.mono ?_
      rintro e w' ⟨rfl, q, rfl⟩
      have o := ownsRow_sorted (w := w) (base := B) (g := g2) (cap := cap2) (n := q) (e := 9) (os := #[]) (cur := cur) (ss := bytL l) (ts := Lib.compact (bytL l) ++ List.replicate (j - (Lib.compact (bytL l)).length) []) (by rw [hsl]; simp; omega) hbase hb2 (by rw [hsl]; exact hn2) hm2 hs2
      have g := grownBy_sorted (w := w) (g := g2) (n := q) (os := #[]) (Lib.compact (bytL l) ++ List.replicate (j - (Lib.compact (bytL l)).length) []).toArray
      rw [grow_nilC] at o g
      rw [hsl] at o
      have o2 := own_takeC (Lib.compact (bytL l)).length hle o
      have ez : (cmpS l).length = (Lib.compact (bytL l)).length := by unfold cmpS strL; simp
      rw [Nat.mul_one, List.map_append, List.take_append_of_le_length (by simp), List.take_of_length_le (by simp), encS] at o2
      exact ⟨_, rfl, by rw [ez]; exact o2, g, rfl⟩
theorem cloneOwn {B j : Nat} {v : Value} {l : List ByteArray} {w : World} (own : w.ownsRow B 9 1 v j (l.map Value.string)) (hl : l.length = j) (hj : j ≤ 1000) :
    Calls Tryz.prog 109 #[v] w fun e w' => ∃ v', e = .returned v' ∧ w'.ownsRow w.heap.size 9 1 v' j (l.map Value.string) ∧ Below w.heap.size w w' := by
  by_cases h0 : j = 0
  · subst h0
    obtain rfl := List.eq_nil_of_length_eq_zero hl
    rcases own.2 with ⟨rfl, -⟩ | ⟨g, cap, cur, rfl, -⟩
    · refine (Tryz.slices_Clone_string_nil 0 0 w).mono ?_
      rintro e w' ⟨rfl, rfl⟩
      exact ⟨_, rfl, World.ownsRow_nil _ _ _ _, Below.refl _ _⟩
    · refine (Tryz.slices_Clone_string_zero ⟨g, 0, none⟩ cap w).mono ?_
      rintro e w' ⟨v', rfl, own', -, b⟩
      exact ⟨_, rfl, own', b⟩
  · obtain ⟨g, cap, rfl, hbs, hls⟩ := own.form (by omega)
    refine (Tryz.slices_Clone_string g 0 j cap l w (by omega) (by omega) (fun k hk => ?_)).mono ?_
    · have h := own.cellAt k (by omega)
      rw [List.getElem?_map, List.getElem?_eq_getElem hk] at h
      rw [Nat.zero_add, List.getD_eq_getElem?_getD, List.getElem?_eq_getElem hk]
      exact h
    · rintro e w' ⟨v', rfl, own', -, b⟩
      rw [List.take_of_length_le (by omega)] at own'
      exact ⟨_, rfl, own', b⟩
theorem sortedP_any {B j : Nat} {v : Value} {l : List ByteArray} {w : World} (own : w.ownsRow B 9 1 v j (l.map Value.string)) (hl : l.length = j) (hj : j ≤ 1000) :
    Calls Tryz.prog 55 #[v] w fun e w' => ∃ v', e = .returned v' ∧ w'.ownsRow B 9 1 v' (srtC l).length ((srtC l).map Value.string) ∧ w.grownBy w' v.ownBlock ∧ v'.ownBlock = v.ownBlock := by
  have C1 := Lib.hid (sortOwn own hl hj)
  have HL := Lib.hid (show (srtS l).length = j by rw [srtS_len]; exact hl)
  clear own hl
  go_enter Tryz.func55, Tryz.ntmps55
  go_wp2_with fail
  with_reducible refine C1.out.mono ?_
  rintro e w1 ⟨rfl, own1, g1⟩
  have C2 := Lib.hid (compactOwn own1 HL.out hj)
  have HG := Lib.hid g1
  clear own1 g1 C1
  go_wp2_with fail
  with_reducible refine C2.out.mono ?_
  rintro e w2 ⟨v', rfl, own2, g2, hb⟩
  have HO := Lib.hid own2
  have HG2 := Lib.hid (grown_trans HG.out g2)
  have HB := Lib.hid hb
  clear own2 g2 hb HG C2
  go_wp2_with fail
  go_ret
  exact ⟨_, rfl, HO.out, HG2.out, HB.out⟩
theorem sortedR_any {B j : Nat} {v : Value} {l : List ByteArray} {w : World} (own : w.ownsRow B 9 1 v j (l.map Value.string)) (hl : l.length = j) (hj : j ≤ 1000) :
    Calls Tryz.prog 61 #[v] w fun e w' => ∃ v', e = .returned v' ∧ w'.ownsRow w.heap.size 9 1 v' (srtC l).length ((srtC l).map Value.string) ∧ Below w.heap.size w w' := by
  have C0 := Lib.hid (cloneOwn own hl hj)
  have HL0 := Lib.hid hl
  have HL := Lib.hid (show (srtS l).length = j by rw [srtS_len]; exact hl)
  clear own hl
  go_enter Tryz.func61, Tryz.ntmps61
  go_wp2_with fail
  with_reducible refine C0.out.mono ?_
  rintro e w0 ⟨v0, rfl, own0, b0⟩
  have C1 := Lib.hid (sortOwn own0 HL0.out hj)
  have HB0 := Lib.hid b0
  have HLT := Lib.hid (fun b => own0.lt b)
  clear own0 b0 C0
  go_wp2_with fail
  with_reducible refine C1.out.mono ?_
  rintro e w1 ⟨rfl, own1, g1⟩
  have C2 := Lib.hid (compactOwn own1 HL.out hj)
  have HG := Lib.hid g1
  clear own1 g1 C1
  go_wp2_with fail
  with_reducible refine C2.out.mono ?_
  rintro e w2 ⟨v', rfl, own2, g2, hb⟩
  have HO := Lib.hid own2
  have HG2 := Lib.hid (grown_trans HG.out g2)
  clear own2 g2 hb HG C2
  go_wp2_with fail
  go_ret
  exact ⟨_, rfl, HO.out, HB0.out.grown HG2.out HB0.out.size (fun b e => (HLT.out b e).1)⟩
end Go.Proofs.YtfdpfkdfglombaaGreatDoor
/- segment.Names and handref1.NamesOf (printed by gen_namesf.py). -/
set_option linter.unusedVariables false
namespace Go.Proofs.YtfdpfkdfglombaaGreatDoor
open Go.RowKit

/-- two rows of strings that are left -/
def NamesO (w : World) (E : Int) (l1 l2 : List ByteArray) (e : Ending) (w' : World) : Prop :=
  ∃ v1 v2, e = .returned (.tuple #[v1, v2, .int .i64 E]) ∧ Below w.heap.size w w' ∧ (E = 0 → w'.ownsRow w.heap.size 9 1 v1 l1.length (l1.map Value.string) ∧ w'.ownsRow w.heap.size 9 1 v2 l2.length (l2.map Value.string))
def NamesRO (w : World) (l1 l2 : List ByteArray) (e : Ending) (w' : World) : Prop :=
  ∃ v1 v2, e = .returned (.tuple #[v1, v2]) ∧ Below w.heap.size w w' ∧ w'.ownsRow w.heap.size 9 1 v1 l1.length (l1.map Value.string) ∧ w'.ownsRow w.heap.size 9 1 v2 l2.length (l2.map Value.string)
theorem own_shape {w : World} {b0 C n : Nat} {t : TypeId} {v : Value} {xs : List Value} (own : w.ownsRow b0 t C v n xs) : ∃ a c, v = .slice a n c := by
  rcases own.2 with ⟨rfl, h0⟩ | ⟨g, cap, cur, rfl, -⟩
  · subst h0
    exact ⟨_, _, rfl⟩
  · exact ⟨_, _, rfl⟩
theorem NmI.st {n B q2 q3 k : Nat} {s : Nms} {v2 v3 : Value} {w : World} (h : NmI n B q2 q3 k s v2 v3 w) : NmS n B q2 q3 k s w := ⟨v2, v3, h⟩
theorem own_base {w : World} {b b' size n : Nat} {e : TypeId} {v : Value} {xs : List Value} (h : w.ownsRow b e size v n xs) (hb : b' ≤ b) : w.ownsRow b' e size v n xs := by
  refine ⟨h.1, ?_⟩
  rcases h.2 with h | ⟨g, cap, cur, h1, h2, h3⟩
  · exact .inl h
  · exact .inr ⟨g, cap, cur, h1, by omega, h3⟩
theorem set_grown (w : World) (q : Nat) (v : Value) : w.grownBy (w.setCell ⟨q, 0, none⟩ v) (some q) := ⟨rfl, rfl, rfl, by simp [World.setCell], fun j _ hne => Below.heap_setCell w _ _ j (by rintro rfl; exact hne rfl)⟩
theorem names_end {n B q2 q3 k n2 n3 : Nat} {s : Nms} {v2 v3 r2 r3 : Value} {w5 w6 w7 W : World} {x2 x3 : List Value} (h : NmI n B q2 q3 k s v2 v3 w5) (g2 : w5.drew.grownBy w6 v2.ownBlock) (o2 : w6.ownsRow B 9 1 r2 n2 x2) (p2 : r2.ownBlock = v2.ownBlock)
    (g3 : w6.grownBy w7 v3.ownBlock) (o3 : w7.ownsRow B 9 1 r3 n3 x3) (p3 : r3.ownBlock = v3.ownBlock) (hW : W = (w7.setCell ⟨q2, 0, none⟩ r2).setCell ⟨q3, 0, none⟩ r3) :
    Below n w5 W ∧ W.cell? ⟨q2, 0, none⟩ = some r2 ∧ W.cell? ⟨q3, 0, none⟩ = some r3 ∧ W.ownsRow B 9 1 r2 n2 x2 ∧ W.ownsRow B 9 1 r3 n3 x3 := by
  subst hW
  have hb := h.bs
  have h2 := h.q2B
  have h3 := h.q3B
  have h4 := h.e2
  have h5 := h.e3
  have hne := h.ne
  have d2 : OB w5.drew q2 [v2] 44 := h.b2
  have d3 : OB w5.drew q3 [v3] 44 := h.b3
  have u2 : ∀ b, v2.ownBlock = some b → B ≤ b := fun b e => (h.o2.lt b e).1
  have u3 : ∀ b, v3.ownBlock = some b → B ≤ b := fun b e => (h.o3.lt b e).1
  have i2 := (d2.grown g2 (fun e => by have := u2 _ e; omega)).grown g3 (fun e => by have := u3 _ e; omega)
  have i3 := (d3.grown g2 (fun e => by have := u2 _ e; omega)).grown g3 (fun e => by have := u3 _ e; omega)
  have k2 := set_grown w7 q2 r2
  have k3 := set_grown (w7.setCell ⟨q2, 0, none⟩ r2) q3 r3
  have j2 := (i2.put 0 r2 (cs' := [r2]) rfl).grown k3 (fun e => by have := Option.some.inj e; omega)
  have j3 := (i3.grown k2 (fun e => by have := Option.some.inj e; omega)).put 0 r3 (cs' := [r3]) rfl
  have b6 : Below n w5 w6 := Below.grown (show Below n w5 w5.drew from (Below.refl _ _).drew) g2 (by show n ≤ w5.heap.size; omega) (fun b e => by have := u2 b e; omega)
  have b7 : Below n w5 w7 := Below.grown b6 g3 (by have := g2.size; have e : w5.drew.heap.size = w5.heap.size := rfl; omega) (fun b e => by have := u3 b e; omega)
  have m2 : ∀ q, q < B → r2.ownBlock = none ∨ r2.ownBlock ≠ some q := fun q hq => by
    cases e : r2.ownBlock with
    | none => exact .inl rfl
    | some b => exact .inr (fun e' => by have := u2 b (p2 ▸ e); have := Option.some.inj e'; omega)
  have m3 : ∀ q, q < B → r3.ownBlock = none ∨ r3.ownBlock ≠ some q := fun q hq => by
    cases e : r3.ownBlock with
    | none => exact .inl rfl
    | some b => exact .inr (fun e' => by have := u3 b (p3 ▸ e); have := Option.some.inj e'; omega)
  refine ⟨(b7.setCell (by show n ≤ q2; omega) _).setCell (by show n ≤ q3; omega) _, j2.cell 0 _ rfl, j3.cell 0 _ rfl, ?_, (o3.kept k2 (m3 q2 h2)).kept k3 (m3 q3 h3)⟩
  refine ((o2.kept g3 ?_).kept k2 (m2 q2 h2)).kept k3 (m2 q3 h3)
  cases e : r2.ownBlock with
  | none => exact .inl rfl
  | some b => exact .inr (fun e' => h.dj b (p2 ▸ e) e'.symm)
theorem _root_.Go.World.ownsRow.keptB {w w' : World} {b size n : Nat} {e : TypeId} {v : Value} {xs : List Value} (h : w.ownsRow b e size v n xs) (k : Below w.heap.size w w') : w'.ownsRow b e size v n xs :=
  h.kept (grown_of_below k none) (by cases e : v.ownBlock with
    | none => exact .inl rfl
    | some b => exact .inr (fun e' => by cases e'))
theorem names_endR {n B q2 q3 k n2 n3 : Nat} {s : Nms} {v2 v3 r2 r3 : Value} {w5 w6 w7 W : World} {x2 x3 : List Value} (h : NmI n B q2 q3 k s v2 v3 w5) (b2 : Below w5.drew.heap.size w5.drew w6) (o2 : w6.ownsRow w5.drew.heap.size 9 1 r2 n2 x2)
    (b3 : Below w6.heap.size w6 w7) (o3 : w7.ownsRow w6.heap.size 9 1 r3 n3 x3) (hW : W = (w7.setCell ⟨q2, 0, none⟩ r2).setCell ⟨q3, 0, none⟩ r3) :
    Below n w5 W ∧ W.cell? ⟨q2, 0, none⟩ = some r2 ∧ W.cell? ⟨q3, 0, none⟩ = some r3 ∧ W.ownsRow B 9 1 r2 n2 x2 ∧ W.ownsRow B 9 1 r3 n3 x3 := by
  subst hW
  have hb := h.bs
  have h2 := h.q2B
  have h3 := h.q3B
  have h4 := h.e2
  have h5 := h.e3
  have hne := h.ne
  have hs5 : w5.drew.heap.size = w5.heap.size := rfl
  have d2 : OB w5.drew q2 [v2] 44 := h.b2
  have d3 : OB w5.drew q3 [v3] 44 := h.b3
  have hs6 := b2.size
  have i2 := (d2.below b2).below b3
  have i3 := (d3.below b2).below b3
  have k2 := set_grown w7 q2 r2
  have k3 := set_grown (w7.setCell ⟨q2, 0, none⟩ r2) q3 r3
  have j2 := (i2.put 0 r2 (cs' := [r2]) rfl).grown k3 (fun e => by have := Option.some.inj e; omega)
  have j3 := (i3.grown k2 (fun e => by have := Option.some.inj e; omega)).put 0 r3 (cs' := [r3]) rfl
  have b7 : Below n w5 w7 := ((show Below n w5 w5.drew from (Below.refl _ _).drew).trans (b2.mono (by omega))).trans (b3.mono (by omega))
  have m2 : ∀ q, q < B → r2.ownBlock = none ∨ r2.ownBlock ≠ some q := fun q hq => by
    cases e : r2.ownBlock with
    | none => exact .inl rfl
    | some b => exact .inr (fun e' => by have := (o2.lt b e).1; have := Option.some.inj e'; omega)
  have m3 : ∀ q, q < B → r3.ownBlock = none ∨ r3.ownBlock ≠ some q := fun q hq => by
    cases e : r3.ownBlock with
    | none => exact .inl rfl
    | some b => exact .inr (fun e' => by have := (o3.lt b e).1; have := Option.some.inj e'; omega)
  exact ⟨(b7.setCell (by show n ≤ q2; omega) _).setCell (by show n ≤ q3; omega) _, j2.cell 0 _ rfl, j3.cell 0 _ rfl, own_base (((o2.keptB b3).kept k2 (m2 q2 h2)).kept k3 (m2 q3 h3)) (by omega), own_base ((o3.kept k2 (m3 q2 h2)).kept k3 (m3 q3 h3)) (by omega)⟩
theorem right_of {d : Nat} {c : Cn} (h : cnE d c = 0) : trE d c = 0 ∧ szN d c ≤ 300 := by
  unfold cnE at h
  by_cases h1 : 300 < szN d c ∨ 20 < dpN d c
  · rw [if_pos h1] at h; cases h
  · rw [if_neg h1] at h; exact ⟨h, by omega⟩
set_option maxRecDepth 100000 in
set_option maxHeartbeats 4000000 in
theorem Names_any (d : Nat) (c : Cn) (w : World) (hT : TAt d w c) (hB : Tbs w) :
    Calls Tryz.prog 15 #[c.agg] w (NamesO w (cnE d c) (srtC (fdT d c)) (srtC (evT d c))) := by
  have CC := Lib.hid (fun w h1 h2 => checkCond_any d c w h1 h2)
  have HRT := Lib.hid (fun h => right_of (d := d) (c := c) h)
  have HLW := Lib.hid (show LwT w.heap.size d c from fun g hg => hT.newFar hg)
  have HFA := Lib.hid (fun (h : cnE d c = 0) => Fm.all d c (Fm_of_right d c (right_of h).1).1)
  have HL1 := Lib.hid (fdT_len d c)
  have HL2 := Lib.hid (evT_len d c)
  have CW := Lib.hid (fun n B q2 q3 w h1 h2 h3 h4 h5 => walk2_any (G := fun n => 1 ≤ n.kind ∧ n.kind ≤ 14) (nmOk (n := n) (B := B) (q2 := q2) (q3 := q3)) 52 q2 q3 (enters_of Tryz.func52 (by kernel_rfl) rfl) (fun x k s w a b c d => namesC_any n B q2 q3 x k s w a b c d) d c 0 ([], []) w h1 h2 h3 h4 h5)
  have HGN := Lib.hid (gT_names d c ([], []))
  have HT := Lib.hid hT
  have HB := Lib.hid hB
  obtain ⟨E, hE⟩ : ∃ z, cnE d c = z := ⟨_, rfl⟩
  rw [hE] at CC HRT HFA ⊢
  have HEE := Lib.hid hE
  obtain ⟨F1, hF1⟩ : ∃ z, fdT d c = z := ⟨_, rfl⟩
  obtain ⟨F2, hF2⟩ : ∃ z, evT d c = z := ⟨_, rfl⟩
  rw [hF1] at HL1 HGN ⊢
  rw [hF2] at HL2 HGN ⊢
  rw [HGN.out] at CW
  simp only [List.nil_append] at CW
  clear hE hF1 hF2 hT hB
  unfold Cn.agg at *
  obtain ⟨nd, args⟩ := c
  obtain ⟨kind, name, field, sign, va, vc, vals, wa, wcp, whs, within, number, aa, ac⟩ := nd
  simp only [Cn.nd, Cn.args] at *
  obtain ⟨nv, hnv⟩ : ∃ z, vals.length = z := ⟨_, rfl⟩
  obtain ⟨nw, hnw⟩ : ∃ z, whs.length = z := ⟨_, rfl⟩
  obtain ⟨na, hna⟩ : ∃ z, args.length = z := ⟨_, rfl⟩
  rw [hnv, hnw, hna] at CC CW ⊢
  clear hnv hnw hna
  obtain ⟨w1, hw1⟩ : ∃ z, w.alloc (.cells #[.int .i64 kind, .string name, .string field, .string sign, .slice va nv vc, .slice wa nw wcp, .int .i64 within, .int .i64 number, .slice aa na ac] 30) = z := ⟨_, rfl⟩
  obtain ⟨w2, hw2⟩ : ∃ z, w1.alloc (.cells #[.slice none 0 0] 44) = z := ⟨_, rfl⟩
  obtain ⟨w3, hw3⟩ : ∃ z, w2.alloc (.cells #[.slice none 0 0] 44) = z := ⟨_, rfl⟩
  have hz1 : w1.heap.size = w.heap.size + 1 := by rw [← hw1]; exact World.size_alloc _ _
  have hz2 : w2.heap.size = w.heap.size + 1 + 1 := by rw [← hw2, World.size_alloc, hz1]
  have hz3 : w3.heap.size = w.heap.size + 1 + 1 + 1 := by rw [← hw3, World.size_alloc, hz2]
  have HB3 := Lib.hid (show Below w.heap.size w w3 by rw [← hw3, ← hw2, ← hw1]; exact (((Below.refl _ _).alloc (Nat.le_refl _) _).alloc (by simp) _).alloc (by simp; omega) _)
  have HX := Lib.hid (show XB w3 w.heap.size [.int .i64 kind, .string name, .string field, .string sign, .slice va nv vc, .slice wa nw wcp, .int .i64 within, .int .i64 number, .slice aa na ac] by rw [← hw3, ← hw2, ← hw1]; exact ((XB.new w [.int .i64 kind, .string name, .string field, .string sign, .slice va nv vc, .slice wa nw wcp, .int .i64 within, .int .i64 number, .slice aa na ac] 30).alloc _).alloc _)
  have hb2 : OB w3 (w.heap.size + 1) [.slice none 0 0] 44 := by rw [← hw3, ← hw2, ← hz1]; exact (OB.new w1 [.slice none 0 0] 44).alloc _
  have hb3 : OB w3 (w.heap.size + 1 + 1) [.slice none 0 0] 44 := by rw [← hw3, ← hz2]; exact OB.new w2 [.slice none 0 0] 44
  have HI := Lib.hid (show NmI w.heap.size (w.heap.size + 1 + 1 + 1) (w.heap.size + 1) (w.heap.size + 1 + 1) 0 ([], []) (.slice none 0 0) (.slice none 0 0) w3 from
    ⟨hb2, hb3, World.ownsRow_nil _ _ _ _, World.ownsRow_nil _ _ _ _, fun b e => (by cases e), Nat.le_refl _, Nat.le_refl _, by omega, by omega, by omega, by omega, by omega, by omega⟩)
  have HW1 := Lib.hid hw1
  have HW2 := Lib.hid hw2
  have HW3 := Lib.hid hw3
  have HT3 := Lib.hid (HT.out.below HB3.out)

  have HTb3 := Lib.hid (HB.out.below HB3.out)
  clear hw1 hw2 hw3 hz1 hz2 hz3 hb2 hb3
  have hmf : ∀ (fn : Fn) (first cap : Array Value) (w : World), (Instr.makeFunc fn first cap).run Tryz.prog w = .ok (.func fn first cap) w := fun _ _ _ _ => rfl
  go_enter Tryz.func15, Tryz.ntmps15
  go_upto_region 1 with (fail)
  rw [HW1.out, HW2.out, HW3.out]
  clear HW1 HW2 HW3 w1 w2
  have HBP := Lib.hid (Nat.le_refl w.heap.size)
  obtain ⟨q2, hq2⟩ : ∃ z, w.heap.size + 1 = z := ⟨_, rfl⟩
  obtain ⟨q3, hq3⟩ : ∃ z, q2 + 1 = z := ⟨_, rfl⟩
  obtain ⟨B, hB⟩ : ∃ z, q3 + 1 = z := ⟨_, rfl⟩
  rw [hq2] at HI
  rw [hq3] at HI
  rw [hB] at HI
  rw [hq2, hq3]
  have hBn : w.heap.size ≤ B := by omega
  clear hq2 hq3 hB
  obtain ⟨q0, hq0⟩ : ∃ z, w.heap.size = z := ⟨_, rfl⟩
  rw [hq0] at HX HLW HI ⊢
  have HQ0 := Lib.hid hq0
  clear hq0
  have y0 := HX.out.2 0 _ rfl
  have y1 := HX.out.2 1 _ rfl
  have y2 := HX.out.2 2 _ rfl
  have y3 := HX.out.2 3 _ rfl
  have y4 := HX.out.2 4 _ rfl
  have y5 := HX.out.2 5 _ rfl
  have y6 := HX.out.2 6 _ rfl
  have y7 := HX.out.2 7 _ rfl
  have y8 := HX.out.2 8 _ rfl
  have yl := HX.out.1
  go_wp2_with fail
  ((with_reducible refine (CC.out _ HT3.out HTb3.out).mono ?_); rintro e w4 ⟨rfl, b4⟩)
  have HX4 := Lib.hid (HX.out.below b4)
  have HT4 := Lib.hid (HT3.out.below b4)
  have HB4 := Lib.hid (HB3.out.trans (b4.mono HB3.out.size))
  have hI4 : NmI q0 B q2 q3 0 ([], []) (.slice none 0 0) (.slice none 0 0) w4 :=
    ⟨HI.out.b2.below b4, HI.out.b3.below b4, World.ownsRow_nil _ _ _ _, World.ownsRow_nil _ _ _ _, fun b e => (by cases e), Nat.le_refl _, Nat.le_refl _, HI.out.e2, HI.out.e3, HI.out.ne, HI.out.q2B, HI.out.q3B, Nat.le_trans HI.out.bs b4.size⟩
  have HI4 := Lib.hid hI4
  clear b4 HX HT3 HB3 HI hI4 CC y0 y1 y2 y3 y4 y5 y6 y7 y8 yl
  by_cases h0 : E = 0
  · subst h0
    have hsz := (HRT.out rfl).2
    have HFA1 := Lib.hid (HFA.out rfl)
    have y0 := HX4.out.2 0 _ rfl
    have y1 := HX4.out.2 1 _ rfl
    have y2 := HX4.out.2 2 _ rfl
    have y3 := HX4.out.2 3 _ rfl
    have y4 := HX4.out.2 4 _ rfl
    have y5 := HX4.out.2 5 _ rfl
    have y6 := HX4.out.2 6 _ rfl
    have y7 := HX4.out.2 7 _ rfl
    have y8 := HX4.out.2 8 _ rfl
    have yl := HX4.out.1
    go_wp2_with fail
    ((with_reducible refine (CW.out q0 B q2 q3 _ HT4.out HLW.out HFA1.out (by omega) HI4.out.st).mono ?_); rintro e w5 ⟨rfl, ⟨v2, v3, i5⟩, r5⟩)
    simp only [Nat.zero_add] at i5
    have HI5 := Lib.hid i5
    have HB5 := Lib.hid (HB4.out.trans (show Below w.heap.size w4 w5 by rw [HQ0.out]; exact r5.1))
    have HN := Lib.hid (show F1.length ≤ 1000 ∧ F2.length ≤ 1000 by have := HL1.out; have := HL2.out; omega)
    clear i5 r5 CW HFA HFA1 HX4 HT4 HB4 HI4 y0 y1 y2 y3 y4 y5 y6 y7 y8 yl HGN HL1 HL2 hsz HRT HLW
    go_upto_region 5 with (fail)
    have h1 := HI5.out.b2.cell 0 _ rfl
    have h2 := HI5.out.b3.cell 0 _ rfl
    have C2 := Lib.hid (fun (w' : World) (o : w'.ownsRow B 9 1 v2 F1.length (F1.map Value.string)) => sortedP_any o rfl HN.out.1)
    have C3 := Lib.hid (fun (w' : World) (o : w'.ownsRow B 9 1 v3 F2.length (F2.map Value.string)) => sortedP_any o rfl HN.out.2)
    have HO2 := Lib.hid (show w5.drew.ownsRow B 9 1 v2 F1.length (F1.map Value.string) from HI5.out.o2)
    have HO3 := Lib.hid (show w5.drew.ownsRow B 9 1 v3 F2.length (F2.map Value.string) from HI5.out.o3)
    have K3 := Lib.hid (fun (w' : World) (g : w5.drew.grownBy w' v2.ownBlock) => (HO3.out.kept g (by
      cases e : v3.ownBlock with
      | none => exact .inl rfl
      | some b => exact .inr (fun e' => HI5.out.dj b e'.symm e)) : w'.ownsRow B 9 1 v3 F2.length (F2.map Value.string)))
    have N2 : v2.ownBlock ≠ some q2 := fun e => by have := (HI5.out.o2.lt _ e).1; have := HI5.out.q2B; omega
    have N3 : v2.ownBlock ≠ some q3 := fun e => by have := (HI5.out.o2.lt _ e).1; have := HI5.out.q3B; omega
    have M2 : v3.ownBlock ≠ some q2 := fun e => by have := (HI5.out.o3.lt _ e).1; have := HI5.out.q2B; omega
    have M3 : v3.ownBlock ≠ some q3 := fun e => by have := (HI5.out.o3.lt _ e).1; have := HI5.out.q3B; omega
    have HNN := Lib.hid (And.intro (And.intro N2 N3) (And.intro M2 M3))
    have D2 := Lib.hid (show OB w5.drew q2 [v2] 44 from HI5.out.b2)
    have D3 := Lib.hid (show OB w5.drew q3 [v3] 44 from HI5.out.b3)
    have hn23 : ¬ q2 = q3 := HI5.out.ne
    have hn32 : ¬ q3 = q2 := fun e => hn23 e.symm
    clear N2 N3 M2 M3
    go_region_with (go_at_call 55; first | ((with_reducible refine (C2.out _ HO2.out).mono ?_); rintro e w6 ⟨r2, rfl, o2, g2, p2⟩; obtain ⟨a2, c2, rfl⟩ := own_shape o2; have E3 := D3.out.grown g2 (fun e => HNN.out.1.2 e); have h3 := E3.cell 0 _ rfl) | ((with_reducible refine (C3.out _ (K3.out _ g2)).mono ?_); rintro e w7 ⟨r3, rfl, o3, g3, p3⟩; obtain ⟨a3, c3, rfl⟩ := own_shape o3; have I2 := (D2.out.grown g2 (fun e => HNN.out.1.1 e)).grown g3 (fun e => HNN.out.2.1 e); have I3 := (D3.out.grown g2 (fun e => HNN.out.1.2 e)).grown g3 (fun e => HNN.out.2.2 e); have i1 := I2.cell 0 _ rfl; have i2 := I2.free 0; have i3 := I2.lt; have i4 := I3.cell 0 _ rfl; have i5 := I3.free 0; have i6 := I3.lt))
    all_goals
      obtain ⟨z1, z2, z3, z4, z5⟩ := names_end HI5.out g2 o2 p2 g3 o3 p3 rfl
      have HZ1 := Lib.hid (HB5.out.trans (show Below w.heap.size w5 _ by rw [HQ0.out]; exact z1))
      have HZ4 := Lib.hid (own_base z4 hBn)
      have HZ5 := Lib.hid (own_base z5 hBn)
      go_wp2_with fail
      refine bodyPost_ret (v := .tuple #[.slice a2 (srtC F1).length c2, .slice a3 (srtC F2).length c3, .int .i64 0]) (by simp [results, Tryz.results15, go_sem, z2, z3]) rfl ?_
      exact ⟨_, _, rfl, HZ1.out, fun _ => ⟨HZ4.out, HZ5.out⟩⟩
  · have e4 : (E != 0) = true := by simpa using h0
    have H0 := Lib.hid h0
    have s1 := HI4.out.b2.cell 0 _ rfl
    have s2 := HI4.out.b2.free 0
    have s3 := HI4.out.b2.lt
    have s4 := HI4.out.b3.cell 0 _ rfl
    have s5 := HI4.out.b3.free 0
    have s6 := HI4.out.b3.lt
    have hn23 : ¬ q2 = q3 := HI4.out.ne
    have hn32 : ¬ q3 = q2 := fun e => hn23 e.symm
    have k3 := set_grown (w4.setCell ⟨q2, 0, none⟩ (.slice none 0 0)) q3 (.slice none 0 0)
    have z2 := ((HI4.out.b2.put 0 (.slice none 0 0) (cs' := [.slice none 0 0]) rfl).grown k3 (fun e => hn32 (Option.some.inj e))).cell 0 _ rfl
    have z3 := ((HI4.out.b3.grown (set_grown w4 q2 (.slice none 0 0)) (fun e => hn23 (Option.some.inj e))).put 0 (.slice none 0 0) (cs' := [.slice none 0 0]) rfl).cell 0 _ rfl
    have HZ1 := Lib.hid (show Below w.heap.size w ((w4.setCell ⟨q2, 0, none⟩ (.slice none 0 0)).setCell ⟨q3, 0, none⟩ (.slice none 0 0)) from (HB4.out.setCell (by show w.heap.size ≤ q2; rw [HQ0.out]; exact HI4.out.e2) _).setCell (by show w.heap.size ≤ q3; rw [HQ0.out]; exact HI4.out.e3) _)
    clear h0 CW HFA HRT HX4 HT4 HB4 HI4 k3
    go_wp2_with fail
    refine bodyPost_ret (v := .tuple #[.slice none 0 0, .slice none 0 0, .int .i64 E]) (by simp [results, Tryz.results15, go_sem, z2, z3]) rfl ?_
    exact ⟨_, _, rfl, HZ1.out, fun h => absurd h H0.out⟩
end Go.Proofs.YtfdpfkdfglombaaGreatDoor
/- handref1.NamesOf (printed by gen_namesf.py). -/
set_option linter.unusedVariables false
namespace Go.Proofs.YtfdpfkdfglombaaGreatDoor
open Go.RowKit

set_option maxRecDepth 100000 in
set_option maxHeartbeats 4000000 in
theorem NamesOf_any (d : Nat) (c : Cn) (w : World) (hT : TAt d w c) (hF : Fm d c) (hsz : szN d c ≤ 300) :
    Calls Tryz.prog 19 #[c.agg] w (NamesRO w (srtC (fdT d c)) (srtC (evT d c))) := by
  have HLW := Lib.hid (show LwT w.heap.size d c from fun g hg => hT.newFar hg)
  have HFA := Lib.hid (Fm.all d c hF)
  have HL1 := Lib.hid (fdT_len d c)
  have HL2 := Lib.hid (evT_len d c)
  have CW := Lib.hid (fun n B q2 q3 w h1 h2 h3 h4 h5 => each2_any (G := fun n => 1 ≤ n.kind ∧ n.kind ≤ 14) (nmOk (n := n) (B := B) (q2 := q2) (q3 := q3)) 60 q2 q3 (enters_of Tryz.func60 (by kernel_rfl) rfl) (fun x k s w a b c d => namesR_any n B q2 q3 x k s w a b c d) d c 0 ([], []) w h1 h2 h3 h4 h5)
  have HGN := Lib.hid (gT_names d c ([], []))
  have HT := Lib.hid hT
  obtain ⟨F1, hF1⟩ : ∃ z, fdT d c = z := ⟨_, rfl⟩
  obtain ⟨F2, hF2⟩ : ∃ z, evT d c = z := ⟨_, rfl⟩
  rw [hF1] at HL1 HGN ⊢
  rw [hF2] at HL2 HGN ⊢
  rw [HGN.out] at CW
  simp only [List.nil_append] at CW
  clear hF1 hF2 hT hF
  unfold Cn.agg at *
  obtain ⟨nd, args⟩ := c
  obtain ⟨kind, name, field, sign, va, vc, vals, wa, wcp, whs, within, number, aa, ac⟩ := nd
  simp only [Cn.nd, Cn.args] at *
  obtain ⟨nv, hnv⟩ : ∃ z, vals.length = z := ⟨_, rfl⟩
  obtain ⟨nw, hnw⟩ : ∃ z, whs.length = z := ⟨_, rfl⟩
  obtain ⟨na, hna⟩ : ∃ z, args.length = z := ⟨_, rfl⟩
  rw [hnv, hnw, hna] at CW ⊢
  clear hnv hnw hna
  obtain ⟨w1, hw1⟩ : ∃ z, w.alloc (.cells #[.int .i64 kind, .string name, .string field, .string sign, .slice va nv vc, .slice wa nw wcp, .int .i64 within, .int .i64 number, .slice aa na ac] 30) = z := ⟨_, rfl⟩
  obtain ⟨w2, hw2⟩ : ∃ z, w1.alloc (.cells #[.slice none 0 0] 44) = z := ⟨_, rfl⟩
  obtain ⟨w3, hw3⟩ : ∃ z, w2.alloc (.cells #[.slice none 0 0] 44) = z := ⟨_, rfl⟩
  have hz1 : w1.heap.size = w.heap.size + 1 := by rw [← hw1]; exact World.size_alloc _ _
  have hz2 : w2.heap.size = w.heap.size + 1 + 1 := by rw [← hw2, World.size_alloc, hz1]
  have hz3 : w3.heap.size = w.heap.size + 1 + 1 + 1 := by rw [← hw3, World.size_alloc, hz2]
  have HB3 := Lib.hid (show Below w.heap.size w w3 by rw [← hw3, ← hw2, ← hw1]; exact (((Below.refl _ _).alloc (Nat.le_refl _) _).alloc (by simp) _).alloc (by simp; omega) _)
  have HX := Lib.hid (show XB w3 w.heap.size [.int .i64 kind, .string name, .string field, .string sign, .slice va nv vc, .slice wa nw wcp, .int .i64 within, .int .i64 number, .slice aa na ac] by rw [← hw3, ← hw2, ← hw1]; exact ((XB.new w [.int .i64 kind, .string name, .string field, .string sign, .slice va nv vc, .slice wa nw wcp, .int .i64 within, .int .i64 number, .slice aa na ac] 30).alloc _).alloc _)
  have hb2 : OB w3 (w.heap.size + 1) [.slice none 0 0] 44 := by rw [← hw3, ← hw2, ← hz1]; exact (OB.new w1 [.slice none 0 0] 44).alloc _
  have hb3 : OB w3 (w.heap.size + 1 + 1) [.slice none 0 0] 44 := by rw [← hw3, ← hz2]; exact OB.new w2 [.slice none 0 0] 44
  have HI := Lib.hid (show NmI w.heap.size (w.heap.size + 1 + 1 + 1) (w.heap.size + 1) (w.heap.size + 1 + 1) 0 ([], []) (.slice none 0 0) (.slice none 0 0) w3 from
    ⟨hb2, hb3, World.ownsRow_nil _ _ _ _, World.ownsRow_nil _ _ _ _, fun b e => (by cases e), Nat.le_refl _, Nat.le_refl _, by omega, by omega, by omega, by omega, by omega, by omega⟩)
  have HW1 := Lib.hid hw1
  have HW2 := Lib.hid hw2
  have HW3 := Lib.hid hw3
  have HT3 := Lib.hid (HT.out.below HB3.out)

  clear hw1 hw2 hw3 hz1 hz2 hz3 hb2 hb3
  have hmf : ∀ (fn : Fn) (first cap : Array Value) (w : World), (Instr.makeFunc fn first cap).run Tryz.prog w = .ok (.func fn first cap) w := fun _ _ _ _ => rfl
  go_enter Tryz.func19, Tryz.ntmps19
  go_upto_region 1 with (fail)
  rw [HW1.out, HW2.out, HW3.out]
  clear HW1 HW2 HW3 w1 w2
  obtain ⟨q2, hq2⟩ : ∃ z, w.heap.size + 1 = z := ⟨_, rfl⟩
  obtain ⟨q3, hq3⟩ : ∃ z, q2 + 1 = z := ⟨_, rfl⟩
  obtain ⟨B, hB⟩ : ∃ z, q3 + 1 = z := ⟨_, rfl⟩
  rw [hq2] at HI
  rw [hq3] at HI
  rw [hB] at HI
  rw [hq2, hq3]
  have hBn : w.heap.size ≤ B := by omega
  clear hq2 hq3 hB
  obtain ⟨q0, hq0⟩ : ∃ z, w.heap.size = z := ⟨_, rfl⟩
  rw [hq0] at HX HLW HI ⊢
  have HQ0 := Lib.hid hq0
  clear hq0
  have y0 := HX.out.2 0 _ rfl
  have y1 := HX.out.2 1 _ rfl
  have y2 := HX.out.2 2 _ rfl
  have y3 := HX.out.2 3 _ rfl
  have y4 := HX.out.2 4 _ rfl
  have y5 := HX.out.2 5 _ rfl
  have y6 := HX.out.2 6 _ rfl
  have y7 := HX.out.2 7 _ rfl
  have y8 := HX.out.2 8 _ rfl
  have yl := HX.out.1
  go_wp2_with fail
  ((with_reducible refine (CW.out q0 B q2 q3 _ HT3.out HLW.out HFA.out (by omega) HI.out.st).mono ?_); rintro e w5 ⟨rfl, ⟨v2, v3, i5⟩, r5⟩)
  simp only [Nat.zero_add] at i5
  have HI5 := Lib.hid i5
  have HB5 := Lib.hid (HB3.out.trans (show Below w.heap.size w3 w5 by rw [HQ0.out]; exact r5.1))
  have HN := Lib.hid (show F1.length ≤ 1000 ∧ F2.length ≤ 1000 by have := HL1.out; have := HL2.out; omega)
  clear i5 r5 CW HFA HX HB3 HI y0 y1 y2 y3 y4 y5 y6 y7 y8 yl HGN HL1 HL2 hsz HLW HT3
  go_upto_region 2 with (fail)
  have h1 := HI5.out.b2.cell 0 _ rfl
  have h2 := HI5.out.b3.cell 0 _ rfl
  have C2 := Lib.hid (fun (w' : World) (o : w'.ownsRow B 9 1 v2 F1.length (F1.map Value.string)) => sortedR_any o rfl HN.out.1)
  have C3 := Lib.hid (fun (w' : World) (o : w'.ownsRow B 9 1 v3 F2.length (F2.map Value.string)) => sortedR_any o rfl HN.out.2)
  have HO2 := Lib.hid (show w5.drew.ownsRow B 9 1 v2 F1.length (F1.map Value.string) from HI5.out.o2)
  have HO3 := Lib.hid (show w5.drew.ownsRow B 9 1 v3 F2.length (F2.map Value.string) from HI5.out.o3)
  have D2 := Lib.hid (show OB w5.drew q2 [v2] 44 from HI5.out.b2)
  have D3 := Lib.hid (show OB w5.drew q3 [v3] 44 from HI5.out.b3)
  have hn23 : ¬ q2 = q3 := HI5.out.ne
  have hn32 : ¬ q3 = q2 := fun e => hn23 e.symm
  have K3 := Lib.hid (fun (w' : World) (b : Below w5.drew.heap.size w5.drew w') => (HO3.out.keptB b : w'.ownsRow B 9 1 v3 F2.length (F2.map Value.string)))
  have K4 := Lib.hid (fun (w' : World) (b : Below w5.drew.heap.size w5.drew w') => (D3.out.below b).cell 0 _ rfl)
  have K5 := Lib.hid (fun (w' w'' : World) (b : Below w5.drew.heap.size w5.drew w') (b' : Below w'.heap.size w' w'') => (show OB w'' q2 [v2] 44 ∧ OB w'' q3 [v3] 44 from ⟨(D2.out.below b).below b', (D3.out.below b).below b'⟩))
  clear D2 D3
  go_region_with (go_at_call 61; first | ((with_reducible refine (C2.out _ HO2.out).mono ?_); rintro e w6 ⟨r2, rfl, o2, b2⟩; obtain ⟨a2, c2, rfl⟩ := own_shape o2; have h3 := K4.out _ b2; have HB2 := Lib.hid b2; have HO6 := Lib.hid o2; clear b2 o2) | ((with_reducible refine (C3.out _ (K3.out _ HB2.out)).mono ?_); rintro e w7 ⟨r3, rfl, o3, b3⟩; obtain ⟨a3, c3, rfl⟩ := own_shape o3; have i1 := (K5.out _ _ HB2.out b3).1.cell 0 _ rfl; have i2 := (K5.out _ _ HB2.out b3).1.free 0; have i3 := (K5.out _ _ HB2.out b3).1.lt; have i4 := (K5.out _ _ HB2.out b3).2.cell 0 _ rfl; have i5 := (K5.out _ _ HB2.out b3).2.free 0; have i6 := (K5.out _ _ HB2.out b3).2.lt; have HB3 := Lib.hid b3; have HO7 := Lib.hid o3; clear b3 o3))
  all_goals
    obtain ⟨z1, z2, z3, z4, z5⟩ := names_endR HI5.out HB2.out HO6.out HB3.out HO7.out rfl
    have HZ1 := Lib.hid (HB5.out.trans (show Below w.heap.size w5 _ by rw [HQ0.out]; exact z1))
    have HZ4 := Lib.hid (own_base z4 hBn)
    have HZ5 := Lib.hid (own_base z5 hBn)
    go_wp2_with fail
    refine bodyPost_ret (v := .tuple #[.slice a2 (srtC F1).length c2, .slice a3 (srtC F2).length c3]) (by simp [results, Tryz.results19, go_sem, z2, z3]) rfl ?_
    exact ⟨_, _, rfl, HZ1.out, HZ4.out, HZ5.out⟩
end Go.Proofs.YtfdpfkdfglombaaGreatDoor
