/- slices.Insert of one cell. -/
import Derived.Test.YtmhnnbffhciinaaDoorFold
import Derived.Lib.AppendZerosOnto
import Derived.Lib.Overlaps
import Derived.Laws.CopyRow
import Derived.Laws.CopyOwn
import Derived.Deep.AppendLies
import Derived.Shelf.Spec.SlicesInsert
set_option linter.unusedVariables false
namespace Go.Proofs.YtmhnnbffhciinaaDoor
open Go.RowKit Go.Lib

/-- what putting in leaves -/
def InsOut (b0 : Nat) (w : World) (v : Value) (l : List Ce) (e : Ending) (w' : World) : Prop := ∃ g n cap, e = .returned (.slice (some ⟨g, 0, none⟩) n cap) ∧ l.length = n ∧ LK b0 w' (.slice (some ⟨g, 0, none⟩) n cap) l ∧ w.grownBy w' v.ownBlock ∧ (v.ownBlock = some g ∨ w.heap.size ≤ g)
theorem cells_of {w : World} {p : Nat} {cs : List Value} {t : TypeId} {fr : Nat × Nat} (h : w.heap[p]? = some (.cells cs.toArray t fr)) : ∀ j u, cs[j]? = some u → w.cell? ((⟨p, 0, none⟩ : Addr).add j) = some u := by
  intro j u hj
  rw [Addr.add_lit]
  simp only [World.cell?, h, Nat.zero_add, List.getElem?_toArray]
  rw [hj]
  rfl
theorem KyF.row {w w' : World} {tv : Option Addr} {keys : List ByteArray} {b0 n C : Nat} {t : TypeId} {v : Value} {xs : List Value} (h : KyF w tv keys) (own : w.ownsRow b0 t C v n xs) (ht : t ≠ 9) (hb : w.grownBy w' v.ownBlock) : KyF w' tv keys := by
  refine h.kept hb (fun p cur fr e hc => ?_)
  rcases own.2 with ⟨rfl, _⟩ | ⟨g, cap, cur', rfl, _, hg, _⟩
  · cases e
  · obtain rfl := Option.some.inj e
    rw [hg] at hc
    injection hc with hc
    injection hc with _ hc _
    exact ht hc
theorem LK.ins {b0 n : Nat} {w w' : World} {v v' : Value} {l l' : List Ce} (h : LK b0 w v l) (hl : ∀ y ∈ l', KyF w y.tv y.keys) (hn : l'.length = n) (own' : w'.ownsRow b0 44 3 v' n (l'.flatMap Ce.cells)) (k : w.grownBy w' v.ownBlock) : LK b0 w' v' l' :=
  ⟨by rw [hn]; exact own', fun y hy => (hl y hy).row h.own ce_ty k, Nat.le_trans h.sz k.size⟩
set_option maxRecDepth 100000 in
set_option maxHeartbeats 8000000 in
theorem insert_end (b0 : Nat) (w : World) (a : Option Addr) (n c vb : Nat) (o : List Ce) (x : Ce) (h : LK b0 w (.slice a n c) o) (hn : o.length = n) (hn1 : n ≤ 16) (hx : w.heap[vb]? = some (.cells x.cells.toArray 44 (0, 0))) (hk : KyF w x.tv x.keys) :
    Calls Tryd.prog 34 #[.slice a n c, .int .i64 n, .slice (some ⟨vb, 0, none⟩) 1 1] w (InsOut b0 w (.slice a n c) (o.take n ++ x :: o.drop n)) := by
  obtain ⟨i0, hi, hz0, hz1, hz2⟩ := info_parts infoCe
  have e1 : o.take n ++ x :: o.drop n = o ++ [x] := by rw [List.take_of_length_le (by omega), List.drop_of_length_le (by omega)]
  rw [e1]
  have HX := Lib.hid (cells_of hx)
  have HK := Lib.hid hk
  have HN := Lib.hid hn
  have HL := Lib.hid h
  have own := h.own
  have hsz := h.sz
  rw [hn] at own
  clear h hn hx hk e1
  obtain ⟨tv, tc, ks, many, cents⟩ := x
  simp only [Ce.cells] at HX
  obtain ⟨nk, hnk⟩ : ∃ z, ks.length = z := ⟨_, rfl⟩
  rw [hnk] at HX
  have HNK := Lib.hid hnk
  clear hnk
  obtain ⟨ha, hcap⟩ : (a = none → n = 0 ∧ c = 0) ∧ (∀ g, a = some g → n ≤ c ∧ g.off = 0 ∧ g.spot = none ∧ c ≤ maxLen) := by
    rcases own.2 with ⟨e, h0⟩ | ⟨g, cap, cur, e, _, _, hnc, hcm, _⟩
    · injection e with e1 e2 e3
      exact ⟨fun _ => ⟨h0, e3⟩, (fun g h => by rw [e1] at h; cases h)⟩
    · injection e with e1 e2 e3
      exact ⟨(fun h => by rw [e1] at h; cases h), (fun g' h => by rw [e1] at h; injection h with h; subst h; exact ⟨by omega, rfl, rfl, by omega⟩)⟩
  unfold maxLen at hcap
  cases a with
  | none =>
    obtain ⟨rfl, rfl⟩ := ha rfl
    clear ha hcap
    go_enter Tryd.func34, Tryd.ntmps34
    go_wp2_with (at_builtin; refine wpList_append_lies _ rfl _ _ 26 rfl b0 44 i0 _ 3 40 Tryd.underlying26 hi hz0 hz1 hz2 rfl (by decide) _ _ _ rfl own ⟨vb, 0, none⟩ 1 1 [.slice tv nk tc, .int .i64 many, .int .i64 cents] rfl rfl HX.out ?ca2 (by decide) ?ca3 ?ca4 hsz _ rfl ?_)
    case ca2 => simp [Value.oneCell']
    case ca3 => unfold maxLen; omega
    intro gq cq w8 own8 hgrow8 hat8 hlt8
    have HR := Lib.hid (show InsOut b0 w (.slice none 0 0) (o ++ [⟨tv, tc, ks, many, cents⟩]) (.returned (.slice (some ⟨gq, 0, none⟩) (0 + 1) cq)) w8 from ⟨gq, _, cq, rfl, (by rw [List.length_append, HN.out]; rfl), HL.out.ins (n := 0 + 1) (fun y hy => by
      rcases List.mem_append.1 hy with hy | hy
      · exact HL.out.ky y hy
      · obtain rfl := List.mem_singleton.1 hy
        exact HK.out) (by rw [List.length_append, HN.out]; rfl) (by rw [List.flatMap_append]; simp only [List.flatMap_cons, List.flatMap_nil, Ce.cells, HNK.out, List.append_nil]; exact own8) hgrow8, hgrow8, hat8.imp id (fun e => by omega)⟩)
    clear own8 hgrow8 hat8 hlt8
    go_wp2_with fail
    go_ret
    exact HR.out
  | some a =>
    obtain ⟨g, off, spot⟩ := a
    obtain ⟨hcap1, hof, hsp, hcap2⟩ := hcap _ rfl
    simp only at hof hsp
    subst hof hsp
    clear ha hcap
    by_cases hcn : c = n
    · subst hcn
      go_enter Tryd.func34, Tryd.ntmps34
      go_wp2_with (at_builtin; refine wpList_append_lies _ rfl _ _ 26 rfl b0 44 i0 _ 3 40 Tryd.underlying26 hi hz0 hz1 hz2 rfl (by decide) _ _ _ rfl own ⟨vb, 0, none⟩ 1 1 [.slice tv nk tc, .int .i64 many, .int .i64 cents] rfl rfl HX.out ?cb2 (by decide) ?cb3 ?cb4 hsz _ rfl ?_)
      case cb2 => simp [Value.oneCell']
      case cb3 => unfold maxLen; omega
      case cb4 => omega
      intro gq cq w8 own8 hgrow8 hat8 hlt8
      have HR := Lib.hid (show InsOut b0 w (.slice (some ⟨g, 0, none⟩) c c) (o ++ [⟨tv, tc, ks, many, cents⟩]) (.returned (.slice (some ⟨gq, 0, none⟩) (c + 1) cq)) w8 from ⟨gq, _, cq, rfl, (by rw [List.length_append, HN.out]; rfl), HL.out.ins (n := c + 1) (fun y hy => by
        rcases List.mem_append.1 hy with hy | hy
        · exact HL.out.ky y hy
        · obtain rfl := List.mem_singleton.1 hy
          exact HK.out) (by rw [List.length_append, HN.out]; rfl) (by rw [List.flatMap_append]; simp only [List.flatMap_cons, List.flatMap_nil, Ce.cells, HNK.out, List.append_nil]; exact own8) hgrow8, hgrow8, hat8.imp id (fun e => by omega)⟩)
      clear own8 hgrow8 hat8 hlt8
      go_wp2_with fail
      go_ret
      exact HR.out
    · have hcn2 : n < c := by omega
      go_enter Tryd.func34, Tryd.ntmps34
      go_wp2_with (at_builtin; refine wpList_append_lies _ rfl _ _ 26 rfl b0 44 i0 _ 3 40 Tryd.underlying26 hi hz0 hz1 hz2 rfl (by decide) _ _ _ rfl own ⟨vb, 0, none⟩ 1 1 [.slice tv nk tc, .int .i64 many, .int .i64 cents] rfl rfl HX.out ?cc2 (by decide) ?cc3 ?cc4 hsz _ rfl ?_)
      case cc2 => simp [Value.oneCell']
      case cc3 => unfold maxLen; omega
      case cc4 => omega
      intro gq cq w8 own8 hgrow8 hat8 hlt8
      have HR := Lib.hid (show InsOut b0 w (.slice (some ⟨g, 0, none⟩) n c) (o ++ [⟨tv, tc, ks, many, cents⟩]) (.returned (.slice (some ⟨gq, 0, none⟩) (n + 1) cq)) w8 from ⟨gq, _, cq, rfl, (by rw [List.length_append, HN.out]; rfl), HL.out.ins (n := n + 1) (fun y hy => by
        rcases List.mem_append.1 hy with hy | hy
        · exact HL.out.ky y hy
        · obtain rfl := List.mem_singleton.1 hy
          exact HK.out) (by rw [List.length_append, HN.out]; rfl) (by rw [List.flatMap_append]; simp only [List.flatMap_cons, List.flatMap_nil, Ce.cells, HNK.out, List.append_nil]; exact own8) hgrow8, hgrow8, hat8.imp id (fun e => by omega)⟩)
      clear own8 hgrow8 hat8 hlt8
      go_wp2_with fail
      go_ret
      exact HR.out

theorem run_copy_rowK {P : Program} (k : Nat) (w : World) (dT sT ty elem : TypeId) (g o dLen dCap : Nat) (a : Addr) (sLen sCap : Nat) (cur : Array Value) (t : TypeId) (cs : List Value)
    (hu : P.underlying dT = some (.slice elem)) (hs : (P.info? elem).map (·.size) = some k)
    (hg : w.heap[g]? = some (.cells cur t (0, 0))) (hn : cs.length = Nat.min sLen dLen * k)
    (hsrc : ∀ j v, cs[j]? = some v → w.cell? (a.add j) = some v) (hfit : o + cs.length ≤ cur.size) (h1 : ∀ v ∈ cs, v.oneCell' = true) :
    (Builtin.copy_ #[dT, sT] ty #[.slice (some ⟨g, o, none⟩) dLen dCap, .slice (some a) sLen sCap]).run P w =
      .ok (goInt (Nat.min sLen dLen)) (w.setRow g (cur.toList.take o ++ cs ++ cur.toList.drop (o + cs.length)).toArray) := by
  have hl := run_loadCells_list (P := P) w a cs hsrc
  have hst := run_storeCells_at P g o t cs 0 cur w hg (by simpa using hfit) h1
  cases hq : P.info? elem with
  | none => simp [hq] at hs
  | some i =>
    have hi : i.size = k := by simpa [hq] using hs
    simp [Builtin.copy_, run_underlying hu, Builtin.lenOf, Builtin.firstCells, sizeOf, typeInfo, hq, hi, ← hn, hl, hst]
theorem setRow_grown (w : World) (g : Nat) (cs : Array Value) : w.grownBy (w.setRow g cs) (some g) := ⟨rfl, rfl, rfl, by simp [World.setRow], fun k _ hne => setRow_other w g k cs (fun e => hne (by rw [e]))⟩
theorem fm_take {α : Type} (C : Nat) (f : α → List Value) (l : List α) (hf : ∀ x ∈ l, (f x).length = C) (i : Nat) (hi : i ≤ l.length) : (l.flatMap f).take (i * C) = (l.take i).flatMap f ∧ (l.flatMap f).drop (i * C) = (l.drop i).flatMap f := by
  have e : l.flatMap f = (l.take i).flatMap f ++ (l.drop i).flatMap f := by rw [← List.flatMap_append, List.take_append_drop]
  have hl : ((l.take i).flatMap f).length = i * C := by
    rw [fm_length C f (l.take i) (fun x hx => hf x (List.mem_of_mem_take hx)), List.length_take]
    congr 1
    omega
  rw [e, ← hl]
  exact ⟨List.take_left, List.drop_left⟩
/-- the row behind the two copies -/
theorem ins_row {A X B C D : List Value} {p q : Nat} (hA : A.length = p) (hX : X.length = q) (hD : D.length = q) : (((A ++ D) ++ B ++ C).take p ++ X ++ ((A ++ D) ++ B ++ C).drop (p + q)) = A ++ X ++ (B ++ C) := by
  subst hA hX
  have e1 : ((A ++ D) ++ B ++ C).take A.length = A := by simp
  have e2 : ((A ++ D) ++ B ++ C).drop (A.length + X.length) = B ++ C := by
    rw [← hD, List.append_assoc, ← List.length_append]
    exact List.drop_left
  rw [e1, e2]
set_option maxRecDepth 100000 in
set_option maxHeartbeats 8000000 in
theorem insert_room (b0 : Nat) (w : World) (g n c i vb : Nat) (o : List Ce) (x : Ce) (h : LK b0 w (.slice (some ⟨g, 0, none⟩) n c) o) (hn : o.length = n) (hn1 : n ≤ 16) (hin : i < n) (hnc : n < c) (hx : w.heap[vb]? = some (.cells x.cells.toArray 44 (0, 0))) (hk : KyF w x.tv x.keys) (hvg : vb ≠ g) :
    Calls Tryd.prog 34 #[.slice (some ⟨g, 0, none⟩) n c, .int .i64 i, .slice (some ⟨vb, 0, none⟩) 1 1] w (InsOut b0 w (.slice (some ⟨g, 0, none⟩) n c) (o.take i ++ x :: o.drop i)) := by
  obtain ⟨i0, hi, hz0, hz1, hz2⟩ := info_parts infoCe
  have hsz3 : (Tryd.prog.info? 44).map (·.size) = some 3 := by rw [hi]; simp [hz1]
  rcases h.own.2 with ⟨e, _⟩ | ⟨g', cap, cur, e, hbg, hg, _, hcm, hcs, htk⟩
  · cases e
  injection e with e1 e2 e3
  injection e1 with e1
  injection e1 with e1
  subst e1 e3
  rw [hn] at htk
  have hov : ∀ off lb cb, (callFunc 50 #[.slice (some ⟨vb, 0, none⟩) 1 1, .slice (some ⟨g, off, none⟩) lb cb]).run Tryd.prog w = .ok (.value (.bool false)) w := fun off lb cb => by
    rw [run_callFunc_extern Tryd.func50 (by kernel_rfl) (by kernel_rfl) (by kernel_rfl) (e := Extern.SlicesOverlaps.overlaps #[26, 26] #[4]) (by kernel_rfl),
      Lib.run_overlaps_apart w 26 4 44 Tryd.underlying26 3 (fun w => by kernel_rfl) ⟨vb, 0, none⟩ ⟨g, off, none⟩ 1 1 lb cb hvg 44 44 3 (c * 3) (by simp [World.shape?, hx, Ce.cells]) (by simp [World.shape?, hg, hcs]) (by omega) (by simp [World.frozen?, hx]) (by simp [World.frozen?, hx])]
    rfl
  have hlen3 : ∀ y ∈ o, (Ce.cells y).length = 3 := fun y _ => y.len
  obtain ⟨hA, hB⟩ := fm_take 3 Ce.cells o hlen3 i (by omega)
  obtain ⟨hA1, -⟩ := fm_take 3 Ce.cells o hlen3 (i + 1) (by omega)
  have hil : i < o.length := by omega
  have hAD : (o.take (i + 1)).flatMap Ce.cells = (o.take i).flatMap Ce.cells ++ Ce.cells o[i] := by
    rw [List.take_succ_eq_append_getElem hil, List.flatMap_append]
    simp
  have hAl : ((o.take i).flatMap Ce.cells).length = i * 3 := by
    rw [fm_length 3 Ce.cells _ (fun y hy => y.len), List.length_take]
    congr 1
    omega
  have hBl : ((o.drop i).flatMap Ce.cells).length = (n - i) * 3 := by
    rw [fm_length 3 Ce.cells _ (fun y hy => y.len), List.length_drop, hn]
  have hone : ∀ l : List Ce, ∀ v ∈ l.flatMap Ce.cells, v.oneCell' = true := fun l v hv => by
    rw [List.mem_flatMap] at hv
    obtain ⟨y, -, hv⟩ := hv
    simp only [Ce.cells, List.mem_cons, List.mem_nil_iff, or_false] at hv
    rcases hv with rfl | rfl | rfl <;> rfl
  have hc3 : (i + 1) * 3 + (n - i) * 3 ≤ cur.size := by rw [hcs]; omega
  have hsrc1 : ∀ j v, ((o.drop i).flatMap Ce.cells)[j]? = some v → w.drew.cell? ((⟨g, i * 3, none⟩ : Addr).add j) = some v := fun j v hj => by
    rw [Addr.add_lit]
    show w.cell? ⟨g, i * 3 + j, none⟩ = some v
    have hjl : j < (n - i) * 3 := by rw [← hBl]; exact (List.getElem?_eq_some_iff.1 hj).1
    have own := h.own
    rw [hn] at own
    have h1 := own.cellAt (i * 3 + j) (by omega)
    rw [h1, ← hj, ← hB, List.getElem?_drop]
  have hcp1 : ∀ ty dc sc, (Builtin.copy_ #[26, 26] ty #[.slice (some ⟨g, (i + 1) * 3, none⟩) (n - i) dc, .slice (some ⟨g, i * 3, none⟩) (n + 1 - i) sc]).run Tryd.prog w.drew = .ok (goInt (Nat.min (n + 1 - i) (n - i))) (w.drew.setRow g (cur.toList.take ((i + 1) * 3) ++ (o.drop i).flatMap Ce.cells ++ cur.toList.drop ((i + 1) * 3 + ((o.drop i).flatMap Ce.cells).length)).toArray) := fun ty dc sc =>
    run_copy_rowK 3 w.drew _ _ ty 44 g ((i + 1) * 3) (n - i) dc ⟨g, i * 3, none⟩ (n + 1 - i) sc cur 44 ((o.drop i).flatMap Ce.cells) Tryd.underlying26 hsz3 hg (by rw [hBl]; simp only [Nat.min_def]; split <;> omega) hsrc1 (by rw [hBl]; exact hc3) (hone _)
  obtain ⟨W1, hW1⟩ : ∃ W1, W1 = w.drew.setRow g (cur.toList.take ((i + 1) * 3) ++ (o.drop i).flatMap Ce.cells ++ cur.toList.drop ((i + 1) * 3 + ((o.drop i).flatMap Ce.cells).length)).toArray := ⟨_, rfl⟩
  rw [← hW1] at hcp1
  have hg1 : W1.heap[g]? = some (.cells (cur.toList.take ((i + 1) * 3) ++ (o.drop i).flatMap Ce.cells ++ cur.toList.drop ((i + 1) * 3 + ((o.drop i).flatMap Ce.cells).length)).toArray 44 (0, 0)) := by
    rw [hW1]
    exact setRow_heap w.drew g cur _ _ _ hg
  have hx1 : W1.heap[vb]? = some (.cells x.cells.toArray 44 (0, 0)) := by
    rw [hW1]
    exact (setRow_other w.drew g vb _ hvg).trans hx
  have htk1 : cur.toList.take ((i + 1) * 3) = (o.take i).flatMap Ce.cells ++ Ce.cells o[i] := by
    rw [← hAD, ← hA1, ← htk, List.take_take]
    congr 1
    omega
  rw [htk1] at hg1
  generalize hC : cur.toList.drop ((i + 1) * 3 + ((o.drop i).flatMap Ce.cells).length) = C at *
  have hCl : C.length = cur.size - ((i + 1) * 3 + (n - i) * 3) := by rw [← hC, List.length_drop, hBl]; simp
  have hcp2 : ∀ ty dc, (Builtin.copy_ #[26, 26] ty #[.slice (some ⟨g, i * 3, none⟩) (n + 1 - i) dc, .slice (some ⟨vb, 0, none⟩) 1 1]).run Tryd.prog W1 = .ok (goInt (Nat.min 1 (n + 1 - i))) (W1.setRow g ((o.take i).flatMap Ce.cells ++ x.cells ++ ((o.drop i).flatMap Ce.cells ++ C)).toArray) := fun ty dc => by
    have h2 := run_copy_rowK 3 W1 26 26 ty 44 g (i * 3) (n + 1 - i) dc ⟨vb, 0, none⟩ 1 1 ((o.take i).flatMap Ce.cells ++ Ce.cells o[i] ++ (o.drop i).flatMap Ce.cells ++ C).toArray 44 x.cells Tryd.underlying26 hsz3 hg1 (by simp only [Nat.min_def]; rw [x.len]; split <;> omega) (cells_of hx1) (by
      have hd := Ce.len o[i]
      have hx3 := x.len
      simp only [List.size_toArray, List.length_append]
      omega) (fun v hv => hone [x] v (by simpa using hv))
    rw [x.len, List.toList_toArray, ins_row hAl x.len (Ce.len _)] at h2
    exact h2
  obtain ⟨W2, hW2⟩ : ∃ W2, W2 = W1.setRow g ((o.take i).flatMap Ce.cells ++ x.cells ++ ((o.drop i).flatMap Ce.cells ++ C)).toArray := ⟨_, rfl⟩
  rw [← hW2] at hcp2
  have gr : w.grownBy W2 (some g) := by
    have g1 : w.grownBy W1 (some g) := by rw [hW1]; exact grown_trans (grown_drew (grown_refl w _)) (setRow_grown w.drew g _)
    rw [hW2]
    exact grown_trans g1 (setRow_grown W1 g _)
  have hnl : (o.take i ++ x :: o.drop i).length = n + 1 := by
    rw [List.length_append, List.length_cons, List.length_take, List.length_drop]
    omega
  have hrow : W2.ownsRow b0 44 3 (.slice (some ⟨g, 0, none⟩) (n + 1) c) (n + 1) ((o.take i ++ x :: o.drop i).flatMap Ce.cells) := by
    have e : (o.take i ++ x :: o.drop i).flatMap Ce.cells = (o.take i).flatMap Ce.cells ++ x.cells ++ (o.drop i).flatMap Ce.cells := by
      rw [List.flatMap_append, List.flatMap_cons, List.append_assoc]
    refine ⟨by rw [fm_length 3 Ce.cells _ (fun y hy => y.len), hnl], .inr ⟨g, c, _, rfl, hbg, by rw [hW2]; exact setRow_heap W1 g _ _ _ _ hg1, by omega, hcm, ?_, ?_⟩⟩
    · have hx3 := x.len
      simp only [List.size_toArray, List.length_append]
      omega
    · rw [List.toList_toArray, e, ← List.append_assoc]
      have hll : ((o.take i).flatMap Ce.cells ++ x.cells ++ (o.drop i).flatMap Ce.cells).length = (n + 1) * 3 := by
        have hx3 := x.len
        simp only [List.length_append]
        omega
      rw [← hll]
      exact List.take_left
  have HR := Lib.hid (show InsOut b0 w (.slice (some ⟨g, 0, none⟩) n c) (o.take i ++ x :: o.drop i) (.returned (.slice (some ⟨g, 0, none⟩) (n + 1) c)) W2 from ⟨g, _, c, rfl, hnl, h.ins (fun y hy => by
    rcases List.mem_append.1 hy with hy | hy
    · exact h.ky y (List.mem_of_mem_take hy)
    · rcases List.mem_cons.1 hy with rfl | hy
      · exact hk
      · exact h.ky y (List.mem_of_mem_drop hy)) hnl hrow gr, gr, .inl rfl⟩)
  have H1 := Lib.hid hcp1
  have H2 := Lib.hid hcp2
  have HOV := Lib.hid hov
  unfold maxLen at hcm
  have hcn : c ≤ 9223372036854775807 := hcm
  clear e2
  clear hcp1 hcp2 hov hrow hnl gr hW2 hW1 hg1 hx1 htk1 hC hCl hsrc1 hc3 hone hBl hAl hAD hil hA1 hA hB hlen3 htk hcs hg hcm hx hk h hn hi hz0 hz1 hz2 hsz3
  have hw1 : IntKind.i64.wrap ((i : Int) + 1) = (i : Int) + 1 := by rw [IntKind.wrap_i64]; omega
  have hb1 : (0 : Int) ≤ (i : Int) + 1 := by omega
  have hinn : i ≤ n := by omega
  have htn : ((i : Int) + 1).toNat = i + 1 := by omega
  have hb2 : ¬ (c = i + 1) := by omega
  have hb3 : (i : Int) ≤ (n : Int) + 1 := by omega
  have hb4 : ¬ (c = i) := by omega
  have hz2' : ¬ ((i : Int) = (n : Int)) := by omega
  have hz2'' : (i == n) = false := by simp; omega
  have hz2''' : ((i : Int) == (n : Int)) = false := by simp; omega
  go_enter Tryd.func34, Tryd.ntmps34
  go_wp2_with (simp only [HOV.out])
  go_region_law (refine step_copy_runI (o := ⟨some 77, _, _, _, _, _⟩) rfl (.tmp 73) (.tmp 76) 26 26 rfl (.slice (some ⟨g, (i + 1) * 3, none⟩) (n - i) (c - (i + 1))) (.slice (some ⟨g, i * 3, none⟩) (n + 1 - i) (c - i)) (by simp [Act.eval, Act.put]) (by simp [Act.eval, Act.put]) (H1.out _ _ _) ?_)
  go_wp2_with (refine wpList_copy_runI (o := ⟨some 82, _, _, _, _, _⟩) _ rfl (.tmp 80) (.tmp 81) 26 26 rfl (.slice (some ⟨g, i * 3, none⟩) (n + 1 - i) (c - i)) (.slice (some ⟨vb, 0, none⟩) 1 1) (by rfl) (by rfl) (H2.out _ _) ?_)
  go_ret
  exact HR.out
end Go.Proofs.YtmhnnbffhciinaaDoor
/- slices.Insert of one cell, where there is no room. -/
set_option linter.unusedVariables false
namespace Go.Proofs.YtmhnnbffhciinaaDoor
open Go.RowKit Go.Lib

theorem grow_row {A X B Z : List Value} {p q r : Nat} (hA : A.length = p) (hX : X.length = q) (hB : B.length = r) : ((A ++ Z).take p ++ X ++ (A ++ Z).drop (p + q)) = A ++ X ++ Z.drop q ∧ ((A ++ X ++ Z.drop q).take (p + q) ++ B ++ (A ++ X ++ Z.drop q).drop (p + q + r)) = A ++ X ++ B ++ Z.drop (q + r) := by
  subst hA hX hB
  refine ⟨by simp [List.drop_append], ?_⟩
  have e1 : (A ++ X ++ Z.drop X.length).take (A.length + X.length) = A ++ X := by
    rw [← List.length_append]
    exact List.take_left
  have e2 : (A ++ X ++ Z.drop X.length).drop (A.length + X.length + B.length) = Z.drop (X.length + B.length) := by
    rw [← List.length_append, ← List.drop_drop, List.drop_left, List.drop_drop]
  rw [e1, e2]
set_option maxRecDepth 100000 in
set_option maxHeartbeats 8000000 in
theorem insert_grow (b0 : Nat) (w : World) (g n i vb : Nat) (o : List Ce) (x : Ce) (h : LK b0 w (.slice (some ⟨g, 0, none⟩) n n) o) (hn : o.length = n) (hn1 : n ≤ 16) (hin : i < n) (hx : w.heap[vb]? = some (.cells x.cells.toArray 44 (0, 0))) (hk : KyF w x.tv x.keys) (hvg : vb ≠ g) :
    Calls Tryd.prog 34 #[.slice (some ⟨g, 0, none⟩) n n, .int .i64 i, .slice (some ⟨vb, 0, none⟩) 1 1] w (InsOut b0 w (.slice (some ⟨g, 0, none⟩) n n) (o.take i ++ x :: o.drop i)) := by
  obtain ⟨i0, hi, hz0, hz1, hz2⟩ := info_parts infoCe
  have hsz3 : (Tryd.prog.info? 44).map (·.size) = some 3 := by rw [hi]; simp [hz1]
  have own := h.own
  rw [hn] at own
  have hgw := (own.lt g (by simp [Value.ownBlock])).2
  have hvw := (Array.getElem?_eq_some_iff.1 hx).1
  have hlen3 : ∀ y ∈ o, (Ce.cells y).length = 3 := fun y _ => y.len
  obtain ⟨hA, hB⟩ := fm_take 3 Ce.cells o hlen3 i (by omega)
  have hAl : ((o.take i).flatMap Ce.cells).length = i * 3 := by
    rw [fm_length 3 Ce.cells _ (fun y hy => y.len), List.length_take]
    congr 1
    omega
  have hBl : ((o.drop i).flatMap Ce.cells).length = (n - i) * 3 := by
    rw [fm_length 3 Ce.cells _ (fun y hy => y.len), List.length_drop, hn]
  have hone : ∀ l : List Ce, ∀ v ∈ l.flatMap Ce.cells, v.oneCell' = true := fun l v hv => by
    rw [List.mem_flatMap] at hv
    obtain ⟨y, -, hv⟩ := hv
    simp only [Ce.cells, List.mem_cons, List.mem_nil_iff, or_false] at hv
    rcases hv with rfl | rfl | rfl <;> rfl
  have hsrcA : ∀ j v, ((o.take i).flatMap Ce.cells)[j]? = some v → w.drew.cell? ((⟨g, 0, none⟩ : Addr).add j) = some v := fun j v hj => by
    rw [Addr.add_lit]
    show w.cell? ⟨g, 0 + j, none⟩ = some v
    rw [Nat.zero_add]
    have hjl : j < i * 3 := by rw [← hAl]; exact (List.getElem?_eq_some_iff.1 hj).1
    rw [own.cellAt j (by omega), ← hj, ← hA, List.getElem?_take_of_lt hjl]
  have hsrcB : ∀ j v, ((o.drop i).flatMap Ce.cells)[j]? = some v → w.cell? ⟨g, i * 3 + j, none⟩ = some v := fun j v hj => by
    have hjl : j < (n - i) * 3 := by rw [← hBl]; exact (List.getElem?_eq_some_iff.1 hj).1
    rw [own.cellAt (i * 3 + j) (by omega), ← hj, ← hB, List.getElem?_drop]
  have hik : i + (n + 1 - i) = n + 1 := by omega
  have hold : (Builtin.firstCells i0.size i (.slice (some ⟨g, 0, none⟩) i n)).run Tryd.prog w.drew = .ok ((o.take i).flatMap Ce.cells).toArray w.drew := by
    rw [hz1]
    exact run_firstCells_some w.drew 3 i ⟨g, 0, none⟩ i n _ hAl hsrcA
  have hrz : ∀ ty, (Builtin.append_ #[26, 3] ty #[.slice (some ⟨g, 0, none⟩) i n, .int .i64 ((n : Int) + 1 - (i : Int))]).run Tryd.prog w =
      .ok (.slice (some ⟨w.heap.size, 0, none⟩) (n + 1) (grownCap w (n + 1) n 44)) (w.drew.alloc (.cells (((o.take i).flatMap Ce.cells).toArray ++ Builtin.zeroCells (Value.agg #[.slice none 0 0, .int .i64 0, .int .i64 0]).cells (n + 1 - i) ++ Builtin.zeroCells (Value.agg #[.slice none 0 0, .int .i64 0, .int .i64 0]).cells (grownCap w (n + 1) n 44 - (n + 1))) 44)) := fun ty => by
    have h2 := Lib.run_append_grow_zeros w 26 3 ty 44 i0 _ .i64 .i64 Tryd.underlying26 Tryd.underlying3 hi hz0 (some ⟨g, 0, none⟩) i n ((o.take i).flatMap Ce.cells) hold (n + 1 - i) (by omega) (by omega) (by omega) (by omega) (by rw [hz2]; omega) (by rw [hz2, hik]; exact growslice_fits (by omega) (by omega))
    rw [hik] at h2
    rw [show (n : Int) + 1 - (i : Int) = ((n + 1 - i : Nat) : Int) by omega]
    exact h2
  have hge := grownCap_ge w (n + 1) n 44
  have hle := grownCap_le_maxLen w (n + 1) n 44 (by unfold maxLen; omega)
  generalize grownCap w (n + 1) n 44 = G at *
  obtain ⟨Z, hZ⟩ : ∃ Z : List Value, Z = (Builtin.zeroCells (Value.agg #[.slice none 0 0, .int .i64 0, .int .i64 0]).cells (n + 1 - i)).toList ++ (Builtin.zeroCells (Value.agg #[.slice none 0 0, .int .i64 0, .int .i64 0]).cells (G - (n + 1))).toList := ⟨_, rfl⟩
  have hZl : Z.length = (n + 1 - i) * 3 + (G - (n + 1)) * 3 := by
    rw [hZ]
    simp [size_zeroCells, Value.cells]
  obtain ⟨W0, hW0⟩ : ∃ W0, W0 = w.drew.alloc (.cells ((o.take i).flatMap Ce.cells ++ Z).toArray 44) := ⟨_, rfl⟩
  have hrz' : ∀ ty, (Builtin.append_ #[26, 3] ty #[.slice (some ⟨g, 0, none⟩) i n, .int .i64 ((n : Int) + 1 - (i : Int))]).run Tryd.prog w = .ok (.slice (some ⟨w.heap.size, 0, none⟩) (n + 1) G) W0 := fun ty => by
    rw [hrz ty, hW0, hZ]
    congr 3
    simp [Array.append_assoc]
  have hg0 : W0.heap[w.heap.size]? = some (.cells ((o.take i).flatMap Ce.cells ++ Z).toArray 44 (0, 0)) := by
    rw [hW0]
    exact heap_alloc_new w.drew _
  have hold0 : ∀ p, p < w.heap.size → W0.heap[p]? = w.heap[p]? := fun p hp => by
    rw [hW0]
    exact Below.heap_alloc w.drew _ p hp
  have hx0 : W0.heap[vb]? = some (.cells x.cells.toArray 44 (0, 0)) := (hold0 vb hvw).trans hx
  obtain ⟨r1, r2⟩ := grow_row (A := (o.take i).flatMap Ce.cells) (X := x.cells) (B := (o.drop i).flatMap Ce.cells) (Z := Z) hAl x.len hBl
  have hcp1 : ∀ ty dc, (Builtin.copy_ #[26, 26] ty #[.slice (some ⟨w.heap.size, i * 3, none⟩) (n + 1 - i) dc, .slice (some ⟨vb, 0, none⟩) 1 1]).run Tryd.prog W0 = .ok (goInt (Nat.min 1 (n + 1 - i))) (W0.setRow w.heap.size ((o.take i).flatMap Ce.cells ++ x.cells ++ Z.drop 3).toArray) := fun ty dc => by
    have h2 := run_copy_rowK 3 W0 26 26 ty 44 w.heap.size (i * 3) (n + 1 - i) dc ⟨vb, 0, none⟩ 1 1 ((o.take i).flatMap Ce.cells ++ Z).toArray 44 x.cells Tryd.underlying26 hsz3 hg0 (by simp only [Nat.min_def]; rw [x.len]; split <;> omega) (cells_of hx0) (by
      have hx3 := x.len
      simp only [List.size_toArray, List.length_append]
      omega) (fun v hv => hone [x] v (by simpa using hv))
    rw [x.len, List.toList_toArray, r1] at h2
    exact h2
  obtain ⟨W1, hW1⟩ : ∃ W1, W1 = W0.setRow w.heap.size ((o.take i).flatMap Ce.cells ++ x.cells ++ Z.drop 3).toArray := ⟨_, rfl⟩
  rw [← hW1] at hcp1
  have hg1 : W1.heap[w.heap.size]? = some (.cells ((o.take i).flatMap Ce.cells ++ x.cells ++ Z.drop 3).toArray 44 (0, 0)) := by
    rw [hW1]
    exact setRow_heap W0 _ _ _ _ _ hg0
  have hold1 : ∀ p, p < w.heap.size → W1.heap[p]? = w.heap[p]? := fun p hp => by
    rw [hW1]
    exact (setRow_other W0 _ p _ (by omega)).trans (hold0 p hp)
  have hcp2 : ∀ ty dc sc, (Builtin.copy_ #[26, 26] ty #[.slice (some ⟨w.heap.size, (i + 1) * 3, none⟩) (n - i) dc, .slice (some ⟨g, i * 3, none⟩) (n - i) sc]).run Tryd.prog W1.drew = .ok (goInt (Nat.min (n - i) (n - i))) (W1.drew.setRow w.heap.size ((o.take i).flatMap Ce.cells ++ x.cells ++ (o.drop i).flatMap Ce.cells ++ Z.drop (3 + (n - i) * 3)).toArray) := fun ty dc sc => by
    have h2 := run_copy_rowK 3 W1.drew 26 26 ty 44 w.heap.size ((i + 1) * 3) (n - i) dc ⟨g, i * 3, none⟩ (n - i) sc ((o.take i).flatMap Ce.cells ++ x.cells ++ Z.drop 3).toArray 44 ((o.drop i).flatMap Ce.cells) Tryd.underlying26 hsz3 hg1 (by rw [hBl]; simp only [Nat.min_def]; split <;> omega) (fun j v hj => by
      rw [Addr.add_lit]
      have := hsrcB j v hj
      show W1.cell? ⟨g, i * 3 + j, none⟩ = some v
      simp only [World.cell?] at this ⊢
      rw [hold1 g hgw]
      exact this) (by
      have hx3 := x.len
      simp only [List.size_toArray, List.length_append, List.length_drop]
      omega) (hone _)
    rw [hBl, List.toList_toArray, show (i + 1) * 3 = i * 3 + 3 by omega, r2] at h2
    rw [show (i + 1) * 3 = i * 3 + 3 by omega]
    exact h2
  obtain ⟨W2, hW2⟩ : ∃ W2, W2 = W1.drew.setRow w.heap.size ((o.take i).flatMap Ce.cells ++ x.cells ++ (o.drop i).flatMap Ce.cells ++ Z.drop (3 + (n - i) * 3)).toArray := ⟨_, rfl⟩
  rw [← hW2] at hcp2
  have hs0 : W0.heap.size = w.heap.size + 1 := by rw [hW0]; simp
  have hs1 : W1.heap.size = w.heap.size + 1 := by rw [hW1]; simp [World.setRow, hs0]
  have gr : w.grownBy W2 (some g) := by
    refine ⟨by rw [hW2, hW1, hW0]; rfl, by rw [hW2, hW1, hW0]; rfl, by rw [hW2, hW1, hW0]; rfl, by rw [hW2]; simp [World.setRow]; omega, fun p hp _ => ?_⟩
    rw [hW2]
    exact (setRow_other W1.drew _ p _ (by omega)).trans (hold1 p hp)
  have hnl : (o.take i ++ x :: o.drop i).length = n + 1 := by
    rw [List.length_append, List.length_cons, List.length_take, List.length_drop]
    omega
  have hrow : W2.ownsRow b0 44 3 (.slice (some ⟨w.heap.size, 0, none⟩) (n + 1) G) (n + 1) ((o.take i ++ x :: o.drop i).flatMap Ce.cells) := by
    have e : (o.take i ++ x :: o.drop i).flatMap Ce.cells = (o.take i).flatMap Ce.cells ++ x.cells ++ (o.drop i).flatMap Ce.cells := by
      rw [List.flatMap_append, List.flatMap_cons, List.append_assoc]
    refine ⟨by rw [fm_length 3 Ce.cells _ (fun y hy => y.len), hnl], .inr ⟨w.heap.size, G, _, rfl, h.sz, by rw [hW2]; exact setRow_heap W1.drew _ _ _ _ _ hg1, by omega, hle, ?_, ?_⟩⟩
    · have hx3 := x.len
      simp only [List.size_toArray, List.length_append, List.length_drop]
      omega
    · rw [List.toList_toArray, e]
      have hll : ((o.take i).flatMap Ce.cells ++ x.cells ++ (o.drop i).flatMap Ce.cells).length = (n + 1) * 3 := by
        have hx3 := x.len
        simp only [List.length_append]
        omega
      rw [← hll]
      exact List.take_left
  have HR := Lib.hid (show InsOut b0 w (.slice (some ⟨g, 0, none⟩) n n) (o.take i ++ x :: o.drop i) (.returned (.slice (some ⟨w.heap.size, 0, none⟩) (n + 1) G)) W2 from ⟨w.heap.size, _, G, rfl, hnl, h.ins (fun y hy => by
    rcases List.mem_append.1 hy with hy | hy
    · exact h.ky y (List.mem_of_mem_take hy)
    · rcases List.mem_cons.1 hy with rfl | hy
      · exact hk
      · exact h.ky y (List.mem_of_mem_drop hy)) hnl hrow gr, gr, .inr (Nat.le_refl _)⟩)
  have HZ := Lib.hid hrz'
  have H1 := Lib.hid hcp1
  have H2 := Lib.hid hcp2
  unfold maxLen at hle
  have hcn : G ≤ 9223372036854775807 := hle
  have hgn : n + 1 ≤ G := hge
  obtain ⟨q, hq⟩ : ∃ q, w.heap.size = q := ⟨_, rfl⟩
  rw [hq] at HZ H1 H2 HR
  clear hcp1 hcp2 hrz hrz' hrow hnl gr hW2 hW1 hW0 hg1 hg0 hx0 hold hold0 hold1 r1 r2 hZl hZ hsrcA hsrcB hone hBl hAl hA hB hlen3 hle hge hx hk h hn hi hz0 hz1 hz2 hsz3 own hgw hvw hik hs0 hs1 hq
  have hw1 : IntKind.i64.wrap ((i : Int) + 1) = (i : Int) + 1 := by rw [IntKind.wrap_i64]; omega
  have hb1 : (0 : Int) ≤ (i : Int) + 1 := by omega
  have hinn : i ≤ n := by omega
  have htn : ((i : Int) + 1).toNat = i + 1 := by omega
  have hb2 : ¬ (G = i + 1) := by omega
  have hb3 : (i : Int) ≤ (n : Int) + 1 := by omega
  have hb4 : ¬ (G = i) := by omega
  have hb5 : ¬ (n = i) := by omega
  have hz2'' : (i == n) = false := by simp; omega
  have hz2''' : ((i : Int) == (n : Int)) = false := by simp; omega
  go_enter Tryd.func34, Tryd.ntmps34
  go_wp2_with (first | (at_builtin; refine Lib.wpList_append_run _ rfl (.tmp 34) (.tmp 39) 26 3 rfl (.slice (some ⟨g, 0, none⟩) i n) (.int .i64 ((n : Int) + 1 - (i : Int))) (by rfl) (by rfl) _ _ (HZ.out _) ?_) | (refine wpList_copy_runI (o := ⟨some 45, _, _, _, _, _⟩) _ rfl (.tmp 43) (.tmp 44) 26 26 rfl (.slice (some ⟨q, i * 3, none⟩) (n + 1 - i) (G - i)) (.slice (some ⟨vb, 0, none⟩) 1 1) (by rfl) (by rfl) (H1.out _ _) ?_))
  go_region_law (refine step_copy_runI (o := ⟨some 54, _, _, _, _, _⟩) rfl (.tmp 50) (.tmp 53) 26 26 rfl (.slice (some ⟨q, (i + 1) * 3, none⟩) (n - i) (G - (i + 1))) (.slice (some ⟨g, i * 3, none⟩) (n - i) (n - i)) (by simp [Act.eval, Act.put]) (by simp [Act.eval, Act.put]) (H2.out _ _ _) ?_)
  go_wp2_with fail
  go_ret
  exact HR.out
/-- slices.Insert of one cell -/
theorem insert_ce (b0 : Nat) (w : World) (a : Option Addr) (n c i vb : Nat) (o : List Ce) (x : Ce) (h : LK b0 w (.slice a n c) o) (hn : o.length = n) (hn1 : n ≤ 16) (hin : i ≤ n) (hx : w.heap[vb]? = some (.cells x.cells.toArray 44 (0, 0))) (hk : KyF w x.tv x.keys) (hvg : ∀ g, (Value.slice a n c).ownBlock = some g → vb ≠ g) :
    Calls Tryd.prog 34 #[.slice a n c, .int .i64 i, .slice (some ⟨vb, 0, none⟩) 1 1] w (InsOut b0 w (.slice a n c) (o.take i ++ x :: o.drop i)) := by
  by_cases e : i = n
  · subst e
    exact insert_end b0 w a i c vb o x h hn hn1 hx hk
  · rcases h.own.2 with ⟨e1, h0⟩ | ⟨g, cap, cur, e1, hbg, hg, hnc, hcm, hcs, htk⟩
    · omega
    · injection e1 with e1 e2 e3
      subst e1 e3
      by_cases hc : c = n
      · subst hc
        exact insert_grow b0 w g c i vb o x h hn hn1 (by omega) hx hk (hvg g rfl)
      · exact insert_room b0 w g n c i vb o x h hn hn1 (by omega) (by omega) hx hk (hvg g rfl)
end Go.Proofs.YtmhnnbffhciinaaDoor
