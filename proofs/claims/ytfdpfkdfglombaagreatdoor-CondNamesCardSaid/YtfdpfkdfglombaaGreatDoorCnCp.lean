/- A copy of a condition in a box, whose others are being replaced one by one. -/
import Derived.Test.YtfdpfkdfglombaaGreatDoorCnCs
import Derived.Test.YtfdpfkdfglombaaGreatDoorCkSp
import Derived.Deep.AppendLies
import Derived.Test.YtfdpfkdfglombaaGreatDoorSgM
set_option linter.unusedVariables false
namespace Go.Proofs.YtfdpfkdfglombaaGreatDoor
open Go.RowKit

theorem szN_er : ∀ (d : Nat) (c : Cn), szN d (er d c) = szN d c
  | 0, _ => rfl
  | d + 1, c => by
    show 1 + ((c.args.map (er d)).map (szN d)).sum = 1 + (c.args.map (szN d)).sum
    rw [List.map_map]
    congr 2
    exact List.map_congr_left fun x _ => szN_er d x
theorem sum_perm {l m : List Nat} (h : l.Perm m) : l.sum = m.sum := by
  induction h with
  | nil => rfl
  | cons x _ ih => rw [List.sum_cons, List.sum_cons, ih]
  | swap x y l => simp only [List.sum_cons]; omega
  | trans _ _ h1 h2 => rw [h1, h2]
theorem szN_chC : ∀ (d : Nat) (c : Cn), szN d (chC d c) = szN d c
  | 0, _ => rfl
  | d + 1, c => by
    show 1 + ((insL d (c.args.map (chC d))).map (szN d)).sum = 1 + (c.args.map (szN d)).sum
    have hp := (isort_law cmpI_tot (csP d) (c.args.map (chC d))).1.map (szN d)
    have h2 : ((c.args.map (chC d)).map (szN d)) = c.args.map (szN d) := by
      rw [List.map_map]
      exact List.map_congr_left fun x _ => szN_chC d x
    rw [← h2]
    exact congrArg (1 + ·) (sum_perm hp)
/-- what a copier leaves: a condition in new blocks that says f -/
structure CopyX (d : Nat) (f : Cn) (w : World) (x : Cn) (w' : World) : Prop where
  tr : TAt d w' x
  sy : er d x = f
  nw : ∀ b, b < w.heap.size → FarT d x b
  bl : Below w.heap.size w w'
/-- and its list of others is a row of its own -/
structure CopyY (d : Nat) (w : World) (x : Cn) (w' : World) : Prop where
  own : w'.ownsRow w.heap.size 30 9 (.slice x.nd.aa x.args.length x.nd.ac) x.args.length (x.args.flatMap Cn.cells)
  far : ∀ g, (Value.slice x.nd.aa x.args.length x.nd.ac).ownBlock = some g → Far x.nd.va x.nd.vals.length g ∧ Far x.nd.wa x.nd.whs.length g ∧ ∀ y ∈ x.args, FarT (d - 1) y g
def CopyO (d : Nat) (c : Cn) (w : World) (e : Ending) (w' : World) : Prop := ∃ x, e = .returned x.agg ∧ CopyX d (er d c) w x w' ∧ CopyY d w x w'
def CheapO (d : Nat) (c : Cn) (w : World) (e : Ending) (w' : World) : Prop := ∃ x, e = .returned x.agg ∧ CopyX d (chC d c) w x w'
/-- the box of the copy at q1, of the result at q2; n: where the new blocks begin -/
structure CpS (n q1 q2 B d : Nat) (nd : Nd) (l : List Cn) (w0 wr : World) : Prop where
  bx : OB wr q1 (Cn.mk nd l).cells 30
  rb : OB wr q2 condZ 30
  n1 : n ≤ q1
  n2 : n ≤ q2
  ne : q1 ≠ q2
  b1 : q1 < B
  b2 : q2 < B
  bs : B ≤ wr.heap.size
  own : wr.ownsRow B 30 9 (.slice nd.aa l.length nd.ac) l.length (l.flatMap Cn.cells)
  tr : TAt (d + 1) wr (.mk nd l)
  nv : ∀ b, b < n → Far nd.va nd.vals.length b ∧ Far nd.wa nd.whs.length b
  fq : FarT (d + 1) (.mk nd l) q1 ∧ FarT (d + 1) (.mk nd l) q2
  fg : ∀ g, (Value.slice nd.aa l.length nd.ac).ownBlock = some g → Far nd.va nd.vals.length g ∧ Far nd.wa nd.whs.length g ∧ ∀ y ∈ l, FarT d y g
  bl : Below n w0 wr
section
variable {n q1 q2 B d : Nat} {nd : Nd} {l : List Cn} {w0 wr w' : World}
theorem CpS.below (h : CpS n q1 q2 B d nd l w0 wr) (k : Below wr.heap.size wr w') : CpS n q1 q2 B d nd l w0 w' :=
  ⟨h.bx.below k, h.rb.below k, h.n1, h.n2, h.ne, h.b1, h.b2, Nat.le_trans h.bs k.size, h.own.keptB k, h.tr.below k, h.nv, h.fq, h.fg, h.bl.trans (k.mono (by have := h.bs; have := h.b1; have := h.n1; omega))⟩
theorem CpS.alloc (h : CpS n q1 q2 B d nd l w0 wr) (o : Obj) : CpS n q1 q2 B d nd l w0 (wr.alloc o) := h.below ((Below.refl _ _).alloc (Nat.le_refl _) o)
theorem CpS.drew (h : CpS n q1 q2 B d nd l w0 wr) : CpS n q1 q2 B d nd l w0 wr.drew := h.below (Below.refl _ _).drew
theorem CpS.row (h : CpS n q1 q2 B d nd l w0 wr) (h0 : 0 < l.length) : ∃ g, nd.aa = some ⟨g, 0, none⟩ ∧ B ≤ g ∧ g < wr.heap.size := by
  obtain ⟨g, cap, e, h1, h2⟩ := h.own.form h0
  injection e with e
  exact ⟨g, e, (h.own.lt g (by rw [e]; rfl)).1, (h.own.lt g (by rw [e]; rfl)).2⟩
theorem CpS.at9 (h : CpS n q1 q2 B d nd l w0 wr) {g : Nat} (hg : nd.aa = some ⟨g, 0, none⟩) (k : Nat) (hk : k < l.length) :
    wr.cell? ⟨g, k * 9, none⟩ = some (.int .i64 l[k].nd.kind) ∧ wr.cell? ⟨g, k * 9 + 1, none⟩ = some (.string l[k].nd.name) ∧ wr.cell? ⟨g, k * 9 + 2, none⟩ = some (.string l[k].nd.field) ∧ wr.cell? ⟨g, k * 9 + 3, none⟩ = some (.string l[k].nd.sign) ∧ wr.cell? ⟨g, k * 9 + 4, none⟩ = some (.slice l[k].nd.va l[k].nd.vals.length l[k].nd.vc) ∧ wr.cell? ⟨g, k * 9 + 5, none⟩ = some (.slice l[k].nd.wa l[k].nd.whs.length l[k].nd.wc) ∧ wr.cell? ⟨g, k * 9 + 6, none⟩ = some (.int .i64 l[k].nd.within) ∧ wr.cell? ⟨g, k * 9 + 7, none⟩ = some (.int .i64 l[k].nd.number) ∧ wr.cell? ⟨g, k * 9 + 8, none⟩ = some (.slice l[k].nd.aa l[k].args.length l[k].nd.ac) := by
  have ho := h.own
  rw [hg] at ho
  obtain ⟨p, off, e, hp, c0, c1, c2, c3, c4, c5, c6, c7, c8⟩ := (own_rat ho (fun x _ => x.len)).at9c hk
  injection e with e
  injection e with e1 e2
  subst e1 e2
  simp only [Nat.zero_add] at c0 c1 c2 c3 c4 c5 c6 c7 c8
  exact ⟨c0, c1, c2, c3, c4, c5, c6, c7, c8⟩
/-- one of the others is replaced -/
theorem CpS.set (h : CpS n q1 q2 B d nd l w0 wr) {g : Nat} (hg : nd.aa = some ⟨g, 0, none⟩) (k : Nat) (hk : k < l.length) {x' : Cn} (hT : TAt d wr x') (hF : FarT d x' q1 ∧ FarT d x' q2 ∧ FarT d x' g) :
    wr.there g (k * 9) x'.cells.length ∧ CpS n q1 q2 B d nd (l.set k x') w0 (wr.setCells g (k * 9) x'.cells) := by
  have ho := h.own
  rw [hg] at ho
  have hgB := ho.lt g rfl
  have hgg := h.fg g (by rw [hg]; rfl)
  have e1 := h.b1
  have e2 := h.b2
  have e3 := h.n1
  refine ⟨own_thereC ho (k * 9) 9 (by omega), ?_⟩
  obtain ⟨ow, gr⟩ := own_setsC x'.cells (k * 9) ho
  rw [fm_setLC Cn.cells 9 l k x' hk (fun x _ => x.len) x'.len] at ow
  have hr1 : (some g : Option Nat) ≠ some q1 := fun e => by have := Option.some.inj e; omega
  have hr2 : (some g : Option Nat) ≠ some q2 := fun e => by have := Option.some.inj e; omega
  obtain ⟨t1, t2, t3, t4, t5, t6⟩ := h.tr
  have FF : ∀ gg, FarT (d + 1) (.mk nd l) gg → FarT d x' gg → FarT (d + 1) (.mk nd (l.set k x')) gg := fun gg hf hx =>
    ⟨hf.1, hf.2.1, by
      have := hf.2.2.1
      simp only [Cn.nd, Cn.args, List.length_set] at this ⊢
      exact this, fun y hy => by
      rcases List.mem_or_eq_of_mem_set hy with hy | rfl
      · exact hf.2.2.2 y hy
      · exact hx⟩
  refine ⟨by simpa [OB, Cn.cells, Cn.nd, Cn.args] using h.bx.grown gr hr1, h.rb.grown gr hr2, h.n1, h.n2, h.ne, h.b1, h.b2, Nat.le_trans h.bs gr.size, ?_, ⟨t1, ?_, ?_, ?_, ?_, fun y hy => ?_⟩, h.nv, ⟨FF _ h.fq.1 hF.1, FF _ h.fq.2 hF.2.1⟩, fun g' e => ?_, h.bl.grown gr (by have := h.bs; omega) (fun b e => by have := Option.some.inj e; omega)⟩
  · rw [List.length_set, hg]; exact ow
  · simp only [Cn.nd, Cn.args, List.length_set] at t2 ⊢
    exact t2
  · exact t3.kept gr (fun g' e => by obtain rfl := Option.some.inj e; exact hgg.1)
  · exact t4.kept gr (fun g' e => by obtain rfl := Option.some.inj e; exact hgg.2.1)
  · have hr := own_rat (l := l.set k x') (f := Cn.cells) (by rw [List.length_set]; exact ow) (fun x _ => x.len)
    rw [← hg] at hr
    exact hr
  · rcases List.mem_or_eq_of_mem_set hy with hy | rfl
    · exact (t6 y hy).kept gr (fun g' e => by obtain rfl := Option.some.inj e; exact hgg.2.2 y hy)
    · exact hT.kept gr (fun g' e => by obtain rfl := Option.some.inj e; exact hF.2.2)
  · rw [hg] at e
    obtain rfl : g = g' := Option.some.inj e
    refine ⟨hgg.1, hgg.2.1, fun y hy => ?_⟩
    rcases List.mem_or_eq_of_mem_set hy with hy | rfl
    · exact hgg.2.2 y hy
    · exact hF.2.2
end
/-- the first k have been replaced -/
structure RL (d : Nat) (f : Cn → Cn) (a0 : List Cn) (n k : Nat) (l : List Cn) : Prop where
  len : l.length = a0.length
  sy : ∀ i (hi : i < l.length) (hi' : i < a0.length), er d l[i] = if i < k then f a0[i] else er d a0[i]
  nw : ∀ i (hi : i < l.length), i < k → ∀ b, b < n → FarT d l[i] b
theorem RL.set {d n k : Nat} {f : Cn → Cn} {a0 l : List Cn} {x' : Cn} (h : RL d f a0 n k l) (hk : k < a0.length) (hs : er d x' = f a0[k]) (hn : ∀ b, b < n → FarT d x' b) : RL d f a0 n (k + 1) (l.set k x') := by
  refine ⟨by rw [List.length_set]; exact h.len, fun i hi hi' => ?_, fun i hi hik b hb => ?_⟩
  · rw [List.length_set] at hi
    rw [List.getElem_set]
    by_cases e : k = i
    · subst e
      rw [if_pos rfl, if_pos (by omega)]; exact hs
    · rw [if_neg e, h.sy i hi hi']
      by_cases e2 : i < k
      · rw [if_pos e2, if_pos (by omega)]
      · rw [if_neg e2, if_neg (by omega)]
  · rw [List.length_set] at hi
    rw [List.getElem_set]
    by_cases e : k = i
    · rw [if_pos e]; exact hn b hb
    · rw [if_neg e]; exact h.nw i hi (by omega) b hb
theorem RL.all {d n k : Nat} {f : Cn → Cn} {a0 l : List Cn} (h : RL d f a0 n k l) (hk : a0.length ≤ k) : l.map (er d) = a0.map f ∧ ∀ x ∈ l, ∀ b, b < n → FarT d x b := by
  refine ⟨List.ext_getElem (by rw [List.length_map, List.length_map]; exact h.len) (fun i h1 h2 => ?_), fun x hx b hb => ?_⟩
  · rw [List.length_map] at h1 h2
    rw [List.getElem_map, List.getElem_map, h.sy i h1 h2, if_pos (by omega)]
  · obtain ⟨i, hi, rfl⟩ := List.getElem_of_mem hx
    exact h.nw i hi (by have := h.len; omega) b hb
theorem RL.start {d n : Nat} {f : Cn → Cn} {a0 l : List Cn} (h : l.map (er d) = a0.map (er d)) : RL d f a0 n 0 l := by
  have hl : l.length = a0.length := by have := congrArg List.length h; simpa using this
  refine ⟨hl, fun i hi hi' => ?_, fun i hi h0 => absurd h0 (by omega)⟩
  rw [if_neg (by omega)]
  have := congrArg (fun m => m[i]?) h
  simpa [hi, hi'] using this
/-- what the region that replaces one keeps -/
structure JRg (n q1 q2 B d : Nat) (nd : Nd) (l : List Cn) (w0 : World) (g p N s1 s3 s4 : Nat) (x f0 : Cn) (b : Msk) (v : Nat → Value) (wr : World) : Prop where
  st : CpS n q1 q2 B d nd l w0 wr
  bx : XB wr p x.cells
  hN : N ≤ wr.heap.size
  p1 : b 1 = true → v s1 = .slice (some ⟨g, 0, none⟩) l.length nd.ac
  p3 : b 3 = true → v s3 = x.agg
  p4 : b 4 = true → ∃ x', v s4 = x'.agg ∧ TAt d wr x' ∧ er d x' = f0 ∧ ∀ b, b < N → FarT d x' b
/-- what the region that clones the lists keeps -/
structure JCp (n q1 q2 N d : Nat) (c : Cn) (w0 : World) (b : Msk) (v : Nat → Value) (wr : World) : Prop where
  bx : OB wr q1 c.cells 30
  rb : OB wr q2 condZ 30
  bl : Below n w0 wr
  hN : N ≤ wr.heap.size
  tr : TAt (d + 1) wr c
  r5 : b 5 = true → b 2 = true
  r8 : b 8 = true → b 5 = true
  p9 : b 9 = true → v 14 = .pointer (some ⟨q1, 4, none⟩)
  p1 : b 1 = true → v 6 = .slice c.nd.va c.nd.vals.length c.nd.vc
  p2 : b 2 = true → ∃ a cap, v 7 = .slice a c.nd.vals.length cap ∧ RAt wr a 3 Vl.cells c.nd.vals ∧ c.nd.vals.length ≤ cap ∧ cap ≤ maxLen ∧ ∀ g, g < N → Far a c.nd.vals.length g
  p4 : b 4 = true → v 9 = .slice c.nd.wa c.nd.whs.length c.nd.wc
  p5 : b 5 = true → ∃ a cap, v 10 = .slice a c.nd.whs.length cap ∧ RAt wr a 5 Wh.cells c.nd.whs ∧ c.nd.whs.length ≤ cap ∧ cap ≤ maxLen ∧ ∀ g, g < N → Far a c.nd.whs.length g
  p7 : b 7 = true → v 12 = .slice c.nd.aa c.args.length c.nd.ac
  p8 : b 8 = true → ∃ a cap, v 13 = .slice a c.args.length cap ∧ wr.ownsRow N 30 9 (.slice a c.args.length cap) c.args.length (c.args.flatMap Cn.cells) ∧
    ∀ g, (Value.slice a c.args.length cap).ownBlock = some g → (∀ a' c', v 7 = .slice a' c.nd.vals.length c' → Far a' c.nd.vals.length g) ∧ (∀ a' c', v 10 = .slice a' c.nd.whs.length c' → Far a' c.nd.whs.length g) ∧ ∀ y ∈ c.args, FarT d y g
theorem JCp.below {n q1 q2 N d : Nat} {c : Cn} {w0 wr w' : World} {b : Msk} {v : Nat → Value} (h : JCp n q1 q2 N d c w0 b v wr) (k : Below wr.heap.size wr w') (hn : n ≤ q1) : JCp n q1 q2 N d c w0 b v w' :=
  ⟨h.bx.below k, h.rb.below k, h.bl.trans (k.mono (by have := h.bx.lt; omega)), Nat.le_trans h.hN k.size, h.tr.below k, h.r5, h.r8, h.p9, h.p1, fun e => by
    obtain ⟨a, cap, h1, h2, h3⟩ := h.p2 e
    exact ⟨a, cap, h1, h2.below k, h3⟩, h.p4, fun e => by
    obtain ⟨a, cap, h1, h2, h3⟩ := h.p5 e
    exact ⟨a, cap, h1, h2.below k, h3⟩, h.p7, fun e => by
    obtain ⟨a, cap, h1, h2, h3⟩ := h.p8 e
    exact ⟨a, cap, h1, h2.keptB k, h3⟩⟩
theorem Far.own {w : World} {a : Option Addr} {b0 n cap size : Nat} {t : TypeId} {xs : List Value} (h : w.ownsRow b0 t size (.slice a n cap) n xs) : ∀ g, g < b0 → Far a n g := fun g hg _ p off e => by
  have := (h.lt p (by rw [e]; rfl)).1
  omega
def ndC (n : Nd) (a4 : Option Addr) (c4 : Nat) (a5 : Option Addr) (c5 : Nat) (a8 : Option Addr) (c8 : Nat) : Nd := ⟨n.kind, n.name, n.field, n.sign, a4, c4, n.vals, a5, c5, n.whs, n.within, n.number, a8, c8⟩
theorem CpS.start {n q1 q2 N d c4 c5 c8 : Nat} {a4 a5 a8 : Option Addr} {c : Cn} {w wy : World} (hT : TAt (d + 1) w c) (hn : w.heap.size = n) (hq : n ≤ q1 ∧ n ≤ q2 ∧ q1 ≠ q2 ∧ q1 < N ∧ q2 < N)
    (hJ : OB wy q1 c.cells 30 ∧ OB wy q2 condZ 30 ∧ Below n w wy ∧ N ≤ wy.heap.size ∧ TAt (d + 1) wy c)
    (R4 : RAt wy a4 3 Vl.cells c.nd.vals) (R5 : RAt wy a5 5 Wh.cells c.nd.whs) (K4 : ∀ g, g < N → Far a4 c.nd.vals.length g) (K5 : ∀ g, g < N → Far a5 c.nd.whs.length g)
    (hc : (c.nd.vals.length ≤ c4 ∧ c4 ≤ maxLen) ∧ c.nd.whs.length ≤ c5 ∧ c5 ≤ maxLen)
    (O8 : wy.ownsRow N 30 9 (.slice a8 c.args.length c8) c.args.length (c.args.flatMap Cn.cells))
    (F4 : ∀ g, (Value.slice a8 c.args.length c8).ownBlock = some g → Far a4 c.nd.vals.length g) (F5 : ∀ g, (Value.slice a8 c.args.length c8).ownBlock = some g → Far a5 c.nd.whs.length g) (FA : ∀ g, (Value.slice a8 c.args.length c8).ownBlock = some g → ∀ y ∈ c.args, FarT d y g) :
    CpS n q1 q2 N d (ndC c.nd a4 c4 a5 c5 a8 c8) c.args w (((wy.setCell ⟨q1, 4, none⟩ (.slice a4 c.nd.vals.length c4)).setCell ⟨q1, 5, none⟩ (.slice a5 c.nd.whs.length c5)).setCell ⟨q1, 8, none⟩ (.slice a8 c.args.length c8)) := by
  obtain ⟨h1, h2, hne, h4, h5⟩ := hq
  obtain ⟨bx, rb, bl, hs, tr⟩ := hJ
  have gs : ∀ (w : World) (i : Nat) (v : Value), w.grownBy (w.setCell ⟨q1, i, none⟩ v) (some q1) := fun w i v => ⟨rfl, rfl, rfl, by simp [World.setCell], fun j _ hne => Below.heap_setCell w _ _ j (by rintro rfl; exact hne rfl)⟩
  have g1 := gs wy 4 (.slice a4 c.nd.vals.length c4)
  have g2 := gs _ 5 (.slice a5 c.nd.whs.length c5) |> grown_trans g1
  have g3 := gs _ 8 (.slice a8 c.args.length c8) |> grown_trans g2
  have b3 := ((bx.put 4 (.slice a4 c.nd.vals.length c4) rfl).put 5 (.slice a5 c.nd.whs.length c5) rfl).put 8 (.slice a8 c.args.length c8) (cs' := (Cn.mk (ndC c.nd a4 c4 a5 c5 a8 c8) c.args).cells) rfl
  generalize ((wy.setCell ⟨q1, 4, none⟩ (.slice a4 c.nd.vals.length c4)).setCell ⟨q1, 5, none⟩ (.slice a5 c.nd.whs.length c5)).setCell ⟨q1, 8, none⟩ (.slice a8 c.args.length c8) = W at *
  have hfar : ∀ g, n ≤ g → FarT (d + 1) c g := fun g hg => hT.newFar (by omega)
  obtain ⟨o1, o2, o3, o4, o5, o6, o7, o8, o9, o10⟩ := tr.1
  have ow : W.ownsRow N 30 9 (.slice a8 c.args.length c8) c.args.length (c.args.flatMap Cn.cells) := O8.kept g3 (by
    cases e : (Value.slice a8 c.args.length c8).ownBlock with
    | none => exact .inl rfl
    | some b => exact .inr (fun e' => by have := (O8.lt b e).1; have := Option.some.inj e'; omega))
  obtain ⟨a', c', e', rA, hA1, hA2⟩ := RAt.of_own ow (fun x _ => x.len)
  injection e' with e1 _ e2
  subst e1 e2
  refine ⟨b3, rb.grown g3 (fun e => hne (Option.some.inj e)), h1, h2, hne, h4, h5, Nat.le_trans hs g3.size, ow, ⟨⟨o1, o2, o3, o4, ⟨hc.1.1, hc.1.2, o5.2.2⟩, ⟨hc.2.1, hc.2.2, o6.2.2⟩, o7, o8, o9, o10⟩, ⟨hA1, hA2, tr.2.1.2.2⟩, R4.kept g3 (fun g e => by obtain rfl := Option.some.inj e; exact K4 _ h4), R5.kept g3 (fun g e => by obtain rfl := Option.some.inj e; exact K5 _ h4), rA, fun x hx => (tr.2.2.2.2.2 x hx).kept g3 (fun g e => by obtain rfl := Option.some.inj e; exact (hfar _ h1).2.2.2 x hx)⟩,
    fun b hb => ⟨K4 b (by omega), K5 b (by omega)⟩, ⟨⟨K4 _ h4, K5 _ h4, Far.own O8 _ h4, (hfar _ h1).2.2.2⟩, ⟨K4 _ h5, K5 _ h5, Far.own O8 _ h5, (hfar _ h2).2.2.2⟩⟩, fun g hg => ⟨F4 g hg, F5 g hg, FA g hg⟩, Below.grown bl g3 (by omega) (fun b e => by have := Option.some.inj e; omega)⟩
theorem CpS.fin {n q1 q2 N d : Nat} {nd : Nd} {l : List Cn} {w wr w9 : World} (h : CpS n q1 q2 N d nd l w wr) (k9 : wr.grownBy w9 (some q2)) (hn : w.heap.size = n) (hN : n ≤ N) {f : Cn} (hf : er (d + 1) (.mk nd l) = f) (hl : ∀ x ∈ l, ∀ b, b < n → FarT d x b) :
    CopyX (d + 1) f w (.mk nd l) w9 ∧ CopyY (d + 1) w (.mk nd l) w9 := by
  subst hn
  refine ⟨⟨h.tr.kept k9 (fun g e => by obtain rfl := Option.some.inj e; exact h.fq.2), hf, fun b hb => ⟨(h.nv b hb).1, (h.nv b hb).2, Far.own h.own b (by omega), fun x hx => hl x hx b hb⟩, Below.grown h.bl k9 (by have := h.bs; have := h.b1; have := h.n1; omega) (fun b e => by have := Option.some.inj e; have := h.n2; omega)⟩, ⟨own_base (h.own.kept k9 ?_) hN, fun g hg => h.fg g hg⟩⟩
  cases e : (Value.slice nd.aa l.length nd.ac).ownBlock with
  | none => exact .inl rfl
  | some b => exact .inr (fun e' => by have := (h.own.lt b e).1; have := h.b2; have := Option.some.inj e'; omega)
end Go.Proofs.YtfdpfkdfglombaaGreatDoor
/- segment.Copy (printed by gen_copyc.py). -/
set_option linter.unusedVariables false
namespace Go.Proofs.YtfdpfkdfglombaaGreatDoor
open Go.RowKit

set_option maxRecDepth 100000 in
set_option maxHeartbeats 16000000 in
theorem copy_succ (d : Nat) (IH : ∀ (c : Cn) (w : World), TAt d w c → Calls Tryz.prog 107 #[c.agg] w (CopyO d c w)) (c : Cn) (w : World) (hc : TAt (d + 1) w c) :
    Calls Tryz.prog 107 #[c.agg] w (CopyO (d + 1) c w) := by
  have HI := Lib.hid IH
  have HT := Lib.hid hc
  obtain ⟨hok, ⟨ha1, ha2, ha3⟩, hV, hW, hA, hC⟩ := hc
  have hn1 := hok.2.2.2.2.1.2.2
  have hn2 := hok.2.2.2.2.2.1.2.2
  have hn3 := wdM_le ha3
  have CV := Lib.hid (fun w h => cloneVl_any c.nd.va c.nd.vals _ c.nd.vc w rfl hn1 h)
  have CW := Lib.hid (fun w h => cloneWh_any c.nd.wa c.nd.whs _ c.nd.wc w rfl hn2 h)
  have CA := Lib.hid (fun w h => cloneCn_any c.nd.aa c.args _ c.nd.ac w rfl hn3 h)
  clear hok ha1 ha2 ha3 hV hW hA hC IH
  unfold Cn.agg at *
  have HCC := Lib.hid (show c.cells = [.int .i64 c.nd.kind, .string c.nd.name, .string c.nd.field, .string c.nd.sign, .slice c.nd.va c.nd.vals.length c.nd.vc, .slice c.nd.wa c.nd.whs.length c.nd.wc, .int .i64 c.nd.within, .int .i64 c.nd.number, .slice c.nd.aa c.args.length c.nd.ac] from rfl)
  have HX := Lib.hid ((OB.new w c.cells 30).alloc (.cells condZ.toArray 30))
  have HZ := Lib.hid (OB.new (w.alloc (.cells c.cells.toArray 30)) condZ 30)
  have HB := Lib.hid (((Below.refl w.heap.size w).alloc (Nat.le_refl _) (.cells c.cells.toArray 30)).alloc (by simp) (.cells condZ.toArray 30))
  have HT2 := Lib.hid (HT.out.below HB.out)
  have hsz : (w.alloc (.cells c.cells.toArray 30)).heap.size = w.heap.size + 1 := World.size_alloc _ _
  rw [hsz] at HZ
  have hsz2 : ((w.alloc (.cells c.cells.toArray 30)).alloc (.cells condZ.toArray 30)).heap.size = w.heap.size + 1 + 1 := by rw [World.size_alloc, hsz]
  clear hsz
  go_enter Tryz.func107, Tryz.ntmps107
  go_upto_region 1 with (fail)
  rw [show (w.alloc (.cells #[.int .i64 c.nd.kind, .string c.nd.name, .string c.nd.field, .string c.nd.sign, .slice c.nd.va c.nd.vals.length c.nd.vc, .slice c.nd.wa c.nd.whs.length c.nd.wc, .int .i64 c.nd.within, .int .i64 c.nd.number, .slice c.nd.aa c.args.length c.nd.ac] 30)).alloc (.cells #[.int .i64 0, .string ⟨#[]⟩, .string ⟨#[]⟩, .string ⟨#[]⟩, .slice none 0 0, .slice none 0 0, .int .i64 0, .int .i64 0, .slice none 0 0] 30) = (w.alloc (.cells c.cells.toArray 30)).alloc (.cells condZ.toArray 30) from rfl]
  generalize (w.alloc (.cells c.cells.toArray 30)).alloc (.cells condZ.toArray 30) = w2 at *
  obtain ⟨n, hn⟩ : ∃ z, w.heap.size = z := ⟨_, rfl⟩
  have Hn := Lib.hid hn
  rw [hn] at HX HZ HB hsz2 ⊢
  clear hn
  obtain ⟨q2, hq2⟩ : ∃ z, n + 1 = z := ⟨_, rfl⟩
  obtain ⟨N, hN⟩ : ∃ z, q2 + 1 = z := ⟨_, rfl⟩
  rw [hq2] at HZ hsz2 ⊢
  rw [hN] at hsz2
  obtain ⟨q1, hq1⟩ : ∃ z, n = z := ⟨_, rfl⟩
  rw [hq1] at HX ⊢
  have HQN : Hid (n ≤ q1 ∧ n ≤ q2 ∧ q1 ≠ q2 ∧ q1 < N ∧ q2 < N) := Lib.hid (by omega)
  have hq12 : ¬ q1 = q2 := HQN.out.2.2.1
  have hq21 : ¬ q2 = q1 := fun e => hq12 e.symm
  clear hq1 hq2 hN
  refine wp_region_any (by kernel_rfl) ?_
  change wpAny _ _ _ _ _ _ _ (World.drew _)
  have HXd := Lib.hid (show OB w2.drew q1 c.cells 30 from HX.out)
  have HZd := Lib.hid (show OB w2.drew q2 condZ 30 from HZ.out)
  have HBd := Lib.hid (show Below n w w2.drew from HB.out.drew)
  have HTd := Lib.hid (show TAt (d + 1) w2.drew c from HT2.out.below ((Below.refl _ _).drew))
  have HNd : Hid (N ≤ w2.drew.heap.size) := Lib.hid (by show N ≤ w2.heap.size; omega)
  clear HX HZ HB HT2 hsz2
  obtain ⟨wd, hwd⟩ : ∃ z, w2.drew = z := ⟨_, rfl⟩
  rw [hwd] at HXd HZd HBd HTd HNd ⊢
  clear hwd
  refine wpAny_take (i := 0) (oi := ⟨some 5, _, _, _, _, _⟩) (v := (.pointer (some ⟨q1, 4, none⟩))) rfl (by kernel_rfl) (by kernel_rfl) (by kernel_rfl) (fun _ _ _ h => h) (Or.inl ⟨by rfl, fun w => by go_simp⟩) ?_
  refine wpAny_take (i := 3) (oi := ⟨some 8, _, _, _, _, _⟩) (v := (.pointer (some ⟨q1, 5, none⟩))) rfl (by kernel_rfl) (by kernel_rfl) (by kernel_rfl) (fun _ _ _ h => h) (Or.inl ⟨by rfl, fun w => by go_simp⟩) ?_
  refine wpAny_take (i := 6) (oi := ⟨some 11, _, _, _, _, _⟩) (v := (.pointer (some ⟨q1, 8, none⟩))) rfl (by kernel_rfl) (by kernel_rfl) (by kernel_rfl) (fun _ _ _ h => h) (Or.inl ⟨by rfl, fun w => by go_simp⟩) ?_
  refine wpAny_mask (n := 5) (m := 12) #[true, false, false, true, false, false, true, false, false, false, false, false, false, false, false] [1, 2, 4, 5, 7, 8, 9] (fun i => if i = 2 then [1] else if i = 5 then [4, 2] else if i = 8 then [7, 5] else []) [6, 7, 9, 10, 12, 13, 14] (fun _ => undef) (JCp n q1 q2 N d c w) rfl (by decide) (by kernel_rfl) (by kernel_rfl) ?stC ?hsC ?heC
  case stC => exact ⟨HXd.out, HZd.out, HBd.out, HNd.out, HTd.out, fun e => (by cases e), fun e => (by cases e), fun e => (by cases e), fun e => (by cases e), fun e => (by cases e), fun e => (by cases e), fun e => (by cases e), fun e => (by cases e), fun e => (by cases e)⟩
  case hsC =>
    intro i hi b u wy hbi hD hJ
    simp only [List.mem_cons, List.mem_nil_iff, or_false] at hi
    have HJ := Lib.hid hJ
    rcases hi with rfl | rfl | rfl | rfl | rfl | rfl | rfl
    · refine wpOp_calm (o := ⟨some 6, ?ca1, ?ca2, ?ca3, ?ca4, ?ca5⟩) ?cai ?cag ?_
      case cai => exact rfl
      case cag => exact rfl
      intro K' Q' hK'
      have HK := Lib.hid hK'
      clear hK'
      have y := hJ.bx.cell 4 _ rfl
      have yl := hJ.bx.lt
      clear hJ
      simp only [setAll, List.foldl]
      go_simp
      exact HK.out _ _ ⟨upd u 6 (.slice c.nd.va c.nd.vals.length c.nd.vc), by kernel_rfl, { HJ.out with p1 := fun _ => rfl }⟩
    · refine wpOp_calm (o := ⟨some 7, ?cb1, ?cb2, ?cb3, ?cb4, ?cb5⟩) ?cbi ?cbg ?_
      case cbi => exact rfl
      case cbg => exact rfl
      intro K' Q' hK'
      have HK := Lib.hid hK'
      clear hK'
      have h1 := HJ.out.p1 (hD 1 (by simp))
      have HC := Lib.hid (CV.out wy hJ.tr.2.2.1)
      clear hJ
      simp only [setAll, List.foldl, h1]
      go_simp
      refine HC.out.mono ?_
      rintro e w' ⟨v', rfl, own, bl⟩
      obtain ⟨a, cap, rfl, hR, hc1, hc2⟩ := RAt.of_own own (fun x _ => x.len)
      have HJb := HJ.out.below bl HQN.out.1
      exact HK.out _ _ ⟨upd (upd u 6 (.slice c.nd.va c.nd.vals.length c.nd.vc)) 7 (.slice a c.nd.vals.length cap), by kernel_rfl, by
        rw [upd_same h1]
        exact { HJb with p2 := fun _ => ⟨a, cap, rfl, hR, hc1, hc2, fun g hg => Far.own own g (by have := HJ.out.hN; omega)⟩, r5 := fun _ => rfl, p8 := fun e => absurd (HJ.out.r5 (HJ.out.r8 e)) (by rw [hbi]; simp) }⟩
    · refine wpOp_calm (o := ⟨some 9, ?cc1, ?cc2, ?cc3, ?cc4, ?cc5⟩) ?cci ?ccg ?_
      case cci => exact rfl
      case ccg => exact rfl
      intro K' Q' hK'
      have HK := Lib.hid hK'
      clear hK'
      have y := hJ.bx.cell 5 _ rfl
      have yl := hJ.bx.lt
      clear hJ
      simp only [setAll, List.foldl]
      go_simp
      exact HK.out _ _ ⟨upd u 9 (.slice c.nd.wa c.nd.whs.length c.nd.wc), by kernel_rfl, { HJ.out with p4 := fun _ => rfl }⟩
    · refine wpOp_calm (o := ⟨some 10, ?cd1, ?cd2, ?cd3, ?cd4, ?cd5⟩) ?cdi ?cdg ?_
      case cdi => exact rfl
      case cdg => exact rfl
      intro K' Q' hK'
      have HK := Lib.hid hK'
      clear hK'
      have h1 := HJ.out.p4 (hD 4 (by simp))
      have h2 := hD 2 (by simp)
      have HC := Lib.hid (CW.out wy hJ.tr.2.2.2.1)
      clear hJ
      simp only [setAll, List.foldl, h1]
      go_simp
      refine HC.out.mono ?_
      rintro e w' ⟨v', rfl, own, bl⟩
      obtain ⟨a, cap, rfl, hR, hc1, hc2⟩ := RAt.of_own own (fun x _ => x.len)
      have HJb := HJ.out.below bl HQN.out.1
      exact HK.out _ _ ⟨upd (upd u 9 (.slice c.nd.wa c.nd.whs.length c.nd.wc)) 10 (.slice a c.nd.whs.length cap), by kernel_rfl, by
        rw [upd_same h1]
        exact { HJb with p5 := fun _ => ⟨a, cap, rfl, hR, hc1, hc2, fun g hg => Far.own own g (by have := HJ.out.hN; omega)⟩, r5 := fun _ => h2, r8 := fun _ => rfl, p8 := fun e => absurd (HJ.out.r8 e) (by rw [hbi]; simp) }⟩
    · refine wpOp_calm (o := ⟨some 12, ?ce1, ?ce2, ?ce3, ?ce4, ?ce5⟩) ?cei ?ceg ?_
      case cei => exact rfl
      case ceg => exact rfl
      intro K' Q' hK'
      have HK := Lib.hid hK'
      clear hK'
      have y := hJ.bx.cell 8 _ rfl
      have yl := hJ.bx.lt
      clear hJ
      simp only [setAll, List.foldl]
      go_simp
      exact HK.out _ _ ⟨upd u 12 (.slice c.nd.aa c.args.length c.nd.ac), by kernel_rfl, { HJ.out with p7 := fun _ => rfl }⟩
    · refine wpOp_calm (o := ⟨some 13, ?cf1, ?cf2, ?cf3, ?cf4, ?cf5⟩) ?cfi ?cfg ?_
      case cfi => exact rfl
      case cfg => exact rfl
      intro K' Q' hK'
      have HK := Lib.hid hK'
      clear hK'
      have h1 := HJ.out.p7 (hD 7 (by simp))
      have h5 := hD 5 (by simp)
      obtain ⟨a4, c4, e4', R4, -, -, -⟩ := HJ.out.p2 (HJ.out.r5 h5)
      obtain ⟨a5, c5, e5', R5, -, -, -⟩ := HJ.out.p5 h5
      have E4 := Lib.hid e4'
      have E5 := Lib.hid e5'
      clear e4' e5'
      have hNy := HJ.out.hN
      have HC := Lib.hid (CA.out wy hJ.tr.2.2.2.2.1)
      clear hJ
      simp only [setAll, List.foldl, h1]
      go_simp
      refine HC.out.mono ?_
      rintro e w' ⟨v', rfl, own, bl⟩
      obtain ⟨a, cap, rfl, hR, hc1, hc2⟩ := RAt.of_own own (fun x _ => x.len)
      have HJb := HJ.out.below bl HQN.out.1
      exact HK.out _ _ ⟨upd (upd u 12 (.slice c.nd.aa c.args.length c.nd.ac)) 13 (.slice a c.args.length cap), by kernel_rfl, by
        rw [upd_same h1]
        exact { HJb with r8 := fun _ => h5, p8 := fun _ => ⟨a, cap, rfl, own_base own hNy, fun g hg => ⟨fun a' c' e => by
          have e9 : u 7 = .slice a' c.nd.vals.length c' := e
          rw [E4.out] at e9
          injection e9 with e9
          rw [← e9]
          exact R4.newFar (own.lt g hg).1, fun a' c' e => by
          have e9 : u 10 = .slice a' c.nd.whs.length c' := e
          rw [E5.out] at e9
          injection e9 with e9
          rw [← e9]
          exact R5.newFar (own.lt g hg).1, fun y hy => (HJ.out.tr.2.2.2.2.2 y hy).newFar (own.lt g hg).1⟩⟩ }⟩
    · refine wpOp_calm (o := ⟨some 14, ?cg1, ?cg2, ?cg3, ?cg4, ?cg5⟩) ?cgi ?cgg ?_
      case cgi => exact rfl
      case cgg => exact rfl
      intro K' Q' hK'
      have HK := Lib.hid hK'
      clear hK'
      clear hJ
      simp only [setAll, List.foldl]
      go_simp
      exact HK.out _ _ ⟨upd u 14 (.pointer (some ⟨q1, 4, none⟩)), by kernel_rfl, { HJ.out with p9 := fun _ => rfl }⟩
  case heC =>
    intro b u wy hb hJ
    obtain ⟨a4, c4, e4, R4, k41, k42, k43⟩ := hJ.p2 (hb 2 (by simp))
    obtain ⟨a5, c5, e5, R5, k51, k52, k53⟩ := hJ.p5 (hb 5 (by simp))
    obtain ⟨a8, c8, e8, O8, k8⟩ := hJ.p8 (hb 8 (by simp))
    have e1 := hJ.p1 (hb 1 (by simp))
    have e9 := hJ.p4 (hb 4 (by simp))
    have e12 := hJ.p7 (hb 7 (by simp))
    have e14 := hJ.p9 (hb 9 (by simp))
    have HF4 := Lib.hid (fun g hg => (k8 g hg).1 a4 c4 e4)
    have HF5 := Lib.hid (fun g hg => (k8 g hg).2.1 a5 c5 e5)
    have HFA := Lib.hid (fun g hg => (k8 g hg).2.2)
    have HR4 := Lib.hid R4
    have HR5 := Lib.hid R5
    have HO8 := Lib.hid O8
    have HK4 := Lib.hid k43
    have HK5 := Lib.hid k53
    have HCP := Lib.hid (And.intro (And.intro k41 k42) (And.intro k51 k52))
    have HJB := Lib.hid (And.intro hJ.bx (And.intro hJ.rb (And.intro hJ.bl (And.intro hJ.hN hJ.tr))))
    simp only [setAll, List.foldl, e1, e4, e9, e5, e12, e8, e14]
    clear e1 e4 e9 e5 e12 e8 e14 k8 R4 R5 O8 k43 k53 k41 k42 k51 k52 hb hJ
    have V4 := Lib.hid (HJB.out.1.put 4 (.slice a4 c.nd.vals.length c4) rfl)
    have V5 := Lib.hid (V4.out.put 5 (.slice a5 c.nd.whs.length c5) rfl)
    have i1 := HJB.out.1.cell 4 _ rfl
    have f1 := HJB.out.1.free 4
    have l1 := HJB.out.1.lt
    refine wpAny_ready (rs := [10]) (by kernel_rfl) (by simp) ?_
    refine fun j hj => ?_
    obtain rfl : j = 10 := List.mem_singleton.1 hj
    refine wpOp_calm (o := ⟨none, ?da1, ?da2, ?da3, ?da4, ?da5⟩) ?dai ?dag ?_
    case dai => exact rfl
    case dag => exact rfl
    intro K' Q' hK'
    have HK := Lib.hid hK'
    clear hK'
    go_simp
    refine HK.out _ _ ?_
    clear HK i1 f1 l1
    refine wpAny_take (i := 11) (oi := ⟨some 15, _, _, _, _, _⟩) (v := (.pointer (some ⟨q1, 5, none⟩))) rfl (by kernel_rfl) (by kernel_rfl) (by kernel_rfl) (fun _ _ _ h => h) (Or.inl ⟨by rfl, fun w => by go_simp⟩) ?_
    have i1 := V4.out.cell 5 _ rfl
    have f1 := V4.out.free 5
    have l1 := V4.out.lt
    refine wpAny_ready (rs := [12]) (by kernel_rfl) (by simp) ?_
    refine fun j hj => ?_
    obtain rfl : j = 12 := List.mem_singleton.1 hj
    refine wpOp_calm (o := ⟨none, ?dc1, ?dc2, ?dc3, ?dc4, ?dc5⟩) ?dci ?dcg ?_
    case dci => exact rfl
    case dcg => exact rfl
    intro K' Q' hK'
    have HK := Lib.hid hK'
    clear hK'
    go_simp
    refine HK.out _ _ ?_
    clear HK i1 f1 l1
    refine wpAny_take (i := 13) (oi := ⟨some 16, _, _, _, _, _⟩) (v := (.pointer (some ⟨q1, 8, none⟩))) rfl (by kernel_rfl) (by kernel_rfl) (by kernel_rfl) (fun _ _ _ h => h) (Or.inl ⟨by rfl, fun w => by go_simp⟩) ?_
    have i1 := V5.out.cell 8 _ rfl
    have f1 := V5.out.free 8
    have l1 := V5.out.lt
    refine wpAny_ready (rs := [14]) (by kernel_rfl) (by simp) ?_
    refine fun j hj => ?_
    obtain rfl : j = 14 := List.mem_singleton.1 hj
    refine wpOp_calm (o := ⟨none, ?de1, ?de2, ?de3, ?de4, ?de5⟩) ?dei ?deg ?_
    case dei => exact rfl
    case deg => exact rfl
    intro K' Q' hK'
    have HK := Lib.hid hK'
    clear hK'
    go_simp
    refine HK.out _ _ ?_
    clear HK i1 f1 l1
    have HS0 := Lib.hid (CpS.start HT.out Hn.out HQN.out HJB.out HR4.out HR5.out HK4.out HK5.out HCP.out HO8.out HF4.out HF5.out HFA.out)
    have HND := Lib.hid (show erN (ndC c.nd a4 c4 a5 c5 a8 c8) = erN c.nd from rfl)
    have HRL0 : Hid (RL d (er d) c.args n 0 c.args) := Lib.hid (RL.start rfl)
    refine wpAny_done (by kernel_rfl) ?_ _
    clear V4 V5 HJB HR4 HR5 HK4 HK5 HCP HO8 HF4 HF5 HFA HXd HZd HBd HTd HNd CV CW CA HCC
    generalize ((wy.setCell ⟨q1, 4, none⟩ (.slice a4 c.nd.vals.length c4)).setCell ⟨q1, 5, none⟩ (.slice a5 c.nd.whs.length c5)).setCell ⟨q1, 8, none⟩ (.slice a8 c.args.length c8) = w3 at *
    have y8 := HS0.out.bx.cell 8 (.slice a8 c.args.length c8) rfl
    have yl := HS0.out.bx.lt
    obtain ⟨na, hna⟩ : ∃ z, c.args.length = z := ⟨_, rfl⟩
    have HNA := Lib.hid hna
    rw [hna] at y8 ⊢
    rw [hna] at hn3
    clear hna
    go_wp2_with fail
    clear y8 yl
    go_loopw [20] (fun i wr => ∃ (k : Nat) (l : List Cn), k ≤ na ∧ i = .int .i64 k ∧ l.length = na ∧ RL d (er d) c.args n k l ∧ CpS n q1 q2 N d (ndC c.nd a4 c4 a5 c5 a8 c8) l w wr) (fun i _ => na - (intOf i).toNat)
    case atStart => exact ⟨0, c.args, Nat.zero_le _, rfl, HNA.out, HRL0.out, HS0.out⟩
    case round =>
      obtain ⟨k, l, hk, rfl, hln, hRL, hS⟩ := hrel
      have HLN := Lib.hid hln
      have HRL := Lib.hid hRL
      have HS := Lib.hid hS
      clear hRL hS HS0 HRL0
      by_cases hlt : k < na
      · have hkl : k < l.length := by omega
        have hka : k < c.args.length := by have := HNA.out; omega
        obtain ⟨g, hga, hgB, hgl⟩ := HS.out.row (by omega)
        have hga' : a8 = some ⟨g, 0, none⟩ := hga
        subst hga'
        have HGA := Lib.hid hga
        obtain ⟨c0, c1, c2, c3, c4', c5', c6, c7, c8'⟩ := HS.out.at9 hga k hkl
        have hsy : er d (l[k]'hkl) = er d (c.args[k]'hka) := by rw [HRL.out.sy k hkl hka, if_neg (Nat.lt_irrefl k)]
        obtain ⟨f0, hf0⟩ : ∃ z, er d (c.args[k]'hka) = z := ⟨_, rfl⟩
        rw [hf0] at hsy
        have IHx := Lib.hid (fun (w' : World) (h : TAt d w' (l[k]'hkl)) => (HI.out (l[k]'hkl) w' h).mono (fun e w'' (hq : CopyO d (l[k]'hkl) w' e w'') => (show ∃ x', e = .returned x'.agg ∧ CopyX d f0 w' x' w'' from by
          obtain ⟨x', h1, h2, h3⟩ := hq
          exact ⟨x', h1, by rw [← hsy]; exact h2⟩)))
        have HF0 := Lib.hid hf0
        obtain ⟨x, hx0⟩ : ∃ z, l[k] = z := ⟨_, rfl⟩
        rw [hx0] at c0 c1 c2 c3 c4' c5' c6 c7 c8' IHx
        clear hga hsy hf0
        have HSx := Lib.hid (HS.out.alloc (.cells #[.int .i64 x.nd.kind, .string x.nd.name, .string x.nd.field, .string x.nd.sign, .slice x.nd.va x.nd.vals.length x.nd.vc, .slice x.nd.wa x.nd.whs.length x.nd.wc, .int .i64 x.nd.within, .int .i64 x.nd.number, .slice x.nd.aa x.args.length x.nd.ac] 30))
        have HBx := Lib.hid (XB.new wr [.int .i64 x.nd.kind, .string x.nd.name, .string x.nd.field, .string x.nd.sign, .slice x.nd.va x.nd.vals.length x.nd.vc, .slice x.nd.wa x.nd.whs.length x.nd.wc, .int .i64 x.nd.within, .int .i64 x.nd.number, .slice x.nd.aa x.args.length x.nd.ac] 30)
        simp only [List.toArray] at HBx
        have HLA := Lib.hid hka
        clear HS hln
        go_upto_region 5 with (fail)
        clear c0 c1 c2 c3 c4' c5' c6 c7 c8'
        obtain ⟨p, hp⟩ : ∃ z, wr.heap.size = z := ⟨_, rfl⟩
        rw [hp] at HBx ⊢
        clear hp hgl
        generalize wr.alloc (.cells #[.int .i64 x.nd.kind, .string x.nd.name, .string x.nd.field, .string x.nd.sign, .slice x.nd.va x.nd.vals.length x.nd.vc, .slice x.nd.wa x.nd.whs.length x.nd.wc, .int .i64 x.nd.within, .int .i64 x.nd.number, .slice x.nd.aa x.args.length x.nd.ac] 30) = wx at *
        go_upto_region 5 with (fail)
        refine wp_region_any (by kernel_rfl) ?_
        change wpAny _ _ _ _ _ _ _ (World.drew _)
        have HSd := Lib.hid HSx.out.drew
        have HBd := Lib.hid (show XB wx.drew p [.int .i64 x.nd.kind, .string x.nd.name, .string x.nd.field, .string x.nd.sign, .slice x.nd.va x.nd.vals.length x.nd.vc, .slice x.nd.wa x.nd.whs.length x.nd.wc, .int .i64 x.nd.within, .int .i64 x.nd.number, .slice x.nd.aa x.args.length x.nd.ac] from HBx.out)
        clear HSx HBx
        obtain ⟨wd, hwd⟩ : ∃ z, wx.drew = z := ⟨_, rfl⟩
        rw [hwd] at HSd HBd ⊢
        clear hwd
        obtain ⟨M, hM⟩ : ∃ z, wd.heap.size = z := ⟨_, rfl⟩
        have HQ1 : Hid (q1 < M ∧ q2 < M ∧ g < M) := Lib.hid (by
          rw [← hM]
          have h1 := HSd.out.bs
          have h2 := HSd.out.b1
          have h3 := HSd.out.b2
          exact ⟨by omega, by omega, (HSd.out.own.lt g (by rw [HGA.out]; rfl)).2⟩)
        have HnN : Hid (n ≤ M) := Lib.hid (by have := HQ1.out.1; have := HSd.out.n1; omega)
        have hNr : M ≤ wd.heap.size := by omega
        clear hM
        refine wpAny_take (i := 0) (oi := ⟨some 25, _, _, _, _, _⟩) (v := (.pointer (some ⟨q1, 8, none⟩))) rfl (by kernel_rfl) (by kernel_rfl) (by kernel_rfl) (fun _ _ _ h => h) (Or.inl ⟨by rfl, fun w => by go_simp⟩) ?_
        refine wpAny_take (i := 2) (oi := ⟨some 27, _, _, _, _, _⟩) (v := (.int .i64 (k : Int))) rfl (by kernel_rfl) (by kernel_rfl) (by kernel_rfl) (fun _ _ _ h => h) (Or.inl ⟨by rfl, fun w => by go_simp⟩) ?_
        refine wpAny_mask (n := 2) (m := 5) #[true, false, true, false, false, false, false] [1, 3, 4] (fun i => if i = 4 then [3] else []) [26, 28, 29] (fun e => if e = 26 then u26 else if e = 28 then u28 else u29) (JRg n q1 q2 N d (ndC c.nd a4 c4 a5 c5 (some ⟨g, 0, none⟩) c8) l w g p M 26 28 29 x f0) rfl (by decide) (by kernel_rfl) (by kernel_rfl) ?stR ?hsR ?heR
        case stR => exact ⟨HSd.out, HBd.out, hNr, fun e => (by cases e), fun e => (by cases e), fun e => (by cases e)⟩
        case hsR =>
          intro i hi b u wy hbi hD hJ
          simp only [List.mem_cons, List.mem_nil_iff, or_false] at hi
          have HJ := Lib.hid hJ
          rcases hi with rfl | rfl | rfl
          · refine wpOp_calm (o := ⟨some 26, ?ra1, ?ra2, ?ra3, ?ra4, ?ra5⟩) ?rai ?rag ?_
            case rai => exact rfl
            case rag => exact rfl
            intro K' Q' hK'
            have HK := Lib.hid hK'
            clear hK'
            have y1 := hJ.st.bx.cell 8 (.slice (some ⟨g, 0, none⟩) l.length c8) rfl
            have yl := hJ.st.bx.lt
            clear hJ
            simp only [setAll, List.foldl]
            go_simp
            exact HK.out _ _ ⟨upd u 26 (.slice (some ⟨g, 0, none⟩) l.length c8), by kernel_rfl, ⟨HJ.out.st, HJ.out.bx, HJ.out.hN, fun _ => rfl, fun e => HJ.out.p3 e, fun e => HJ.out.p4 e⟩⟩
          · refine wpOp_calm (o := ⟨some 28, ?rb1, ?rb2, ?rb3, ?rb4, ?rb5⟩) ?rbi ?rbg ?_
            case rbi => exact rfl
            case rbg => exact rfl
            intro K' Q' hK'
            have HK := Lib.hid hK'
            clear hK'
            have c0 := hJ.bx.2 0 _ rfl
            have c1 := hJ.bx.2 1 _ rfl
            have c2 := hJ.bx.2 2 _ rfl
            have c3 := hJ.bx.2 3 _ rfl
            have c4 := hJ.bx.2 4 _ rfl
            have c5 := hJ.bx.2 5 _ rfl
            have c6 := hJ.bx.2 6 _ rfl
            have c7 := hJ.bx.2 7 _ rfl
            have c8 := hJ.bx.2 8 _ rfl
            have cl := hJ.bx.1
            clear hJ
            simp only [setAll, List.foldl]
            go_simp
            exact HK.out _ _ ⟨upd u 28 x.agg, by unfold Cn.agg; kernel_rfl, ⟨HJ.out.st, HJ.out.bx, HJ.out.hN, fun e => HJ.out.p1 e, fun _ => rfl, fun e => HJ.out.p4 e⟩⟩
          · refine wpOp_calm (o := ⟨some 29, ?rc1, ?rc2, ?rc3, ?rc4, ?rc5⟩) ?rci ?rcg ?_
            case rci => exact rfl
            case rcg => exact rfl
            intro K' Q' hK'
            have HK := Lib.hid hK'
            clear hK'
            have h3 := HJ.out.p3 (hD 3 (by simp))
            have hxm : x ∈ l := hx0 ▸ List.getElem_mem hkl
            have HC := Lib.hid (IHx.out wy (hJ.st.tr.2.2.2.2.2 x hxm))
            clear hJ
            simp only [setAll, List.foldl, h3]
            go_simp
            refine HC.out.mono ?_
            rintro e w' ⟨x', rfl, hX⟩
            exact HK.out _ _ ⟨upd (upd u 28 x.agg) 29 x'.agg, by unfold Cn.agg; kernel_rfl, by
              rw [upd_same h3]
              exact ⟨HJ.out.st.below hX.bl, HJ.out.bx.below hX.bl, Nat.le_trans HJ.out.hN hX.bl.size, fun e => HJ.out.p1 e, fun e => HJ.out.p3 e, fun _ => ⟨x', rfl, hX.tr, hX.sy, fun b hb => hX.nw b (Nat.lt_of_lt_of_le hb HJ.out.hN)⟩⟩⟩
        case heR =>
          intro b u wy hb hJ
          obtain ⟨x', h4, hT, hsy, hnw⟩ := hJ.p4 (hb 4 (by simp))
          have h1 := hJ.p1 (hb 1 (by simp))
          have h3 := hJ.p3 (hb 3 (by simp))
          try simp only [] at h1
          have HW := Lib.hid hJ.st
          simp only [setAll, List.foldl, h1, h3, h4]
          clear h1 h3 h4 hb hJ
          refine wpAny_take (i := 5) (oi := ⟨some 30, _, _, _, _, _⟩) (v := (.pointer (some ⟨g, k * 9, none⟩))) rfl (by kernel_rfl) (by kernel_rfl) (by kernel_rfl) (fun _ _ _ h => h) (Or.inl ⟨by rfl, fun w => by go_simp⟩) ?_
          obtain ⟨hth, hS⟩ := HW.out.set HGA.out k hkl hT ⟨hnw q1 HQ1.out.1, hnw q2 HQ1.out.2.1, hnw g HQ1.out.2.2⟩
          have hone : x'.cells.toArray.all (·.oneCell') = true := by simp [Cn.cells, Value.oneCell']
          refine wpAny_store_last (i := 6) (o := ⟨none, _, _, _, _, _⟩) 30 (.tmp 30) (.tmp 29) (by kernel_rfl) rfl rfl rfl g (k * 9) x'.cells (by kernel_rfl) (by kernel_rfl) hth sizeCond hone ?_
          have HS' := Lib.hid hS
          have HR' := Lib.hid (HRL.out.set (x' := x') HLA.out (hsy.trans HF0.out.symm) (fun b hb => hnw b (by have := HnN.out; omega)))
          clear hth hone hS hT hsy hnw HW
          refine wpAny_done (by kernel_rfl) ?_ _
          generalize wy.setCells g (k * 9) x'.cells = wk at *
          go_wp2_with fail
          go_roundw
          case rel => exact ⟨k + 1, l.set k x', by have := HLN.out; omega, by go_num, by rw [List.length_set]; exact HLN.out, HR'.out, HS'.out⟩
          case measure => simp [intOf]; omega
      · obtain rfl : na = k := by omega
        obtain ⟨hm, hnw⟩ := HRL.out.all (by have := HNA.out; omega)
        have HF : Hid (er (d + 1) (.mk (ndC c.nd a4 c4 a5 c5 a8 c8) l) = er (d + 1) c) := Lib.hid (by
          show Cn.mk _ (l.map (er d)) = Cn.mk _ (c.args.map (er d))
          rw [hm]; rfl)
        have HNW := Lib.hid hnw
        clear hm hnw HRL
        have HLX := Lib.hid hln
        clear hln
        have y0 := HS.out.bx.cell 0 (.int .i64 c.nd.kind) rfl
        have y1 := HS.out.bx.cell 1 (.string c.nd.name) rfl
        have y2 := HS.out.bx.cell 2 (.string c.nd.field) rfl
        have y3 := HS.out.bx.cell 3 (.string c.nd.sign) rfl
        have y4 := HS.out.bx.cell 4 (.slice a4 c.nd.vals.length c4) rfl
        have y5 := HS.out.bx.cell 5 (.slice a5 c.nd.whs.length c5) rfl
        have y6 := HS.out.bx.cell 6 (.int .i64 c.nd.within) rfl
        have y7 := HS.out.bx.cell 7 (.int .i64 c.nd.number) rfl
        have y8 := HS.out.bx.cell 8 (.slice a8 l.length c8) rfl
        have yl := HS.out.bx.lt
        go_wp2_with (refine wpList_store_oc _ rfl _ _ _ rfl q2 _ _ _ rfl rfl HS.out.rb sizeCond rfl rfl ?_)
        intro wz oz kz
        have r0 := oz.cell 0 _ rfl
        have r1 := oz.cell 1 _ rfl
        have r2 := oz.cell 2 _ rfl
        have r3 := oz.cell 3 _ rfl
        have r4 := oz.cell 4 _ rfl
        have r5 := oz.cell 5 _ rfl
        have r6 := oz.cell 6 _ rfl
        have r7 := oz.cell 7 _ rfl
        have r8 := oz.cell 8 _ rfl
        have HKz := Lib.hid kz
        clear oz kz y0 y1 y2 y3 y4 y5 y6 y7 y8 yl
        go_wp2_with fail
        refine bodyPost_ret (v := .agg #[.int .i64 c.nd.kind, .string c.nd.name, .string c.nd.field, .string c.nd.sign, .slice a4 c.nd.vals.length c4, .slice a5 c.nd.whs.length c5, .int .i64 c.nd.within, .int .i64 c.nd.number, .slice a8 l.length c8]) (by simp [results, Tryz.results107, go_sem, r0, r1, r2, r3, r4, r5, r6, r7, r8]) rfl ?_
        exact ⟨.mk (ndC c.nd a4 c4 a5 c5 a8 c8) l, rfl, HS.out.fin HKz.out Hn.out (by have := HQN.out; omega) HF.out HNW.out⟩
theorem copy_any : ∀ (d : Nat) (c : Cn) (w : World), TAt d w c → Calls Tryz.prog 107 #[c.agg] w (CopyO d c w)
  | 0, _, _, h => h.elim
  | d + 1, c, w, h => copy_succ d (fun c w h => copy_any d c w h) c w h
end Go.Proofs.YtfdpfkdfglombaaGreatDoor
/- A cheap copy: from the copier's result to a state, and behind the sort. -/
set_option linter.unusedVariables false
namespace Go.Proofs.YtfdpfkdfglombaaGreatDoor
open Go.RowKit

theorem wdM_lt {n : Nat} (h : n ≤ wdM) : n < 20 := Nat.lt_of_le_of_lt h (by decide)
theorem CpS.ofCopy {n q1 q2 d : Nat} {x f : Cn} {w w2 w3 w4 : World} (hn : w.heap.size = n) (h2 : Below n w w2) (hq : n ≤ q1 ∧ n ≤ q2 ∧ q1 ≠ q2 ∧ q1 < w2.heap.size ∧ q2 < w2.heap.size) (hx : CopyX (d + 1) f w2 x w3) (hy : CopyY (d + 1) w2 x w3) (rb : OB w3 q2 condZ 30)
    (b4 : OB w4 q1 x.cells 30) (k4 : w3.grownBy w4 (some q1)) : CpS n q1 q2 w2.heap.size d x.nd x.args w w4 := by
  obtain ⟨h1, h1', hne, h4, h5⟩ := hq
  have hs := hx.bl.size
  have hx1 := hx.nw q1 h4
  have tr : TAt (d + 1) w4 x := hx.tr.kept k4 (fun g e => by obtain rfl := Option.some.inj e; exact hx1)
  have ow : w4.ownsRow w2.heap.size 30 9 (.slice x.nd.aa x.args.length x.nd.ac) x.args.length (x.args.flatMap Cn.cells) := hy.own.kept k4 (by
    cases e : (Value.slice x.nd.aa x.args.length x.nd.ac).ownBlock with
    | none => exact .inl rfl
    | some b => exact .inr (fun e' => by have := (hy.own.lt b e).1; have := Option.some.inj e'; omega))
  have ex : Cn.mk x.nd x.args = x := by cases x; rfl
  refine ⟨by rw [ex]; exact b4, rb.grown k4 (fun e => hne (Option.some.inj e)), h1, h1', hne, h4, h5, Nat.le_trans hs k4.size, ow, by rw [ex]; exact tr, fun b hb => ⟨(hx.nw b (by omega)).1, (hx.nw b (by omega)).2.1⟩, by rw [ex]; exact ⟨hx1, hx.nw q2 h5⟩, fun g hg => ?_, ?_⟩
  · obtain ⟨a1, a2, a3⟩ := hy.far g hg
    exact ⟨a1, a2, a3⟩
  · exact Below.grown (h2.trans (hx.bl.mono (by omega))) k4 (by omega) (fun b e => by have := Option.some.inj e; omega)
theorem CpS.sorted {n q1 q2 B d : Nat} {nd : Nd} {l s : List Cn} {w wr w' : World} (h : CpS n q1 q2 B d nd l w wr) (hl : s.length = l.length) (hm : ∀ x ∈ s, x ∈ l) (hs : LCn d B w' (.slice nd.aa l.length nd.ac) s) (k : wr.grownBy w' (Value.slice nd.aa l.length nd.ac).ownBlock) : CpS n q1 q2 B d nd s w w' := by
  have hr : ∀ q, q < B → (Value.slice nd.aa l.length nd.ac).ownBlock ≠ some q := fun q hq e => by
    have := (h.own.lt q e).1
    omega
  obtain ⟨t1, t2, t3, t4, t5, t6⟩ := h.tr
  have hcs : (Cn.mk nd s).cells = (Cn.mk nd l).cells := by simp [Cn.cells, Cn.nd, Cn.args, hl]
  have ow := hs.own
  rw [← hl] at ow
  refine ⟨by rw [hcs]; exact h.bx.grown k (hr q1 h.b1), h.rb.grown k (hr q2 h.b2), h.n1, h.n2, h.ne, h.b1, h.b2, Nat.le_trans h.bs k.size, ow, ⟨t1, ?_, t3.kept k (fun g e => (h.fg g e).1), t4.kept k (fun g e => (h.fg g e).2.1), ?_, fun x hx => ?_⟩, h.nv, ?_, fun g hg => ?_, Below.grown h.bl k (by have := h.bs; have := h.b1; have := h.n1; omega) (fun b e => by have := (h.own.lt b e).1; have := h.b1; have := h.n1; omega)⟩
  · simp only [Cn.nd, Cn.args] at t2 ⊢
    rw [hl]; exact t2
  · obtain ⟨a', c', e', rA, -, -⟩ := RAt.of_own ow (fun x _ => x.len)
    injection e' with e1 _ _
    simp only [Cn.nd, Cn.args]
    rw [e1]; exact rA
  · exact (t6 x (hm x hx)).kept k (fun g e => (h.fg g e).2.2 x (hm x hx))
  · refine ⟨⟨h.fq.1.1, h.fq.1.2.1, ?_, fun x hx => h.fq.1.2.2.2 x (hm x hx)⟩, ⟨h.fq.2.1, h.fq.2.2.1, ?_, fun x hx => h.fq.2.2.2.2 x (hm x hx)⟩⟩
    · have := h.fq.1.2.2.1
      simp only [Cn.nd, Cn.args] at this ⊢
      rw [hl]; exact this
    · have := h.fq.2.2.2.1
      simp only [Cn.nd, Cn.args] at this ⊢
      rw [hl]; exact this
  · rw [hl] at hg
    obtain ⟨a1, a2, a3⟩ := h.fg g hg
    exact ⟨a1, a2, fun y hy => a3 y (hm y hy)⟩
/-- what is copied uses what its kind uses, and is as large -/
theorem like_er {d : Nat} {x y : Cn} (h : er d x = er d y) : szN d x = szN d y ∧ (Fm d y → Fm d x) ∧ chC d x = chC d y := by
  refine ⟨?_, fun hf => (Fm_er d x).2 (by rw [h]; exact (Fm_er d y).1 hf), chC_er d x y h⟩
  rw [← szN_er d x, h, szN_er]
theorem like_ch {d : Nat} {x y : Cn} (h : er d x = chC d y) : szN d x = szN d y ∧ (Fm d y → Fm d x) := by
  refine ⟨?_, fun hf => (Fm_er d x).2 (by rw [h]; exact Fm_chC d y hf)⟩
  rw [← szN_er d x, h, szN_chC]
/-- the list behind the loop, as the sort wants it -/
theorem CpS.lcn {n q1 q2 B d : Nat} {nd : Nd} {l a0 : List Cn} {w wr : World} (h : CpS n q1 q2 B d nd l w wr) (hm : l.map (er d) = a0.map (chC d)) (hs : ∀ x ∈ a0, szN d x ≤ 300 ∧ Fm d x) : LCn d B wr (.slice nd.aa l.length nd.ac) l := by
  refine ⟨h.own, fun x hx g hg => ?_⟩
  obtain ⟨i, hi, rfl⟩ := List.getElem_of_mem hx
  have hl : l.length = a0.length := by have := congrArg List.length hm; simpa using this
  have hi' : i < a0.length := by omega
  have he : er d l[i] = chC d a0[i] := by
    have := congrArg (fun m => m[i]?) hm
    simpa [hi, hi'] using this
  obtain ⟨e1, e2⟩ := like_ch he
  have ha := hs _ (List.getElem_mem hi')
  exact ⟨h.tr.2.2.2.2.2 _ hx, by rw [e1]; exact ha.1, e2 ha.2, (h.fg g hg).2.2 _ hx⟩
end Go.Proofs.YtfdpfkdfglombaaGreatDoor
/- The reference's cheap form: a list of conditions that grows. -/
set_option linter.unusedVariables false
namespace Go.Proofs.YtfdpfkdfglombaaGreatDoor
open Go.RowKit

/-- what the reference leaves: it shares what the condition has, and no more -/
def CheapRO (d : Nat) (c : Cn) (w : World) (e : Ending) (w' : World) : Prop :=
  ∃ x, e = .returned x.agg ∧ TAt d w' x ∧ er d x = chC d c ∧ (∀ g, g < w.heap.size → FarT d c g → FarT d x g) ∧ Below w.heap.size w w'
/-- the list so far -/
structure CrS (n q1 q2 B d : Nat) (c : Cn) (l : List Cn) (v : Value) (w0 wr : World) : Prop where
  bx : OB wr q1 c.cells 30
  rb : OB wr q2 condZ 30
  n1 : n ≤ q1
  n2 : n ≤ q2
  ne : q1 ≠ q2
  b1 : q1 < B
  b2 : q2 < B
  bs : B ≤ wr.heap.size
  own : wr.ownsRow B 30 9 v l.length (l.flatMap Cn.cells)
  el : ∀ x ∈ l, TAt d wr x ∧ (∀ g, v.ownBlock = some g → FarT d x g) ∧ FarT d x q1 ∧ FarT d x q2 ∧ ∀ g, g < n → FarT (d + 1) c g → FarT d x g
  bl : Below n w0 wr
section
variable {n q1 q2 B d : Nat} {c : Cn} {l : List Cn} {v : Value} {w0 wr w' : World}
theorem CrS.below (h : CrS n q1 q2 B d c l v w0 wr) (k : Below wr.heap.size wr w') : CrS n q1 q2 B d c l v w0 w' :=
  ⟨h.bx.below k, h.rb.below k, h.n1, h.n2, h.ne, h.b1, h.b2, Nat.le_trans h.bs k.size, h.own.keptB k, fun x hx => ⟨(h.el x hx).1.below k, (h.el x hx).2⟩, h.bl.trans (k.mono (by have := h.bs; have := h.b1; have := h.n1; omega))⟩
theorem CrS.alloc (h : CrS n q1 q2 B d c l v w0 wr) (o : Obj) : CrS n q1 q2 B d c l v w0 (wr.alloc o) := h.below ((Below.refl _ _).alloc (Nat.le_refl _) o)
theorem CrS.app (h : CrS n q1 q2 B d c l v w0 wr) {x : Cn} {o : Obj} {g cap : Nat} (hx : TAt d wr x) (hf : ∀ g, g < wr.heap.size → (∀ b, v.ownBlock = some b → g = b → FarT d x g)) (hq : FarT d x q1 ∧ FarT d x q2) (hn : ∀ g, g < n → FarT (d + 1) c g → FarT d x g)
    (own8 : w'.ownsRow B 30 9 (.slice (some ⟨g, 0, none⟩) (l.length + 1) cap) (l.length + 1) (l.flatMap Cn.cells ++ x.cells)) (g8 : (wr.alloc o).grownBy w' v.ownBlock) (hat : v.ownBlock = some g ∨ g = (wr.alloc o).heap.size) :
    CrS n q1 q2 B d c (l ++ [x]) (.slice (some ⟨g, 0, none⟩) (l.length + 1) cap) w0 w' := by
  have ha := h.alloc o
  have hb : ∀ b, v.ownBlock = some b → B ≤ b ∧ b < wr.heap.size := fun b e => h.own.lt b e
  have e1 := h.b1
  have e2 := h.b2
  have e3 := h.n1
  have e4 := h.bs
  have hel : ∀ y ∈ l ++ [x], TAt d wr y ∧ (∀ g, v.ownBlock = some g → FarT d y g) ∧ FarT d y q1 ∧ FarT d y q2 ∧ ∀ g, g < n → FarT (d + 1) c g → FarT d y g := fun y hy => by
    rcases List.mem_append.1 hy with hy | hy
    · exact h.el y hy
    · obtain rfl := List.mem_singleton.1 hy
      exact ⟨hx, fun g e => hf g (hb g e).2 g e rfl, hq.1, hq.2, hn⟩
  refine ⟨ha.bx.grown g8 (fun e => by have := (hb _ e).1; omega), ha.rb.grown g8 (fun e => by have := (hb _ e).1; omega), h.n1, h.n2, h.ne, h.b1, h.b2, Nat.le_trans ha.bs g8.size, ?_, fun y hy => ?_, Below.grown ha.bl g8 (by have := ha.bs; omega) (fun b e => by have := (hb b e).1; omega)⟩
  · have e1 : (l ++ [x]).length = l.length + 1 := by simp
    have e2 : (l ++ [x]).flatMap Cn.cells = l.flatMap Cn.cells ++ x.cells := by simp
    rw [e1, e2]; exact own8
  · obtain ⟨t1, t2, t3, t4, t5⟩ := hel y hy
    refine ⟨(t1.alloc o).kept g8 t2, fun b e => ?_, t3, t4, t5⟩
    obtain rfl : g = b := Option.some.inj e
    rcases hat with h9 | h9
    · exact t2 _ h9
    · rw [h9]; exact (t1.alloc o).newFar (Nat.le_refl _)
theorem CrS.lcn {a0 : List Cn} (h : CrS n q1 q2 B d c l v w0 wr) (hm : l.map (er d) = a0.map (chC d)) (hs : ∀ x ∈ a0, szN d x ≤ 300 ∧ Fm d x) : LCn d B wr v l := by
  refine ⟨h.own, fun x hx g hg => ?_⟩
  obtain ⟨i, hi, rfl⟩ := List.getElem_of_mem hx
  have hl : l.length = a0.length := by have := congrArg List.length hm; simpa using this
  have hi' : i < a0.length := by omega
  have he : er d l[i] = chC d a0[i] := by
    have := congrArg (fun m => m[i]?) hm
    simpa [hi, hi'] using this
  obtain ⟨e1, e2⟩ := like_ch he
  have ha := hs _ (List.getElem_mem hi')
  exact ⟨(h.el _ hx).1, by rw [e1]; exact ha.1, e2 ha.2, (h.el _ hx).2.1 g hg⟩
theorem CrS.sorted {s : List Cn} (h : CrS n q1 q2 B d c l v w0 wr) (hm : ∀ x ∈ s, x ∈ l) (hs : LCn d B w' v s) (k : wr.grownBy w' v.ownBlock) : CrS n q1 q2 B d c s v w0 w' := by
  have hb : ∀ b, v.ownBlock = some b → B ≤ b ∧ b < wr.heap.size := fun b e => h.own.lt b e
  have e1 := h.b1
  have e2 := h.b2
  have e3 := h.n1
  have e4 := h.bs
  exact ⟨h.bx.grown k (fun e => by have := (hb _ e).1; omega), h.rb.grown k (fun e => by have := (hb _ e).1; omega), h.n1, h.n2, h.ne, h.b1, h.b2, Nat.le_trans h.bs k.size, hs.own, fun x hx => ⟨(h.el x (hm x hx)).1.kept k (h.el x (hm x hx)).2.1, (h.el x (hm x hx)).2⟩, Below.grown h.bl k (by omega) (fun b e => by have := (hb b e).1; omega)⟩
/-- the list is put into the box, the box into the result -/
theorem CrS.fin {a : Option Addr} {cap : Nat} {w9 : World} {f : Cn} (h : CrS n q1 q2 B d c l (.slice a l.length cap) w0 wr) (hT : TAt (d + 1) w0 c) (hn : w0.heap.size = n) (hw : l.length ≤ wdM) (k9 : (wr.setCell ⟨q1, 8, none⟩ (.slice a l.length cap)).grownBy w9 (some q2))
    (hf : er (d + 1) (.mk { c.nd with aa := a, ac := cap } l) = f) :
    TAt (d + 1) w9 (.mk { c.nd with aa := a, ac := cap } l) ∧ er (d + 1) (.mk { c.nd with aa := a, ac := cap } l) = f ∧ (∀ g, g < w0.heap.size → FarT (d + 1) c g → FarT (d + 1) (.mk { c.nd with aa := a, ac := cap } l) g) ∧ Below w0.heap.size w0 w9 := by
  subst hn
  have e1 := h.b1
  have e2 := h.b2
  have e3 := h.n1
  have e4 := h.bs
  have e5 := h.n2
  have gs : wr.grownBy (wr.setCell ⟨q1, 8, none⟩ (.slice a l.length cap)) (some q1) := ⟨rfl, rfl, rfl, by simp [World.setCell], fun j _ hne => Below.heap_setCell wr _ _ j (by rintro rfl; exact hne rfl)⟩
  have hT2 := hT.lowG h.bl (fun g hg => hT.newFar hg)
  obtain ⟨t1, t2, t3, t4, t5, t6⟩ := hT2
  have f1 : FarT (d + 1) c q1 := hT.newFar e3
  have f2 : FarT (d + 1) c q2 := hT.newFar e5
  have ow := (h.own.kept gs (by
    cases e : (Value.slice a l.length cap).ownBlock with
    | none => exact .inl rfl
    | some b => exact .inr (fun e' => by have := (h.own.lt b e).1; have := Option.some.inj e'; omega))).kept k9 (by
    cases e : (Value.slice a l.length cap).ownBlock with
    | none => exact .inl rfl
    | some b => exact .inr (fun e' => by have := (h.own.lt b e).1; have := Option.some.inj e'; omega))
  obtain ⟨a', c', e', rA, hA1, hA2⟩ := RAt.of_own ow (fun x _ => x.len)
  injection e' with e1' _ e2'
  subst e1' e2'
  refine ⟨⟨t1, ⟨hA1, hA2, hw⟩, ?_, ?_, rA, fun x hx => ?_⟩, hf, fun g hg hg' => ⟨hg'.1, hg'.2.1, Far.own h.own g (by omega), fun x hx => (h.el x hx).2.2.2.2 g hg hg'⟩, ?_⟩
  · exact (t3.kept gs (fun g e => by obtain rfl := Option.some.inj e; exact f1.1)).kept k9 (fun g e => by obtain rfl := Option.some.inj e; exact f2.1)
  · exact (t4.kept gs (fun g e => by obtain rfl := Option.some.inj e; exact f1.2.1)).kept k9 (fun g e => by obtain rfl := Option.some.inj e; exact f2.2.1)
  · obtain ⟨u1, u2, u3, u4, u5⟩ := h.el x hx
    exact (u1.kept gs (fun g e => by obtain rfl := Option.some.inj e; exact u3)).kept k9 (fun g e => by obtain rfl := Option.some.inj e; exact u4)
  · exact Below.grown (Below.grown h.bl gs (by omega) (fun b e => by have := Option.some.inj e; omega)) k9 (by have := gs.size; omega) (fun b e => by have := Option.some.inj e; omega)
end
end Go.Proofs.YtfdpfkdfglombaaGreatDoor
/- handref1.CheapOf (printed by gen_cheapr.py). -/
set_option linter.unusedVariables false
namespace Go.Proofs.YtfdpfkdfglombaaGreatDoor
open Go.RowKit

set_option maxRecDepth 100000 in
set_option maxHeartbeats 16000000 in
theorem cheapOf_succ (d : Nat) (IH : ∀ (c : Cn) (w : World), TAt d w c → szN d c ≤ 300 → Fm d c → Calls Tryz.prog 24 #[c.agg] w (CheapRO d c w)) (c : Cn) (w : World) (hc : TAt (d + 1) w c) (hsz : szN (d + 1) c ≤ 300) (hF : Fm (d + 1) c) :
    Calls Tryz.prog 24 #[c.agg] w (CheapRO (d + 1) c w) := by
  obtain ⟨i0, hi, hz0, hz1, hz2⟩ := info_parts infoCond
  have HI := Lib.hid IH
  have HT := Lib.hid hc
  have HEL := Lib.hid (fun x (hx : x ∈ c.args) => (show szN d x ≤ 300 ∧ Fm d x from ⟨by have h1 := szN_le (d := d) hx; have h2 : szN (d + 1) c = 1 + (c.args.map (szN d)).sum := rfl; omega, hF.2.2.2 x hx⟩))
  have HONE := Lib.hid hF.2.2.1
  have HWD := Lib.hid hc.2.1.2.2
  clear IH hsz hF hc
  unfold Cn.agg at *
  have HX := Lib.hid ((OB.new w c.cells 30).alloc (.cells condZ.toArray 30))
  have HZ := Lib.hid (OB.new (w.alloc (.cells c.cells.toArray 30)) condZ 30)
  have HB := Lib.hid (((Below.refl w.heap.size w).alloc (Nat.le_refl _) (.cells c.cells.toArray 30)).alloc (by simp) (.cells condZ.toArray 30))
  have hsz : (w.alloc (.cells c.cells.toArray 30)).heap.size = w.heap.size + 1 := World.size_alloc _ _
  rw [hsz] at HZ
  have hsz2 : ((w.alloc (.cells c.cells.toArray 30)).alloc (.cells condZ.toArray 30)).heap.size = w.heap.size + 1 + 1 := by rw [World.size_alloc, hsz]
  clear hsz
  go_enter Tryz.func24, Tryz.ntmps24
  go_upto_region 1 with (fail)
  rw [show (w.alloc (.cells #[.int .i64 c.nd.kind, .string c.nd.name, .string c.nd.field, .string c.nd.sign, .slice c.nd.va c.nd.vals.length c.nd.vc, .slice c.nd.wa c.nd.whs.length c.nd.wc, .int .i64 c.nd.within, .int .i64 c.nd.number, .slice c.nd.aa c.args.length c.nd.ac] 30)).alloc (.cells #[.int .i64 0, .string ⟨#[]⟩, .string ⟨#[]⟩, .string ⟨#[]⟩, .slice none 0 0, .slice none 0 0, .int .i64 0, .int .i64 0, .slice none 0 0] 30) = (w.alloc (.cells c.cells.toArray 30)).alloc (.cells condZ.toArray 30) from rfl]
  generalize (w.alloc (.cells c.cells.toArray 30)).alloc (.cells condZ.toArray 30) = w2 at *
  obtain ⟨n, hn⟩ : ∃ z, w.heap.size = z := ⟨_, rfl⟩
  have Hn := Lib.hid hn
  rw [hn] at HX HZ HB hsz2 ⊢
  clear hn
  obtain ⟨q2, hq2⟩ : ∃ z, n + 1 = z := ⟨_, rfl⟩
  rw [hq2] at HZ hsz2 ⊢
  obtain ⟨q1, hq1⟩ : ∃ z, n = z := ⟨_, rfl⟩
  rw [hq1] at HX ⊢
  obtain ⟨B, hB⟩ : ∃ z, w2.heap.size = z := ⟨_, rfl⟩
  have HS0 : Hid (CrS n q1 q2 B d c [] (.slice none 0 0) w w2) := Lib.hid ⟨HX.out, HZ.out, by omega, by omega, by omega, by omega, by omega, by omega, World.ownsRow_nil _ _ _ _, fun x hx => (by cases hx), HB.out⟩
  have hq12 : ¬ q1 = q2 := HS0.out.ne
  have hq21 : ¬ q2 = q1 := fun e => hq12 e.symm
  have HFQ := Lib.hid (fun g (hg : n ≤ g) => (HT.out.newFar (show w.heap.size ≤ g by have := Hn.out; omega) : FarT (d + 1) c g))
  clear hq1 hq2 hsz2 hB HX HZ HB
  have y8 := HS0.out.bx.cell 8 (.slice c.nd.aa c.args.length c.nd.ac) rfl
  have yl := HS0.out.bx.lt
  obtain ⟨na, hna⟩ : ∃ z, c.args.length = z := ⟨_, rfl⟩
  have HNA := Lib.hid hna
  have hn3 : na ≤ 1000 := by rw [← hna]; exact wdM_le HWD.out
  rw [hna] at y8
  clear hna
  go_wp2_with fail
  clear y8 yl
  go_loopw [3, 9] (fun v i wr => ∃ (k : Nat) (l : List Cn), k ≤ na ∧ i = .int .i64 k ∧ l.length = k ∧ l.map (er d) = (c.args.take k).map (chC d) ∧ CrS n q1 q2 B d c l v w wr) (fun _ i _ => na - (intOf i).toNat)
  case atStart => exact ⟨0, [], Nat.zero_le _, rfl, rfl, rfl, HS0.out⟩
  case round =>
    obtain ⟨k, l, hk, rfl, hln, hm, hS⟩ := hrel
    have HLN := Lib.hid hln
    have HM0 := Lib.hid hm
    have HS := Lib.hid hS
    clear hm hS HS0 hln
    by_cases hlt : k < na
    · have hka : k < c.args.length := by have := HNA.out; omega
      have hxm := List.getElem_mem hka
      obtain ⟨p, off, hap, hp, c0, c1, c2, c3, c4', c5', c6, c7, c8'⟩ := ((HT.out.lowG HS.out.bl HFQ.out).2.2.2.2.1).at9c hka
      have HTx := Lib.hid ((HT.out.lowG HS.out.bl HFQ.out).2.2.2.2.2 _ hxm)
      have HEx := Lib.hid (HEL.out _ hxm)
      have HFx := Lib.hid (fun g (hg : FarT (d + 1) c g) => hg.2.2.2 _ hxm)
      have HTK : Hid ((c.args.take (k + 1)).map (chC d) = (c.args.take k).map (chC d) ++ [chC d (c.args[k]'hka)]) := Lib.hid (by rw [List.take_succ_eq_append_getElem hka, List.map_append]; rfl)
      have C1 := Lib.hid (fun w h => HI.out (c.args[k]'hka) w h HEx.out.1 HEx.out.2)
      obtain ⟨x, hx0⟩ : ∃ z, c.args[k]'hka = z := ⟨_, rfl⟩
      rw [hx0] at c0 c1 c2 c3 c4' c5' c6 c7 c8' HTx HFx HTK C1
      clear hxm hx0 HEx
      have HSa := Lib.hid (HS.out.alloc (.cells #[.int .i64 x.nd.kind, .string x.nd.name, .string x.nd.field, .string x.nd.sign, .slice x.nd.va x.nd.vals.length x.nd.vc, .slice x.nd.wa x.nd.whs.length x.nd.wc, .int .i64 x.nd.within, .int .i64 x.nd.number, .slice x.nd.aa x.args.length x.nd.ac] 30))
      have HTa := Lib.hid (HTx.out.alloc (.cells #[.int .i64 x.nd.kind, .string x.nd.name, .string x.nd.field, .string x.nd.sign, .slice x.nd.va x.nd.vals.length x.nd.vc, .slice x.nd.wa x.nd.whs.length x.nd.wc, .int .i64 x.nd.within, .int .i64 x.nd.number, .slice x.nd.aa x.args.length x.nd.ac] 30))
      have HRow := Lib.hid (fun b (e : u3.ownBlock = some b) => HS.out.own.lt b e)
      have HSZ : Hid (wr.heap.size ≤ (wr.alloc (.cells #[.int .i64 x.nd.kind, .string x.nd.name, .string x.nd.field, .string x.nd.sign, .slice x.nd.va x.nd.vals.length x.nd.vc, .slice x.nd.wa x.nd.whs.length x.nd.wc, .int .i64 x.nd.within, .int .i64 x.nd.number, .slice x.nd.aa x.args.length x.nd.ac] 30)).heap.size) := Lib.hid (by simp)
      have HSW := Lib.hid HS.out.bs
      clear HS HTx
      rw [hap]
      go_wp2_with fail
      ((with_reducible refine (C1.out _ HTa.out).mono ?_); rintro e w5 ⟨x', rfl, hT5, hs5, hf5, b5⟩)
      have HS5 := Lib.hid (HSa.out.below b5)
      have HT5 := Lib.hid hT5
      have HE5 := Lib.hid hs5
      have hbs5 := HS5.out.bs
      have HFF := Lib.hid (fun g (hg : g < wr.heap.size) (hx : FarT d x g) => hf5 g (Nat.lt_of_lt_of_le hg HSZ.out) hx)
      have HQW : Hid (q1 < wr.heap.size ∧ q2 < wr.heap.size ∧ n ≤ q1 ∧ n ≤ q2 ∧ n ≤ wr.heap.size) := Lib.hid (by
        have h1 := HS5.out.b1
        have h2 := HS5.out.b2
        have h3 := HS5.out.n1
        have h4 := HS5.out.n2
        have h5 := HSW.out
        exact ⟨by omega, by omega, h3, h4, by omega⟩)
      have hO := HS5.out.own
      clear hT5 hs5 hf5 b5 HSa HTa C1 c0 c1 c2 c3 c4' c5' c6 c7 c8' hp hap
      unfold Cn.agg
      go_wp2_with (at_builtin; refine wpList_append_lies _ rfl _ _ 28 rfl B 30 i0 _ 9 144 Tryz.underlying28 hi hz0 hz1 hz2 rfl (by decide) _ _ _ rfl (hO.alloc _) ⟨w5.heap.size, 0, none⟩ 1 1 [.int .i64 x'.nd.kind, .string x'.nd.name, .string x'.nd.field, .string x'.nd.sign, .slice x'.nd.va x'.nd.vals.length x'.nd.vc, .slice x'.nd.wa x'.nd.whs.length x'.nd.wc, .int .i64 x'.nd.within, .int .i64 x'.nd.number, .slice x'.nd.aa x'.args.length x'.nd.ac] rfl rfl ?za1 ?za2 (by omega) ?za3 ?za4 ?za5 _ rfl ?_)
      try case za1 => exact cells_new w5 #[.int .i64 x'.nd.kind, .string x'.nd.name, .string x'.nd.field, .string x'.nd.sign, .slice x'.nd.va x'.nd.vals.length x'.nd.vc, .slice x'.nd.wa x'.nd.whs.length x'.nd.wc, .int .i64 x'.nd.within, .int .i64 x'.nd.number, .slice x'.nd.aa x'.args.length x'.nd.ac] 30
      case za2 => simp [Value.oneCell']
      case za3 => have := HLN.out; unfold maxLen; omega
      case za4 => have := HLN.out; omega
      case za5 => first | omega | (simp; omega)
      intro g cap w8 own8 g8 hat8 hlt8
      have h8 := HS5.out.app (x := x') HT5.out (fun g' _ b e he => HFF.out g' (by rw [he]; exact (HRow.out b e).2) (HFx.out g' (HFQ.out g' (by rw [he]; have h1 := (HRow.out b e).1; have h2 := HS5.out.b1; have h3 := HS5.out.n1; omega))))
        ⟨HFF.out q1 HQW.out.1 (HFx.out q1 (HFQ.out q1 HQW.out.2.2.1)), HFF.out q2 HQW.out.2.1 (HFx.out q2 (HFQ.out q2 HQW.out.2.2.2.1))⟩ (fun g' hg hfc => HFF.out g' (by have := HQW.out.2.2.2.2; omega) (HFx.out g' hfc)) own8 g8 (by rw [World.size_alloc]; exact hat8)
      have HS8 := Lib.hid h8
      clear own8 g8 hat8 hlt8 h8 hO HS5 HT5 HFF HRow HSZ HSW HQW hbs5
      go_wp2_with fail
      go_roundw
      case rel => exact ⟨k + 1, l ++ [x'], by omega, by go_num, by rw [List.length_append, HLN.out]; rfl, by rw [List.map_append, HM0.out, HTK.out]; simp [HE5.out], HS8.out⟩
      case measure => simp [intOf]; omega
    · obtain rfl : na = k := by omega
      have HM : Hid (l.map (er d) = c.args.map (chC d)) := Lib.hid (by rw [HM0.out, List.take_of_length_le (by rw [HNA.out]; exact Nat.le_refl _)])
      have HLL : Hid (l.length = c.args.length) := Lib.hid (HLN.out.trans HNA.out.symm)
      obtain ⟨a, cap, hv⟩ := own_shape HS.out.own
      subst hv
      have hl20 : l.length < 20 := by rw [HLL.out]; exact wdM_lt HWD.out
      have HN9 := Lib.hid hn3
      clear HM0 HLN hn3
      by_cases h3 : c.nd.kind = 3
      · have CSx := Lib.hid (sortStable_R d B wr a l.length cap l (HS.out.lcn HM.out HEL.out) rfl hl20)
        have x0 := HS.out.bx.cell 0 (.int .i64 c.nd.kind) rfl
        have xl := HS.out.bx.lt
        have e3k : (c.nd.kind == 3) = true := by simpa using h3
        go_wp2_with fail
        ((with_reducible refine CSx.out.mono ?_); rintro e wr9 ⟨rfl, s, e1, e2, e3, h5, k5⟩)
        have HC : Hid (CrS n q1 q2 B d c s (.slice a s.length cap) w wr9) := Lib.hid (by rw [e2]; exact HS.out.sorted e3 h5 k5)
        have HSL : Hid (s.length = c.args.length) := Lib.hid (by rw [e2]; exact HLL.out)
        have HF : Hid (er (d + 1) (.mk { c.nd with aa := a, ac := cap } s) = chC (d + 1) c) := Lib.hid (by
          show Cn.mk (erN c.nd) (s.map (er d)) = Cn.mk (erN c.nd) (insL d (c.args.map (chC d)))
          rw [e1, HM.out])
        have HE2 := Lib.hid e2
        rw [← e2]
        clear CSx e1 e2 e3 h5 k5 HS HM x0 xl e3k h3
        have o1 := HC.out.bx.cell 8 (.slice c.nd.aa c.args.length c.nd.ac) rfl
        have f1 := HC.out.bx.free 8
        have l1 := HC.out.bx.lt
        have V8 := Lib.hid (HC.out.bx.put 8 (.slice a s.length cap) rfl)
        have rb := Lib.hid (HC.out.rb.grown (show wr9.grownBy (wr9.setCell ⟨q1, 8, none⟩ (.slice a s.length cap)) (some q1) from ⟨rfl, rfl, rfl, by simp [World.setCell], fun j _ hne => Below.heap_setCell wr9 _ _ j (by rintro rfl; exact hne rfl)⟩) (fun e => HC.out.ne (Option.some.inj e)))
        go_upto_region 10 with (fail)
        clear o1 f1 l1
        have y0 := V8.out.cell 0 (.int .i64 c.nd.kind) rfl
        have y1 := V8.out.cell 1 (.string c.nd.name) rfl
        have y2 := V8.out.cell 2 (.string c.nd.field) rfl
        have y3 := V8.out.cell 3 (.string c.nd.sign) rfl
        have y4 := V8.out.cell 4 (.slice c.nd.va c.nd.vals.length c.nd.vc) rfl
        have y5 := V8.out.cell 5 (.slice c.nd.wa c.nd.whs.length c.nd.wc) rfl
        have y6 := V8.out.cell 6 (.int .i64 c.nd.within) rfl
        have y7 := V8.out.cell 7 (.int .i64 c.nd.number) rfl
        have y8 := V8.out.cell 8 (.slice a s.length cap) rfl
        have yl := V8.out.lt
        obtain ⟨w8, hw8⟩ : ∃ z, wr9.setCell ⟨q1, 8, none⟩ (.slice a s.length cap) = z := ⟨_, rfl⟩
        rw [hw8] at rb y0 y1 y2 y3 y4 y5 y6 y7 y8 yl ⊢
        have HW8 := Lib.hid hw8
        clear hw8 V8
        go_wp2_with (refine wpList_store_oc _ rfl _ _ _ rfl q2 _ _ _ rfl rfl rb.out sizeCond rfl rfl ?_)
        intro wz oz kz
        have r0 := oz.cell 0 _ rfl
        have r1 := oz.cell 1 _ rfl
        have r2 := oz.cell 2 _ rfl
        have r3 := oz.cell 3 _ rfl
        have r4 := oz.cell 4 _ rfl
        have r5 := oz.cell 5 _ rfl
        have r6 := oz.cell 6 _ rfl
        have r7 := oz.cell 7 _ rfl
        have r8 := oz.cell 8 _ rfl
        have HKz := Lib.hid kz
        clear oz kz y0 y1 y2 y3 y4 y5 y6 y7 y8 yl
        go_wp2_with fail
        refine bodyPost_ret (v := .agg #[.int .i64 c.nd.kind, .string c.nd.name, .string c.nd.field, .string c.nd.sign, .slice c.nd.va c.nd.vals.length c.nd.vc, .slice c.nd.wa c.nd.whs.length c.nd.wc, .int .i64 c.nd.within, .int .i64 c.nd.number, .slice a s.length cap]) (by simp [results, Tryz.results24, go_sem, r0, r1, r2, r3, r4, r5, r6, r7, r8]) rfl ?_
        exact ⟨.mk { c.nd with aa := a, ac := cap } s, rfl, HC.out.fin HT.out Hn.out (by rw [HSL.out]; exact HWD.out) (by rw [HW8.out]; exact HKz.out) HF.out⟩
      · by_cases h4 : c.nd.kind = 4
        · have CSx := Lib.hid (sortStable_R d B wr a l.length cap l (HS.out.lcn HM.out HEL.out) rfl hl20)
          have x0 := HS.out.bx.cell 0 (.int .i64 c.nd.kind) rfl
          have xl := HS.out.bx.lt
          have e3k : (c.nd.kind == 3) = false := by simpa using h3
          have e4k : (c.nd.kind == 4) = true := by simpa using h4
          go_wp2_with fail
          ((with_reducible refine CSx.out.mono ?_); rintro e wr9 ⟨rfl, s, e1, e2, e3, h5, k5⟩)
          have HC : Hid (CrS n q1 q2 B d c s (.slice a s.length cap) w wr9) := Lib.hid (by rw [e2]; exact HS.out.sorted e3 h5 k5)
          have HSL : Hid (s.length = c.args.length) := Lib.hid (by rw [e2]; exact HLL.out)
          have HF : Hid (er (d + 1) (.mk { c.nd with aa := a, ac := cap } s) = chC (d + 1) c) := Lib.hid (by
            show Cn.mk (erN c.nd) (s.map (er d)) = Cn.mk (erN c.nd) (insL d (c.args.map (chC d)))
            rw [e1, HM.out])
          have HE2 := Lib.hid e2
          rw [← e2]
          clear CSx e1 e2 e3 h5 k5 HS HM x0 xl e3k e4k h3 h4
          have o1 := HC.out.bx.cell 8 (.slice c.nd.aa c.args.length c.nd.ac) rfl
          have f1 := HC.out.bx.free 8
          have l1 := HC.out.bx.lt
          have V8 := Lib.hid (HC.out.bx.put 8 (.slice a s.length cap) rfl)
          have rb := Lib.hid (HC.out.rb.grown (show wr9.grownBy (wr9.setCell ⟨q1, 8, none⟩ (.slice a s.length cap)) (some q1) from ⟨rfl, rfl, rfl, by simp [World.setCell], fun j _ hne => Below.heap_setCell wr9 _ _ j (by rintro rfl; exact hne rfl)⟩) (fun e => HC.out.ne (Option.some.inj e)))
          go_upto_region 10 with (fail)
          clear o1 f1 l1
          have y0 := V8.out.cell 0 (.int .i64 c.nd.kind) rfl
          have y1 := V8.out.cell 1 (.string c.nd.name) rfl
          have y2 := V8.out.cell 2 (.string c.nd.field) rfl
          have y3 := V8.out.cell 3 (.string c.nd.sign) rfl
          have y4 := V8.out.cell 4 (.slice c.nd.va c.nd.vals.length c.nd.vc) rfl
          have y5 := V8.out.cell 5 (.slice c.nd.wa c.nd.whs.length c.nd.wc) rfl
          have y6 := V8.out.cell 6 (.int .i64 c.nd.within) rfl
          have y7 := V8.out.cell 7 (.int .i64 c.nd.number) rfl
          have y8 := V8.out.cell 8 (.slice a s.length cap) rfl
          have yl := V8.out.lt
          obtain ⟨w8, hw8⟩ : ∃ z, wr9.setCell ⟨q1, 8, none⟩ (.slice a s.length cap) = z := ⟨_, rfl⟩
          rw [hw8] at rb y0 y1 y2 y3 y4 y5 y6 y7 y8 yl ⊢
          have HW8 := Lib.hid hw8
          clear hw8 V8
          go_wp2_with (refine wpList_store_oc _ rfl _ _ _ rfl q2 _ _ _ rfl rfl rb.out sizeCond rfl rfl ?_)
          intro wz oz kz
          have r0 := oz.cell 0 _ rfl
          have r1 := oz.cell 1 _ rfl
          have r2 := oz.cell 2 _ rfl
          have r3 := oz.cell 3 _ rfl
          have r4 := oz.cell 4 _ rfl
          have r5 := oz.cell 5 _ rfl
          have r6 := oz.cell 6 _ rfl
          have r7 := oz.cell 7 _ rfl
          have r8 := oz.cell 8 _ rfl
          have HKz := Lib.hid kz
          clear oz kz y0 y1 y2 y3 y4 y5 y6 y7 y8 yl
          go_wp2_with fail
          refine bodyPost_ret (v := .agg #[.int .i64 c.nd.kind, .string c.nd.name, .string c.nd.field, .string c.nd.sign, .slice c.nd.va c.nd.vals.length c.nd.vc, .slice c.nd.wa c.nd.whs.length c.nd.wc, .int .i64 c.nd.within, .int .i64 c.nd.number, .slice a s.length cap]) (by simp [results, Tryz.results24, go_sem, r0, r1, r2, r3, r4, r5, r6, r7, r8]) rfl ?_
          exact ⟨.mk { c.nd with aa := a, ac := cap } s, rfl, HC.out.fin HT.out Hn.out (by rw [HSL.out]; exact HWD.out) (by rw [HW8.out]; exact HKz.out) HF.out⟩
        · have hins : insL d (c.args.map (chC d)) = c.args.map (chC d) := insL_one d _ (by rw [List.length_map]; exact HONE.out (by omega))
          have HC := Lib.hid HS.out
          have HSL := Lib.hid HLL.out
          have HF : Hid (er (d + 1) (.mk { c.nd with aa := a, ac := cap } l) = chC (d + 1) c) := Lib.hid (by
            show Cn.mk (erN c.nd) (l.map (er d)) = Cn.mk (erN c.nd) (insL d (c.args.map (chC d)))
            rw [hins, HM.out])
          have x0 := HS.out.bx.cell 0 (.int .i64 c.nd.kind) rfl
          have xl := HS.out.bx.lt
          have e3k : (c.nd.kind == 3) = false := by simpa using h3
          have e4k : (c.nd.kind == 4) = false := by simpa using h4
          clear hins HS
          obtain ⟨wr9, hwr9⟩ : ∃ z, wr = z := ⟨_, rfl⟩
          subst hwr9
          have o1 := HC.out.bx.cell 8 (.slice c.nd.aa c.args.length c.nd.ac) rfl
          have f1 := HC.out.bx.free 8
          have l1 := HC.out.bx.lt
          have V8 := Lib.hid (HC.out.bx.put 8 (.slice a l.length cap) rfl)
          have rb := Lib.hid (HC.out.rb.grown (show wr.grownBy (wr.setCell ⟨q1, 8, none⟩ (.slice a l.length cap)) (some q1) from ⟨rfl, rfl, rfl, by simp [World.setCell], fun j _ hne => Below.heap_setCell wr _ _ j (by rintro rfl; exact hne rfl)⟩) (fun e => HC.out.ne (Option.some.inj e)))
          go_upto_region 10 with (fail)
          clear o1 f1 l1
          have y0 := V8.out.cell 0 (.int .i64 c.nd.kind) rfl
          have y1 := V8.out.cell 1 (.string c.nd.name) rfl
          have y2 := V8.out.cell 2 (.string c.nd.field) rfl
          have y3 := V8.out.cell 3 (.string c.nd.sign) rfl
          have y4 := V8.out.cell 4 (.slice c.nd.va c.nd.vals.length c.nd.vc) rfl
          have y5 := V8.out.cell 5 (.slice c.nd.wa c.nd.whs.length c.nd.wc) rfl
          have y6 := V8.out.cell 6 (.int .i64 c.nd.within) rfl
          have y7 := V8.out.cell 7 (.int .i64 c.nd.number) rfl
          have y8 := V8.out.cell 8 (.slice a l.length cap) rfl
          have yl := V8.out.lt
          obtain ⟨w8, hw8⟩ : ∃ z, wr.setCell ⟨q1, 8, none⟩ (.slice a l.length cap) = z := ⟨_, rfl⟩
          rw [hw8] at rb y0 y1 y2 y3 y4 y5 y6 y7 y8 yl ⊢
          have HW8 := Lib.hid hw8
          clear hw8 V8
          go_wp2_with (refine wpList_store_oc _ rfl _ _ _ rfl q2 _ _ _ rfl rfl rb.out sizeCond rfl rfl ?_)
          intro wz oz kz
          have r0 := oz.cell 0 _ rfl
          have r1 := oz.cell 1 _ rfl
          have r2 := oz.cell 2 _ rfl
          have r3 := oz.cell 3 _ rfl
          have r4 := oz.cell 4 _ rfl
          have r5 := oz.cell 5 _ rfl
          have r6 := oz.cell 6 _ rfl
          have r7 := oz.cell 7 _ rfl
          have r8 := oz.cell 8 _ rfl
          have HKz := Lib.hid kz
          clear oz kz y0 y1 y2 y3 y4 y5 y6 y7 y8 yl
          go_wp2_with fail
          refine bodyPost_ret (v := .agg #[.int .i64 c.nd.kind, .string c.nd.name, .string c.nd.field, .string c.nd.sign, .slice c.nd.va c.nd.vals.length c.nd.vc, .slice c.nd.wa c.nd.whs.length c.nd.wc, .int .i64 c.nd.within, .int .i64 c.nd.number, .slice a l.length cap]) (by simp [results, Tryz.results24, go_sem, r0, r1, r2, r3, r4, r5, r6, r7, r8]) rfl ?_
          exact ⟨.mk { c.nd with aa := a, ac := cap } l, rfl, HC.out.fin HT.out Hn.out (by rw [HSL.out]; exact HWD.out) (by rw [HW8.out]; exact HKz.out) HF.out⟩
theorem cheapOf_any : ∀ (d : Nat) (c : Cn) (w : World), TAt d w c → szN d c ≤ 300 → Fm d c → Calls Tryz.prog 24 #[c.agg] w (CheapRO d c w)
  | 0, _, _, h, _, _ => h.elim
  | d + 1, c, w, h, h2, h3 => cheapOf_succ d (fun c w h h2 h3 => cheapOf_any d c w h h2 h3) c w h h2 h3
end Go.Proofs.YtfdpfkdfglombaaGreatDoor
/- segment.cheap, segment.Cheap (printed by gen_cheapc.py). -/
set_option linter.unusedVariables false
namespace Go.Proofs.YtfdpfkdfglombaaGreatDoor
open Go.RowKit

set_option maxRecDepth 100000 in
set_option maxHeartbeats 16000000 in
theorem cheap_succ (d : Nat) (IH : ∀ (c : Cn) (w : World), TAt d w c → szN d c ≤ 300 → Fm d c → Calls Tryz.prog 58 #[c.agg] w (CheapO d c w)) (c : Cn) (w : World) (hc : TAt (d + 1) w c) (hsz : szN (d + 1) c ≤ 300) (hF : Fm (d + 1) c) :
    Calls Tryz.prog 58 #[c.agg] w (CheapO (d + 1) c w) := by
  have HI := Lib.hid IH
  have HT := Lib.hid hc
  have HEL := Lib.hid (fun x (hx : x ∈ c.args) => (show szN d x ≤ 300 ∧ Fm d x from ⟨by have h1 := szN_le (d := d) hx; have h2 : szN (d + 1) c = 1 + (c.args.map (szN d)).sum := rfl; omega, hF.2.2.2 x hx⟩))
  have CC := Lib.hid (fun w h => copy_any (d + 1) c w h)
  clear IH hsz hF hc
  unfold Cn.agg at *
  have HX := Lib.hid ((OB.new w c.cells 30).alloc (.cells condZ.toArray 30))
  have HZ := Lib.hid (OB.new (w.alloc (.cells c.cells.toArray 30)) condZ 30)
  have HB := Lib.hid (((Below.refl w.heap.size w).alloc (Nat.le_refl _) (.cells c.cells.toArray 30)).alloc (by simp) (.cells condZ.toArray 30))
  have HT2 := Lib.hid (HT.out.below HB.out)
  have hsz : (w.alloc (.cells c.cells.toArray 30)).heap.size = w.heap.size + 1 := World.size_alloc _ _
  rw [hsz] at HZ
  have hsz2 : ((w.alloc (.cells c.cells.toArray 30)).alloc (.cells condZ.toArray 30)).heap.size = w.heap.size + 1 + 1 := by rw [World.size_alloc, hsz]
  clear hsz
  go_enter Tryz.func58, Tryz.ntmps58
  go_upto_region 1 with (fail)
  rw [show (w.alloc (.cells #[.int .i64 c.nd.kind, .string c.nd.name, .string c.nd.field, .string c.nd.sign, .slice c.nd.va c.nd.vals.length c.nd.vc, .slice c.nd.wa c.nd.whs.length c.nd.wc, .int .i64 c.nd.within, .int .i64 c.nd.number, .slice c.nd.aa c.args.length c.nd.ac] 30)).alloc (.cells #[.int .i64 0, .string ⟨#[]⟩, .string ⟨#[]⟩, .string ⟨#[]⟩, .slice none 0 0, .slice none 0 0, .int .i64 0, .int .i64 0, .slice none 0 0] 30) = (w.alloc (.cells c.cells.toArray 30)).alloc (.cells condZ.toArray 30) from rfl]
  generalize (w.alloc (.cells c.cells.toArray 30)).alloc (.cells condZ.toArray 30) = w2 at *
  obtain ⟨n, hn⟩ : ∃ z, w.heap.size = z := ⟨_, rfl⟩
  have Hn := Lib.hid hn
  rw [hn] at HX HZ HB hsz2 ⊢
  clear hn
  obtain ⟨q2, hq2⟩ : ∃ z, n + 1 = z := ⟨_, rfl⟩
  rw [hq2] at HZ hsz2 ⊢
  obtain ⟨q1, hq1⟩ : ∃ z, n = z := ⟨_, rfl⟩
  rw [hq1] at HX ⊢
  obtain ⟨B, hB⟩ : ∃ z, w2.heap.size = z := ⟨_, rfl⟩
  have HQN : Hid (n ≤ q1 ∧ n ≤ q2 ∧ q1 ≠ q2 ∧ q1 < B ∧ q2 < B) := Lib.hid (by omega)
  have HBB := Lib.hid hB
  have hq12 : ¬ q1 = q2 := HQN.out.2.2.1
  have hq21 : ¬ q2 = q1 := fun e => hq12 e.symm
  clear hq1 hq2 hsz2 hB
  have y0 := HX.out.cell 0 (.int .i64 c.nd.kind) rfl
  have y1 := HX.out.cell 1 (.string c.nd.name) rfl
  have y2 := HX.out.cell 2 (.string c.nd.field) rfl
  have y3 := HX.out.cell 3 (.string c.nd.sign) rfl
  have y4 := HX.out.cell 4 (.slice c.nd.va c.nd.vals.length c.nd.vc) rfl
  have y5 := HX.out.cell 5 (.slice c.nd.wa c.nd.whs.length c.nd.wc) rfl
  have y6 := HX.out.cell 6 (.int .i64 c.nd.within) rfl
  have y7 := HX.out.cell 7 (.int .i64 c.nd.number) rfl
  have y8 := HX.out.cell 8 (.slice c.nd.aa c.args.length c.nd.ac) rfl
  have yl := HX.out.lt
  go_wp2_with (first | (refine wpList_store_oc _ rfl _ _ _ rfl q1 _ _ _ rfl rfl HX.out sizeCond rfl rfl ?_))
  ((with_reducible refine (CC.out _ HT2.out).mono ?_); rintro e w3 ⟨X, rfl, hX, hY⟩)
  have HX3 := Lib.hid (HX.out.below hX.bl)
  have HZ3 := Lib.hid (HZ.out.below hX.bl)
  have HXX := Lib.hid hX
  have HYY := Lib.hid hY
  clear hX hY CC HX HZ HT2 y0 y1 y2 y3 y4 y5 y6 y7 y8 yl
  unfold Cn.agg
  go_wp2_with (first | (refine wpList_store_oc _ rfl _ _ _ rfl q1 _ _ _ rfl rfl HX3.out sizeCond rfl rfl ?_))
  intro w4 o4 k4
  have HS0 : Hid (CpS n q1 q2 B d X.nd X.args w w4) := Lib.hid (by
    have h := CpS.ofCopy Hn.out HB.out (by rw [HBB.out]; exact HQN.out) HXX.out HYY.out HZ3.out o4 k4
    rw [HBB.out] at h
    exact h)
  have HSY := Lib.hid (er_eq HXX.out.sy)
  have HRL0 : Hid (RL d (chC d) c.args n 0 X.args) := Lib.hid (RL.start HSY.out.2)
  clear o4 k4 HX3 HZ3 HXX HYY HB HBB
  have y8 := HS0.out.bx.cell 8 (.slice X.nd.aa X.args.length X.nd.ac) rfl
  have yl := HS0.out.bx.lt
  obtain ⟨na, hna⟩ : ∃ z, X.args.length = z := ⟨_, rfl⟩
  have HNX := Lib.hid hna
  have HNA : Hid (c.args.length = na) := Lib.hid (by rw [← hna]; exact HRL0.out.len.symm)
  have hn3 : na ≤ 1000 := by rw [← hna]; exact wdM_le HS0.out.tr.2.1.2.2
  rw [hna] at y8
  clear hna
  go_wp2_with fail
  clear y8 yl
  go_loopw [10] (fun i wr => ∃ (k : Nat) (l : List Cn), k ≤ na ∧ i = .int .i64 k ∧ l.length = na ∧ RL d (chC d) c.args n k l ∧ CpS n q1 q2 B d X.nd l w wr) (fun i _ => na - (intOf i).toNat)
  case atStart => exact ⟨0, X.args, Nat.zero_le _, rfl, HNX.out, HRL0.out, HS0.out⟩
  case round =>
    obtain ⟨k, l, hk, rfl, hln, hRL, hS⟩ := hrel
    have HLN := Lib.hid hln
    have HRL := Lib.hid hRL
    have HS := Lib.hid hS
    clear hRL hS HS0 HRL0
    by_cases hlt : k < na
    · have hkl : k < l.length := by omega
      have hka : k < c.args.length := by have := HNA.out; omega
      obtain ⟨g, hga, hgB, hgl⟩ := HS.out.row (by omega)
      have HGA := Lib.hid hga
      obtain ⟨c0, c1, c2, c3, c4', c5', c6, c7, c8'⟩ := HS.out.at9 hga k hkl
      have hsy : er d (l[k]'hkl) = er d (c.args[k]'hka) := by rw [HRL.out.sy k hkl hka, if_neg (Nat.lt_irrefl k)]
      obtain ⟨f0, hf0⟩ : ∃ z, chC d (c.args[k]'hka) = z := ⟨_, rfl⟩
      have hel := HEL.out _ (List.getElem_mem hka)
      have hlk := like_er hsy
      have IHx := Lib.hid (fun (w' : World) (h : TAt d w' (l[k]'hkl)) => (HI.out (l[k]'hkl) w' h (by rw [hlk.1]; exact hel.1) (hlk.2.1 hel.2)).mono (fun e w'' (hq : CheapO d (l[k]'hkl) w' e w'') => (show ∃ x', e = .returned x'.agg ∧ CopyX d f0 w' x' w'' from by
        obtain ⟨x', h1, h2⟩ := hq
        exact ⟨x', h1, by rw [← hf0, ← hlk.2.2]; exact h2⟩)))
      have HF0 := Lib.hid hf0
      obtain ⟨x, hx0⟩ : ∃ z, l[k] = z := ⟨_, rfl⟩
      rw [hx0] at c0 c1 c2 c3 c4' c5' c6 c7 c8' IHx
      clear hsy hf0 hel hlk
      have HSx := Lib.hid (HS.out.alloc (.cells #[.int .i64 x.nd.kind, .string x.nd.name, .string x.nd.field, .string x.nd.sign, .slice x.nd.va x.nd.vals.length x.nd.vc, .slice x.nd.wa x.nd.whs.length x.nd.wc, .int .i64 x.nd.within, .int .i64 x.nd.number, .slice x.nd.aa x.args.length x.nd.ac] 30))
      have HBx := Lib.hid (XB.new wr [.int .i64 x.nd.kind, .string x.nd.name, .string x.nd.field, .string x.nd.sign, .slice x.nd.va x.nd.vals.length x.nd.vc, .slice x.nd.wa x.nd.whs.length x.nd.wc, .int .i64 x.nd.within, .int .i64 x.nd.number, .slice x.nd.aa x.args.length x.nd.ac] 30)
      simp only [List.toArray] at HBx
      have HLA := Lib.hid hka
      clear HS hln
      rw [hga]
      clear hga
      have hgaX : X.nd.aa = some ⟨g, 0, none⟩ := HGA.out
      go_upto_region 5 with (fail)
      clear c0 c1 c2 c3 c4' c5' c6 c7 c8' hgaX
      obtain ⟨p, hp⟩ : ∃ z, wr.heap.size = z := ⟨_, rfl⟩
      rw [hp] at HBx ⊢
      clear hp hgl
      generalize wr.alloc (.cells #[.int .i64 x.nd.kind, .string x.nd.name, .string x.nd.field, .string x.nd.sign, .slice x.nd.va x.nd.vals.length x.nd.vc, .slice x.nd.wa x.nd.whs.length x.nd.wc, .int .i64 x.nd.within, .int .i64 x.nd.number, .slice x.nd.aa x.args.length x.nd.ac] 30) = wx at *
      go_upto_region 5 with (fail)
      refine wp_region_any (by kernel_rfl) ?_
      change wpAny _ _ _ _ _ _ _ (World.drew _)
      have HSd := Lib.hid HSx.out.drew
      have HBd := Lib.hid (show XB wx.drew p [.int .i64 x.nd.kind, .string x.nd.name, .string x.nd.field, .string x.nd.sign, .slice x.nd.va x.nd.vals.length x.nd.vc, .slice x.nd.wa x.nd.whs.length x.nd.wc, .int .i64 x.nd.within, .int .i64 x.nd.number, .slice x.nd.aa x.args.length x.nd.ac] from HBx.out)
      clear HSx HBx
      obtain ⟨wd, hwd⟩ : ∃ z, wx.drew = z := ⟨_, rfl⟩
      rw [hwd] at HSd HBd ⊢
      clear hwd
      obtain ⟨M, hM⟩ : ∃ z, wd.heap.size = z := ⟨_, rfl⟩
      have HQ1 : Hid (q1 < M ∧ q2 < M ∧ g < M) := Lib.hid (by
        rw [← hM]
        have h1 := HSd.out.bs
        have h2 := HSd.out.b1
        have h3 := HSd.out.b2
        exact ⟨by omega, by omega, (HSd.out.own.lt g (by rw [HGA.out]; rfl)).2⟩)
      have HnN : Hid (n ≤ M) := Lib.hid (by have := HQ1.out.1; have := HSd.out.n1; omega)
      have hNr : M ≤ wd.heap.size := by omega
      clear hM
      refine wpAny_take (i := 0) (oi := ⟨some 15, _, _, _, _, _⟩) (v := (.pointer (some ⟨q1, 8, none⟩))) rfl (by kernel_rfl) (by kernel_rfl) (by kernel_rfl) (fun _ _ _ h => h) (Or.inl ⟨by rfl, fun w => by go_simp⟩) ?_
      refine wpAny_take (i := 2) (oi := ⟨some 17, _, _, _, _, _⟩) (v := (.int .i64 (k : Int))) rfl (by kernel_rfl) (by kernel_rfl) (by kernel_rfl) (fun _ _ _ h => h) (Or.inl ⟨by rfl, fun w => by go_simp⟩) ?_
      refine wpAny_mask (n := 2) (m := 5) #[true, false, true, false, false, false, false] [1, 3, 4] (fun i => if i = 4 then [3] else []) [16, 18, 19] (fun e => if e = 16 then u16 else if e = 18 then u18 else u19) (JRg n q1 q2 B d X.nd l w g p M 16 18 19 x f0) rfl (by decide) (by kernel_rfl) (by kernel_rfl) ?stR ?hsR ?heR
      case stR => exact ⟨HSd.out, HBd.out, hNr, fun e => (by cases e), fun e => (by cases e), fun e => (by cases e)⟩
      case hsR =>
        intro i hi b u wy hbi hD hJ
        simp only [List.mem_cons, List.mem_nil_iff, or_false] at hi
        have HJ := Lib.hid hJ
        rcases hi with rfl | rfl | rfl
        · refine wpOp_calm (o := ⟨some 16, ?ra1, ?ra2, ?ra3, ?ra4, ?ra5⟩) ?rai ?rag ?_
          case rai => exact rfl
          case rag => exact rfl
          intro K' Q' hK'
          have HK := Lib.hid hK'
          clear hK'
          have y1 := hJ.st.bx.cell 8 (.slice (some ⟨g, 0, none⟩) l.length X.nd.ac) (by show some (Value.slice X.nd.aa l.length X.nd.ac) = _; rw [HGA.out])
          have yl := hJ.st.bx.lt
          clear hJ
          simp only [setAll, List.foldl]
          go_simp
          exact HK.out _ _ ⟨upd u 16 (.slice (some ⟨g, 0, none⟩) l.length X.nd.ac), by kernel_rfl, ⟨HJ.out.st, HJ.out.bx, HJ.out.hN, fun _ => rfl, fun e => HJ.out.p3 e, fun e => HJ.out.p4 e⟩⟩
        · refine wpOp_calm (o := ⟨some 18, ?rb1, ?rb2, ?rb3, ?rb4, ?rb5⟩) ?rbi ?rbg ?_
          case rbi => exact rfl
          case rbg => exact rfl
          intro K' Q' hK'
          have HK := Lib.hid hK'
          clear hK'
          have c0 := hJ.bx.2 0 _ rfl
          have c1 := hJ.bx.2 1 _ rfl
          have c2 := hJ.bx.2 2 _ rfl
          have c3 := hJ.bx.2 3 _ rfl
          have c4 := hJ.bx.2 4 _ rfl
          have c5 := hJ.bx.2 5 _ rfl
          have c6 := hJ.bx.2 6 _ rfl
          have c7 := hJ.bx.2 7 _ rfl
          have c8 := hJ.bx.2 8 _ rfl
          have cl := hJ.bx.1
          clear hJ
          simp only [setAll, List.foldl]
          go_simp
          exact HK.out _ _ ⟨upd u 18 x.agg, by unfold Cn.agg; kernel_rfl, ⟨HJ.out.st, HJ.out.bx, HJ.out.hN, fun e => HJ.out.p1 e, fun _ => rfl, fun e => HJ.out.p4 e⟩⟩
        · refine wpOp_calm (o := ⟨some 19, ?rc1, ?rc2, ?rc3, ?rc4, ?rc5⟩) ?rci ?rcg ?_
          case rci => exact rfl
          case rcg => exact rfl
          intro K' Q' hK'
          have HK := Lib.hid hK'
          clear hK'
          have h3 := HJ.out.p3 (hD 3 (by simp))
          have hxm : x ∈ l := hx0 ▸ List.getElem_mem hkl
          have HC := Lib.hid (IHx.out wy (hJ.st.tr.2.2.2.2.2 x hxm))
          clear hJ
          simp only [setAll, List.foldl, h3]
          go_simp
          refine HC.out.mono ?_
          rintro e w' ⟨x', rfl, hX⟩
          exact HK.out _ _ ⟨upd (upd u 18 x.agg) 19 x'.agg, by unfold Cn.agg; kernel_rfl, by
            rw [upd_same h3]
            exact ⟨HJ.out.st.below hX.bl, HJ.out.bx.below hX.bl, Nat.le_trans HJ.out.hN hX.bl.size, fun e => HJ.out.p1 e, fun e => HJ.out.p3 e, fun _ => ⟨x', rfl, hX.tr, hX.sy, fun b hb => hX.nw b (Nat.lt_of_lt_of_le hb HJ.out.hN)⟩⟩⟩
      case heR =>
        intro b u wy hb hJ
        obtain ⟨x', h4, hT, hsy, hnw⟩ := hJ.p4 (hb 4 (by simp))
        have h1 := hJ.p1 (hb 1 (by simp))
        have h3 := hJ.p3 (hb 3 (by simp))
        try simp only [] at h1
        have HW := Lib.hid hJ.st
        simp only [setAll, List.foldl, h1, h3, h4]
        clear h1 h3 h4 hb hJ
        refine wpAny_take (i := 5) (oi := ⟨some 20, _, _, _, _, _⟩) (v := (.pointer (some ⟨g, k * 9, none⟩))) rfl (by kernel_rfl) (by kernel_rfl) (by kernel_rfl) (fun _ _ _ h => h) (Or.inl ⟨by rfl, fun w => by go_simp⟩) ?_
        obtain ⟨hth, hS⟩ := HW.out.set HGA.out k hkl hT ⟨hnw q1 HQ1.out.1, hnw q2 HQ1.out.2.1, hnw g HQ1.out.2.2⟩
        have hone : x'.cells.toArray.all (·.oneCell') = true := by simp [Cn.cells, Value.oneCell']
        refine wpAny_store_last (i := 6) (o := ⟨none, _, _, _, _, _⟩) 30 (.tmp 20) (.tmp 19) (by kernel_rfl) rfl rfl rfl g (k * 9) x'.cells (by kernel_rfl) (by kernel_rfl) hth sizeCond hone ?_
        have HS' := Lib.hid hS
        have HR' := Lib.hid (HRL.out.set (x' := x') HLA.out (hsy.trans HF0.out.symm) (fun b hb => hnw b (by have := HnN.out; omega)))
        clear hth hone hS hT hsy hnw HW
        refine wpAny_done (by kernel_rfl) ?_ _
        generalize wy.setCells g (k * 9) x'.cells = wk at *
        go_wp2_with fail
        go_roundw
        case rel => exact ⟨k + 1, l.set k x', by have := HLN.out; omega, by go_num, by rw [List.length_set]; exact HLN.out, HR'.out, HS'.out⟩
        case measure => simp [intOf]; omega
    · obtain rfl : na = k := by omega
      obtain ⟨hm, hnw⟩ := HRL.out.all (by have := HNA.out; omega)
      have HM := Lib.hid hm
      have HNW := Lib.hid hnw
      have hl20 : l.length < 20 := wdM_lt HS.out.tr.2.1.2.2
      have HLC := Lib.hid (HS.out.lcn hm HEL.out)
      clear hm hnw HRL
      have HLX := Lib.hid hln
      clear hln
      have y8 := HS.out.bx.cell 8 (.slice X.nd.aa l.length X.nd.ac) rfl
      have yl := HS.out.bx.lt
      have CS := Lib.hid (sortStable_P d B wr X.nd.aa l.length X.nd.ac l HLC.out rfl hl20)
      clear HLC hl20
      go_wp2_with fail
      ((with_reducible refine CS.out.mono ?_); rintro e w5 ⟨rfl, s, e1, e2, e3, h5, k5⟩)
      have HS5 := Lib.hid (HS.out.sorted e2 e3 h5 k5)
      have HNS := Lib.hid (fun x (hx : x ∈ s) => HNW.out x (e3 x hx))
      have HF : Hid (er (d + 1) (.mk X.nd s) = chC (d + 1) c) := Lib.hid (by
        show Cn.mk (erN X.nd) (s.map (er d)) = Cn.mk (erN c.nd) (insL d (c.args.map (chC d)))
        rw [HSY.out.1, e1, HM.out])
      clear CS e1 e2 e3 h5 k5 HS HNW HM y8 yl
      have y0 := HS5.out.bx.cell 0 (.int .i64 X.nd.kind) rfl
      have y1 := HS5.out.bx.cell 1 (.string X.nd.name) rfl
      have y2 := HS5.out.bx.cell 2 (.string X.nd.field) rfl
      have y3 := HS5.out.bx.cell 3 (.string X.nd.sign) rfl
      have y4 := HS5.out.bx.cell 4 (.slice X.nd.va X.nd.vals.length X.nd.vc) rfl
      have y5 := HS5.out.bx.cell 5 (.slice X.nd.wa X.nd.whs.length X.nd.wc) rfl
      have y6 := HS5.out.bx.cell 6 (.int .i64 X.nd.within) rfl
      have y7 := HS5.out.bx.cell 7 (.int .i64 X.nd.number) rfl
      have y8 := HS5.out.bx.cell 8 (.slice X.nd.aa s.length X.nd.ac) rfl
      have yl := HS5.out.bx.lt
      go_wp2_with (refine wpList_store_oc _ rfl _ _ _ rfl q2 _ _ _ rfl rfl HS5.out.rb sizeCond rfl rfl ?_)
      intro wz oz kz
      have r0 := oz.cell 0 _ rfl
      have r1 := oz.cell 1 _ rfl
      have r2 := oz.cell 2 _ rfl
      have r3 := oz.cell 3 _ rfl
      have r4 := oz.cell 4 _ rfl
      have r5 := oz.cell 5 _ rfl
      have r6 := oz.cell 6 _ rfl
      have r7 := oz.cell 7 _ rfl
      have r8 := oz.cell 8 _ rfl
      have HKz := Lib.hid kz
      clear oz kz y0 y1 y2 y3 y4 y5 y6 y7 y8 yl
      go_wp2_with fail
      refine bodyPost_ret (v := .agg #[.int .i64 X.nd.kind, .string X.nd.name, .string X.nd.field, .string X.nd.sign, .slice X.nd.va X.nd.vals.length X.nd.vc, .slice X.nd.wa X.nd.whs.length X.nd.wc, .int .i64 X.nd.within, .int .i64 X.nd.number, .slice X.nd.aa s.length X.nd.ac]) (by simp [results, Tryz.results58, go_sem, r0, r1, r2, r3, r4, r5, r6, r7, r8]) rfl ?_
      exact ⟨.mk X.nd s, rfl, (HS5.out.fin HKz.out Hn.out (by have := HQN.out; omega) HF.out HNS.out).1⟩
theorem cheap_any : ∀ (d : Nat) (c : Cn) (w : World), TAt d w c → szN d c ≤ 300 → Fm d c → Calls Tryz.prog 58 #[c.agg] w (CheapO d c w)
  | 0, _, _, h, _, _ => h.elim
  | d + 1, c, w, h, h2, h3 => cheap_succ d (fun c w h h2 h3 => cheap_any d c w h h2 h3) c w h h2 h3
end Go.Proofs.YtfdpfkdfglombaaGreatDoor
/- segment.Cheap, handref1.SameCond, (*Stream).AnyCond (printed by gen_cnmf.py). -/
set_option linter.unusedVariables false
namespace Go.Proofs.YtfdpfkdfglombaaGreatDoor
open Go.RowKit

theorem sameCond_any (d : Nat) (c y : Cn) (w : World) (hx : TAt d w c) (hy : TAt d w y) (he : er d c = er d y) :
    Calls Tryz.prog 23 #[c.agg, y.agg] w (BoolO w true) := by
  have CO := Lib.hid (fun w h1 h2 => orderOf_any d c y w h1 h2)
  rw [ordC_same d c y he] at CO
  clear he
  have HA := Lib.hid (((Below.refl w.heap.size w).alloc (Nat.le_refl _) (.cells #[.int .i64 c.nd.kind, .string c.nd.name, .string c.nd.field, .string c.nd.sign, .slice c.nd.va c.nd.vals.length c.nd.vc, .slice c.nd.wa c.nd.whs.length c.nd.wc, .int .i64 c.nd.within, .int .i64 c.nd.number, .slice c.nd.aa c.args.length c.nd.ac] 30)).alloc (by simp) (.cells #[.int .i64 y.nd.kind, .string y.nd.name, .string y.nd.field, .string y.nd.sign, .slice y.nd.va y.nd.vals.length y.nd.vc, .slice y.nd.wa y.nd.whs.length y.nd.wc, .int .i64 y.nd.within, .int .i64 y.nd.number, .slice y.nd.aa y.args.length y.nd.ac] 30))
  have HX := Lib.hid (hx.below HA.out)
  have HY := Lib.hid (hy.below HA.out)
  clear hx hy
  unfold Cn.agg at *
  go_enter Tryz.func23, Tryz.ntmps23
  go_wp2_with fail
  ((with_reducible refine (CO.out _ HX.out HY.out).mono ?_); rintro e w1 ⟨rfl, b1⟩)
  have HB := Lib.hid (HA.out.trans (b1.mono HA.out.size))
  clear b1 HX HY CO
  go_wp2_with fail
  go_ret
  exact ⟨rfl, HB.out⟩
/-- what Cheap leaves -/
def CheapE (d : Nat) (c : Cn) (w : World) (E : Int) (e : Ending) (w' : World) : Prop := ∃ v, e = .returned (.tuple #[v, .int .i64 E]) ∧ Below w.heap.size w w' ∧ (E = 0 → ∃ x, v = x.agg ∧ CopyX d (chC d c) w x w') ∧ (¬ E = 0 → v = .agg #[.int .i64 0, .string ⟨#[]⟩, .string ⟨#[]⟩, .string ⟨#[]⟩, .slice none 0 0, .slice none 0 0, .int .i64 0, .int .i64 0, .slice none 0 0])
set_option maxRecDepth 100000 in
set_option maxHeartbeats 4000000 in
theorem Cheap_any (d : Nat) (c : Cn) (w : World) (hT : TAt d w c) (hB : Tbs w) : Calls Tryz.prog 18 #[c.agg] w (CheapE d c w (cnE d c)) := by
  have CCk := Lib.hid (fun w h1 h2 => checkCond_any d c w h1 h2)
  have CH := Lib.hid (fun w (h : cnE d c = 0) h1 => cheap_any d c w h1 (right_of h).2 (Fm_of_right d c (right_of h).1).1)
  have HT := Lib.hid hT
  have HB := Lib.hid hB
  obtain ⟨E, hE⟩ : ∃ z, cnE d c = z := ⟨_, rfl⟩
  rw [hE] at CCk CH ⊢
  clear hE hT hB
  unfold Cn.agg at *
  have HX := Lib.hid ((OB.new w c.cells 30).alloc (.cells condZ.toArray 30))
  have HZ := Lib.hid (OB.new (w.alloc (.cells c.cells.toArray 30)) condZ 30)
  have HA := Lib.hid (((Below.refl w.heap.size w).alloc (Nat.le_refl _) (.cells c.cells.toArray 30)).alloc (by simp) (.cells condZ.toArray 30))
  have HT2 := Lib.hid (HT.out.below HA.out)
  have HB2 := Lib.hid (HB.out.below HA.out)
  have hsz : (w.alloc (.cells c.cells.toArray 30)).heap.size = w.heap.size + 1 := World.size_alloc _ _
  rw [hsz] at HZ
  clear hsz
  go_enter Tryz.func18, Tryz.ntmps18
  go_upto_region 1 with (fail)
  rw [show (w.alloc (.cells #[.int .i64 c.nd.kind, .string c.nd.name, .string c.nd.field, .string c.nd.sign, .slice c.nd.va c.nd.vals.length c.nd.vc, .slice c.nd.wa c.nd.whs.length c.nd.wc, .int .i64 c.nd.within, .int .i64 c.nd.number, .slice c.nd.aa c.args.length c.nd.ac] 30)).alloc (.cells #[.int .i64 0, .string ⟨#[]⟩, .string ⟨#[]⟩, .string ⟨#[]⟩, .slice none 0 0, .slice none 0 0, .int .i64 0, .int .i64 0, .slice none 0 0] 30) = (w.alloc (.cells c.cells.toArray 30)).alloc (.cells condZ.toArray 30) from rfl]
  generalize (w.alloc (.cells c.cells.toArray 30)).alloc (.cells condZ.toArray 30) = w2 at *
  have HQ1 : Hid (w.heap.size ≤ w.heap.size + 1) := Lib.hid (Nat.le_succ _)
  obtain ⟨q2, hq2⟩ : ∃ z, w.heap.size + 1 = z := ⟨_, rfl⟩
  rw [hq2] at HZ HQ1 ⊢
  have HQ2 : Hid (w.heap.size < q2) := Lib.hid (by omega)
  clear hq2
  have y0 := HX.out.cell 0 (.int .i64 c.nd.kind) rfl
  have y1 := HX.out.cell 1 (.string c.nd.name) rfl
  have y2 := HX.out.cell 2 (.string c.nd.field) rfl
  have y3 := HX.out.cell 3 (.string c.nd.sign) rfl
  have y4 := HX.out.cell 4 (.slice c.nd.va c.nd.vals.length c.nd.vc) rfl
  have y5 := HX.out.cell 5 (.slice c.nd.wa c.nd.whs.length c.nd.wc) rfl
  have y6 := HX.out.cell 6 (.int .i64 c.nd.within) rfl
  have y7 := HX.out.cell 7 (.int .i64 c.nd.number) rfl
  have y8 := HX.out.cell 8 (.slice c.nd.aa c.args.length c.nd.ac) rfl
  have yl := HX.out.lt
  go_wp2_with fail
  ((with_reducible refine (CCk.out _ HT2.out HB2.out).mono ?_); rintro e w3 ⟨rfl, b3⟩)
  have HX3 := Lib.hid (HX.out.below b3)
  have HZ3 := Lib.hid (HZ.out.below b3)
  have HT3 := Lib.hid (HT2.out.below b3)
  have HA3 := Lib.hid (HA.out.trans (b3.mono HA.out.size))
  clear b3 HX HZ HT2 HB2 HA CCk y0 y1 y2 y3 y4 y5 y6 y7 y8 yl
  by_cases h0 : E = 0
  · subst h0
    have C := Lib.hid (fun w h => CH.out w rfl h)
    have y0 := HX3.out.cell 0 (.int .i64 c.nd.kind) rfl
    have y1 := HX3.out.cell 1 (.string c.nd.name) rfl
    have y2 := HX3.out.cell 2 (.string c.nd.field) rfl
    have y3 := HX3.out.cell 3 (.string c.nd.sign) rfl
    have y4 := HX3.out.cell 4 (.slice c.nd.va c.nd.vals.length c.nd.vc) rfl
    have y5 := HX3.out.cell 5 (.slice c.nd.wa c.nd.whs.length c.nd.wc) rfl
    have y6 := HX3.out.cell 6 (.int .i64 c.nd.within) rfl
    have y7 := HX3.out.cell 7 (.int .i64 c.nd.number) rfl
    have y8 := HX3.out.cell 8 (.slice c.nd.aa c.args.length c.nd.ac) rfl
    have yl := HX3.out.lt
    go_wp2_with (first | (refine wpList_store_oc _ rfl _ _ _ rfl q2 _ _ _ rfl rfl HZ3.out sizeCond rfl rfl ?_))
    ((with_reducible refine (C.out _ HT3.out).mono ?_); rintro e w4 ⟨x, rfl, hX⟩)
    have HZ4 := Lib.hid (HZ3.out.below hX.bl)
    have HL3 := Lib.hid HZ3.out.lt
    have HXX := Lib.hid hX
    clear hX C CH HX3 HZ3 HT3 y0 y1 y2 y3 y4 y5 y6 y7 y8 yl
    unfold Cn.agg
    go_wp2_with (first | (refine wpList_store_oc _ rfl _ _ _ rfl q2 _ _ _ rfl rfl HZ4.out sizeCond rfl rfl ?_))
    intro wz oz kz
    have r0 := oz.cell 0 _ rfl
    have r1 := oz.cell 1 _ rfl
    have r2 := oz.cell 2 _ rfl
    have r3 := oz.cell 3 _ rfl
    have r4 := oz.cell 4 _ rfl
    have r5 := oz.cell 5 _ rfl
    have r6 := oz.cell 6 _ rfl
    have r7 := oz.cell 7 _ rfl
    have r8 := oz.cell 8 _ rfl
    have HKz := Lib.hid kz
    clear oz kz
    go_wp2_with fail
    refine bodyPost_ret (v := .tuple #[.agg #[.int .i64 x.nd.kind, .string x.nd.name, .string x.nd.field, .string x.nd.sign, .slice x.nd.va x.nd.vals.length x.nd.vc, .slice x.nd.wa x.nd.whs.length x.nd.wc, .int .i64 x.nd.within, .int .i64 x.nd.number, .slice x.nd.aa x.args.length x.nd.ac], .int .i64 0]) (by simp [results, Tryz.results18, go_sem, r0, r1, r2, r3, r4, r5, r6, r7, r8]) rfl ?_
    have hsz := HXX.out.bl.size
    have hsz3 := HA3.out.size
    have hlt := HZ4.out.lt
    refine ⟨_, rfl, Below.grown (HA3.out.trans (HXX.out.bl.mono HA3.out.size)) HKz.out (by omega) (fun b e => by have := Option.some.inj e; have := HQ1.out; omega), fun _ => ⟨x, rfl, ?_, HXX.out.sy, fun b hb => HXX.out.nw b (by omega), ?_⟩, fun h => absurd rfl h⟩
    · exact HXX.out.tr.kept HKz.out (fun g e => by obtain rfl := Option.some.inj e; exact HXX.out.nw _ HL3.out)
    · exact Below.grown (HA3.out.trans (HXX.out.bl.mono HA3.out.size)) HKz.out (by omega) (fun b e => by have := Option.some.inj e; have := HQ1.out; omega)
  · have h4 : (E != 0) = true := by simpa using h0
    have H0 := Lib.hid h0
    clear h0 CH
    go_wp2_with (first | (refine wpList_store_oc _ rfl _ _ _ rfl q2 _ _ _ rfl rfl HZ3.out sizeCond rfl rfl ?_))
    intro wz oz kz
    have r0 := oz.cell 0 _ rfl
    have r1 := oz.cell 1 _ rfl
    have r2 := oz.cell 2 _ rfl
    have r3 := oz.cell 3 _ rfl
    have r4 := oz.cell 4 _ rfl
    have r5 := oz.cell 5 _ rfl
    have r6 := oz.cell 6 _ rfl
    have r7 := oz.cell 7 _ rfl
    have r8 := oz.cell 8 _ rfl
    have HKz := Lib.hid kz
    clear oz kz
    go_wp2_with fail
    refine bodyPost_ret (v := .tuple #[.agg #[.int .i64 0, .string ⟨#[]⟩, .string ⟨#[]⟩, .string ⟨#[]⟩, .slice none 0 0, .slice none 0 0, .int .i64 0, .int .i64 0, .slice none 0 0], .int .i64 E]) (by simp [results, Tryz.results18, go_sem, r0, r1, r2, r3, r4, r5, r6, r7, r8]) rfl ?_
    have hsz3 := HA3.out.size
    exact ⟨_, rfl, Below.grown HA3.out HKz.out (by omega) (fun b e => by have := Option.some.inj e; have := HQ1.out; omega), fun h => absurd h H0.out, fun _ => rfl⟩
/-- what the maker of any condition leaves -/
def GenA (S : SC) (K : Nat) (w : World) (e : Ending) (w' : World) : Prop := ∃ (d : Nat) (c : Cn), d ≤ 27 ∧ szN d c ≤ 3000 ∧ e = .returned c.agg ∧ TAt d w' c ∧ FarT d c S.g ∧ w.grownBy w' (some S.g) ∧ Strm w' S K
set_option maxRecDepth 100000 in
set_option maxHeartbeats 4000000 in
theorem anyCond_any (S : SC) (K : Nat) (w : World) (hs : Strm w S K) (hK : K + kcC 3 ≤ 9000) : Calls Tryz.prog 6 #[S.p] w (GenA S (K + kcC 3 + 1 + 41) w) := by
  have s0 := strm_alloc hs (.cells #[.int .i64 0, .string ⟨#[]⟩, .string ⟨#[]⟩, .string ⟨#[]⟩, .slice none 0 0, .slice none 0 0, .int .i64 0, .int .i64 0, .slice none 0 0] 30)
  have hS := strm_lt hs
  have HZ : Hid (OB (w.alloc (.cells #[.int .i64 0, .string ⟨#[]⟩, .string ⟨#[]⟩, .string ⟨#[]⟩, .slice none 0 0, .slice none 0 0, .int .i64 0, .int .i64 0, .slice none 0 0] 30)) w.heap.size condZ 30) := Lib.hid (OB.new w condZ 30)
  have HG0 := Lib.hid (World.grownBy_alloc w (.cells #[.int .i64 0, .string ⟨#[]⟩, .string ⟨#[]⟩, .string ⟨#[]⟩, .slice none 0 0, .slice none 0 0, .int .i64 0, .int .i64 0, .slice none 0 0] 30) (some S.g))
  clear hs
  go_enter Tryz.func6, Tryz.ntmps6
  go_wp2_with fail
  with_reducible refine (cond_any 3 S 3 (by omega) rfl K _ s0 hK).mono ?_
  rintro e w1 ⟨x, rfl, hT, hF, hsz, k1, s1⟩
  have HSZ := Lib.hid hsz
  have HFS := Lib.hid (hF S.g (by have := strm_lt s0; exact this))
  have HFZ := Lib.hid (hF w.heap.size (by simp))
  obtain ⟨q2, hq2⟩ : ∃ z, w.heap.size = z := ⟨_, rfl⟩
  rw [hq2] at HZ HFZ hS ⊢
  have HZ1 := Lib.hid (HZ.out.grown k1 (fun e => by have := Option.some.inj e; omega))
  have HG1 := Lib.hid (grown_trans HG0.out k1)
  have HTx := Lib.hid hT
  have hql := HZ1.out.lt
  have hsl := strm_lt s1
  have HWQ : Hid (w.heap.size ≤ q2) := Lib.hid (by omega)
  clear hq2 hT hF hsz k1 HZ HG0 s0
  have HOx := Lib.hid (OB.new w1 x.cells 30)
  have HT2 := Lib.hid (HTx.out.alloc (.cells x.cells.toArray 30))
  have HFX := Lib.hid (HTx.out.newFar (Nat.le_refl _))
  have HZ2 := Lib.hid (HZ1.out.alloc (.cells x.cells.toArray 30))
  have HG2 := Lib.hid (grown_trans HG1.out (World.grownBy_alloc w1 (.cells x.cells.toArray 30) (some S.g)))
  have s2 := strm_alloc s1 (.cells x.cells.toArray 30)
  clear s1 HTx HZ1 HG1
  rw [show x.cells.toArray = #[.int .i64 x.nd.kind, .string x.nd.name, .string x.nd.field, .string x.nd.sign, .slice x.nd.va x.nd.vals.length x.nd.vc, .slice x.nd.wa x.nd.whs.length x.nd.wc, .int .i64 x.nd.within, .int .i64 x.nd.number, .slice x.nd.aa x.args.length x.nd.ac] from rfl]
  go_upto_region 2 with (fail)
  rw [show (Obj.cells #[.int .i64 x.nd.kind, .string x.nd.name, .string x.nd.field, .string x.nd.sign, .slice x.nd.va x.nd.vals.length x.nd.vc, .slice x.nd.wa x.nd.whs.length x.nd.wc, .int .i64 x.nd.within, .int .i64 x.nd.number, .slice x.nd.aa x.args.length x.nd.ac] 30) = .cells x.cells.toArray 30 from rfl]
  generalize w1.alloc (.cells x.cells.toArray 30) = w2 at *
  obtain ⟨q3, hq3⟩ : ∃ z, w1.heap.size = z := ⟨_, rfl⟩
  rw [hq3] at HOx HFX hql hsl ⊢
  clear hq3
  go_wp2_with fail
  with_reducible refine (flip_any S _ _ _ s2 (by omega) (by omega)).mono ?_
  rintro e w3 ⟨b, rfl, k3, s3⟩
  have HT3 := Lib.hid (HT2.out.kept k3 (fun g e => by obtain rfl := Option.some.inj e; exact HFS.out))
  have HO3 := Lib.hid (OB.grown HOx.out k3 (fun e => by have := Option.some.inj e; omega))
  have HZ3 := Lib.hid (OB.grown HZ2.out k3 (fun e => by have := Option.some.inj e; omega))
  have HG3 := Lib.hid (grown_trans HG2.out k3)
  clear k3 s2 HT2 HOx HZ2 HG2
  go_upto_if 7 with (fail)
  go_cut [] (fun wx => ∃ (d : Nat) (c : Cn), d ≤ 27 ∧ szN d c ≤ 3000 ∧ TAt d wx c ∧ FarT d c S.g ∧ FarT d c q2 ∧ OB wx q3 c.cells 30 ∧ OB wx q2 condZ 30 ∧ w.grownBy wx (some S.g) ∧ Strm wx S (K + kcC 3 + 1 + 41))
  case first =>
    cases b with
    | false =>
      go_wp2_with fail
      go_meet
      exact ⟨7, x, by omega, Nat.le_trans HSZ.out.1 (by decide), HT3.out, HFS.out, HFZ.out, HO3.out, HZ3.out, HG3.out, strm_mono s3 (by omega)⟩
    | true =>
      have C : Hid (Calls Tryz.prog 27 #[S.p, .agg #[.int .i64 x.nd.kind, .string x.nd.name, .string x.nd.field, .string x.nd.sign, .slice x.nd.va x.nd.vals.length x.nd.vc, .slice x.nd.wa x.nd.whs.length x.nd.wc, .int .i64 x.nd.within, .int .i64 x.nd.number, .slice x.nd.aa x.args.length x.nd.ac]] w3 (GenSp S (K + kcC 3 + 1 + 3 * 7 + 20) w3 7 x (7 + 20) ((7 + 1) * szN 7 x + 20))) := Lib.hid (spoil_any S 7 x (K + kcC 3 + 1) w3 HT3.out HFS.out HSZ.out.2 s3 (by omega))
      have y0 := HO3.out.cell 0 (.int .i64 x.nd.kind) rfl
      have y1 := HO3.out.cell 1 (.string x.nd.name) rfl
      have y2 := HO3.out.cell 2 (.string x.nd.field) rfl
      have y3 := HO3.out.cell 3 (.string x.nd.sign) rfl
      have y4 := HO3.out.cell 4 (.slice x.nd.va x.nd.vals.length x.nd.vc) rfl
      have y5 := HO3.out.cell 5 (.slice x.nd.wa x.nd.whs.length x.nd.wc) rfl
      have y6 := HO3.out.cell 6 (.int .i64 x.nd.within) rfl
      have y7 := HO3.out.cell 7 (.int .i64 x.nd.number) rfl
      have y8 := HO3.out.cell 8 (.slice x.nd.aa x.args.length x.nd.ac) rfl
      have yl := HO3.out.lt
      go_wp2_with fail
      with_reducible refine C.out.mono ?_
      rintro e w4 ⟨x', rfl, hT, hFo, hszn, k4, s4⟩
      have HFQ' := Lib.hid (hFo q3 yl HFX.out)
      have HFZ' := Lib.hid (hFo q2 HZ3.out.lt HFZ.out)
      have HFS' := Lib.hid (hFo S.g (strm_lt s3) HFS.out)
      have HT4 := Lib.hid hT
      have HO4 := Lib.hid (OB.grown HO3.out k4 (fun e => by have := Option.some.inj e; omega))
      have HZ4 := Lib.hid (OB.grown HZ3.out k4 (fun e => by have := Option.some.inj e; omega))
      have HG4 := Lib.hid (grown_trans HG3.out k4)
      have HS4 : Hid (szN 27 x' ≤ 3000) := Lib.hid (Nat.le_trans hszn (by have : szN 7 x ≤ 311 := Nat.le_trans HSZ.out.1 (by decide); omega))
      clear hT hFo hszn k4 s3 C y0 y1 y2 y3 y4 y5 y6 y7 y8 yl HT3 HO3 HZ3 HG3
      simp only [Cn.cells]
      go_wp2_with (refine wpList_store_oc _ rfl _ _ _ rfl q3 _ _ _ rfl rfl HO4.out sizeCond rfl rfl ?_)
      intro wz oz kz
      have HTz := Lib.hid (HT4.out.kept kz (fun g e => by obtain rfl := Option.some.inj e; exact HFQ'.out))
      have hne : q3 ≠ q2 := fun e => by have := HZ4.out; have := HO4.out; omega
      have HZz := Lib.hid (OB.grown HZ4.out kz (fun e => hne (Option.some.inj e)))
      have HGz := Lib.hid (grown_own HG4.out kz (fun b hb => by have := Option.some.inj hb; have := HWQ.out; omega))
      have sz := strm_own s4 kz (fun b hb => by have := Option.some.inj hb; omega)
      have HOz := Lib.hid oz
      clear oz kz s4
      go_wp2_with fail
      go_meet
      exact ⟨27, x', Nat.le_refl _, HS4.out, HTz.out, HFS'.out, HFZ'.out, HOz.out, HZz.out, HGz.out, strm_mono sz (by omega)⟩
  case rest =>
  obtain ⟨d, c, hd, hcs, hT, hFs, hFq, hO, hZ, hG, hs⟩ := hcut
  clear HT3 HO3 HZ3 HG3 s3
  have HT5 := Lib.hid hT
  have HO5 := Lib.hid hO
  have HZ5 := Lib.hid hZ
  have HG5 := Lib.hid hG
  have HF5 := Lib.hid (And.intro hFs hFq)
  clear hT hO hZ hG hFs hFq
  have y0 := HO5.out.cell 0 (.int .i64 c.nd.kind) rfl
  have y1 := HO5.out.cell 1 (.string c.nd.name) rfl
  have y2 := HO5.out.cell 2 (.string c.nd.field) rfl
  have y3 := HO5.out.cell 3 (.string c.nd.sign) rfl
  have y4 := HO5.out.cell 4 (.slice c.nd.va c.nd.vals.length c.nd.vc) rfl
  have y5 := HO5.out.cell 5 (.slice c.nd.wa c.nd.whs.length c.nd.wc) rfl
  have y6 := HO5.out.cell 6 (.int .i64 c.nd.within) rfl
  have y7 := HO5.out.cell 7 (.int .i64 c.nd.number) rfl
  have y8 := HO5.out.cell 8 (.slice c.nd.aa c.args.length c.nd.ac) rfl
  have yl := HO5.out.lt
  go_wp2_with (refine wpList_store_oc _ rfl _ _ _ rfl q2 _ _ _ rfl rfl HZ5.out sizeCond rfl rfl ?_)
  intro wz oz kz
  have r0 := oz.cell 0 _ rfl
  have r1 := oz.cell 1 _ rfl
  have r2 := oz.cell 2 _ rfl
  have r3 := oz.cell 3 _ rfl
  have r4 := oz.cell 4 _ rfl
  have r5 := oz.cell 5 _ rfl
  have r6 := oz.cell 6 _ rfl
  have r7 := oz.cell 7 _ rfl
  have r8 := oz.cell 8 _ rfl
  have HKz := Lib.hid kz
  clear oz kz
  go_wp2_with fail
  refine bodyPost_ret (v := .agg #[.int .i64 c.nd.kind, .string c.nd.name, .string c.nd.field, .string c.nd.sign, .slice c.nd.va c.nd.vals.length c.nd.vc, .slice c.nd.wa c.nd.whs.length c.nd.wc, .int .i64 c.nd.within, .int .i64 c.nd.number, .slice c.nd.aa c.args.length c.nd.ac]) (by simp [results, Tryz.results6, go_sem, r0, r1, r2, r3, r4, r5, r6, r7, r8]) rfl ?_
  exact ⟨d, c, hd, hcs, rfl, HT5.out.kept HKz.out (fun g e => by obtain rfl := Option.some.inj e; exact HF5.out.2), HF5.out.1, grown_own HG5.out HKz.out (fun b hb => by have := Option.some.inj hb; have := HWQ.out; omega), strm_own hs HKz.out (fun b hb => by have := Option.some.inj hb; omega)⟩
end Go.Proofs.YtfdpfkdfglombaaGreatDoor
