/- A condition in a variable of its own, whose conditions grow. -/
import Derived.Test.YtdiioecpponnmaaGreatDoorCTest
set_option linter.unusedVariables false
namespace Go.Proofs.YtdiioecpponnmaaGreatDoor
open Go.RowKit

theorem szN_step {w : World} : ∀ (d : Nat) (c : Cn), TAt d w c → szN (d + 1) c = szN d c
  | 0, _, h => h.elim
  | d + 1, c, ⟨_, _, _, _, _, hC⟩ => by
    show 1 + (c.args.map (szN (d + 1))).sum = 1 + (c.args.map (szN d)).sum
    congr 2
    exact List.map_congr_left fun x hx => szN_step d x (hC x hx)
theorem szN_mono {w : World} {c : Cn} {d d' : Nat} (h : TAt d w c) (hd : d ≤ d') : szN d' c = szN d c := by
  induction d' with
  | zero => obtain rfl : d = 0 := by omega
            rfl
  | succ d' ih =>
    by_cases e : d = d' + 1
    · subst e; rfl
    · rw [szN_step d' c (h.mono (by omega)), ih (by omega)]
theorem smT_step {w : World} : ∀ (d : Nat) (c : Cn), TAt d w c → smT d c → smT (d + 1) c
  | 0, _, h, _ => h.elim
  | d + 1, c, ⟨_, _, _, _, _, hC⟩, ⟨h1, h2, h3⟩ => ⟨h1, h2, fun x hx => smT_step d x (hC x hx) (h3 x hx)⟩
theorem smT_mono {w : World} {c : Cn} {d d' : Nat} (h : TAt d w c) (hd : d ≤ d') (hs : smT d c) : smT d' c := by
  induction d' with
  | zero => obtain rfl : d = 0 := by omega
            exact hs
  | succ d' ih =>
    by_cases e : d = d' + 1
    · subst e; exact hs
    · exact smT_step d' c (h.mono (by omega)) (ih (by omega))
theorem szS_mono {w : World} {c : Cn} {d d' M M' : Nat} (h : TAt d w c) (hd : d ≤ d') (hM : M ≤ M') (hs : szS d c M) : szS d' c M' :=
  ⟨by rw [szN_mono h hd]; exact Nat.le_trans hs.1 hM, smT_mono h hd hs.2⟩
theorem sum_le_mul : ∀ (l : List Nat) (M : Nat), (∀ x ∈ l, x ≤ M) → l.sum ≤ l.length * M
  | [], _, _ => by simp
  | y :: r, M, h => by
    have h1 := h y (by simp)
    have h2 := sum_le_mul r M (fun x hx => h x (by simp [hx]))
    rw [List.sum_cons, List.length_cons, Nat.add_mul]
    omega
theorem nd_okZ {kind : Int} {a : Option Addr} {c : Nat} (hk : i64B kind) : Nd.ok ⟨kind, ⟨#[]⟩, ⟨#[]⟩, ⟨#[]⟩, none, 0, [], none, 0, [], 0, 0, a, c⟩ :=
  ⟨hk, (by decide : (⟨#[]⟩ : ByteArray).size ≤ 1000), (by decide : (⟨#[]⟩ : ByteArray).size ≤ 1000), (by decide : (⟨#[]⟩ : ByteArray).size ≤ 1000), ⟨Nat.le_refl _, Nat.zero_le _, Nat.zero_le _⟩, ⟨Nat.le_refl _, Nat.zero_le _, Nat.zero_le _⟩, (by unfold i64B; decide : i64B 0), (by unfold i64B; decide : i64B 0), fun _ h => (by cases h), fun _ h => (by cases h)⟩
/-- a condition that lies there, away from what is one's own -/
def Ela (d : Nat) (wr : World) (q : Nat) (cur : Value) (x : Cn) : Prop := TAt d wr x ∧ (∀ g, g ≤ q → FarT d x g) ∧ ∀ g, cur.ownBlock = some g → FarT d x g
/-- a condition in a variable of its own, whose conditions grow -/
structure CW (d : Nat) (w : World) (S : SC) (q0 q : Nat) (kind : Int) (cur : Value) (l : List Cn) (K : Nat) (wr : World) : Prop where
  mkk : Mk w S q0 condZ 30 K wr
  bx : OB wr q [.int .i64 kind, .string ⟨#[]⟩, .string ⟨#[]⟩, .string ⟨#[]⟩, .slice none 0 0, .slice none 0 0, .int .i64 0, .int .i64 0, cur] 30
  own : wr.ownsRow (q + 1) 30 9 cur l.length (l.flatMap Cn.cells)
  lt : q0 < q
  el : ∀ x ∈ l, Ela d wr q cur x
section
variable {d : Nat} {w wr w' : World} {S : SC} {q0 q K K' : Nat} {kind : Int} {cur : Value} {l : List Cn}
theorem CW.draw (h : CW d w S q0 q kind cur l K wr) (k : wr.grownBy w' (some S.g)) (s : Strm w' S K') : CW d w S q0 q kind cur l K' w' := by
  have h1 := h.mkk.sg
  have h2 := h.lt
  refine ⟨h.mkk.draw k s, h.bx.grown k (fun e => by have := Option.some.inj e; omega), ?_, h.lt, fun x hx => ⟨(h.el x hx).1.kept k (fun g e => by obtain rfl := Option.some.inj e; exact (h.el x hx).2.1 _ (by omega)), (h.el x hx).2⟩⟩
  refine h.own.kept k ?_
  cases hv : cur.ownBlock with
  | none => exact .inl rfl
  | some b => exact .inr (fun e => by have := (h.own.lt b hv).1; have := Option.some.inj e; omega)
theorem CW.alloc (h : CW d w S q0 q kind cur l K wr) (o : Obj) : CW d w S q0 q kind cur l K (wr.alloc o) := h.draw (World.grownBy_alloc _ _ _) (strm_alloc h.mkk.st _)
theorem CW.mono (h : CW d w S q0 q kind cur l K wr) (hK : K ≤ K') : CW d w S q0 q kind cur l K' wr := h.draw ⟨rfl, rfl, rfl, Nat.le_refl _, fun _ _ _ => rfl⟩ (strm_mono h.mkk.st hK)
theorem CW.drew (h : CW d w S q0 q kind cur l K wr) : CW d w S q0 q kind cur l K wr.drew := h.draw ⟨rfl, rfl, rfl, Nat.le_refl _, fun _ _ _ => rfl⟩ (show Strm wr.drew S K from h.mkk.st)
theorem CW.app {x : Cn} {g cap : Nat} (h : CW d w S q0 q kind cur l K wr) (hx : Ela d wr q cur x) (own : w'.ownsRow (q + 1) 30 9 (.slice (some ⟨g, 0, none⟩) (l.length + 1) cap) (l.length + 1) (l.flatMap Cn.cells ++ x.cells)) (k : wr.grownBy w' cur.ownBlock) (hat : cur.ownBlock = some g ∨ g = wr.heap.size) :
    w'.cell? ⟨q, 8, none⟩ = some cur ∧ w'.frozen? ⟨q, 8, none⟩ = false ∧ q < w'.heap.size ∧ CW d w S q0 q kind (.slice (some ⟨g, 0, none⟩) (l.length + 1) cap) (l ++ [x]) K (w'.setCell ⟨q, 8, none⟩ (.slice (some ⟨g, 0, none⟩) (l.length + 1) cap)) := by
  have h1 := h.mkk.sg
  have h2 := h.lt
  have h3 := h.mkk.lo
  have hr : ∀ b, cur.ownBlock = some b → q + 1 ≤ b := fun b hb => (h.own.lt b hb).1
  have hbx : OB w' q _ 30 := h.bx.grown k (fun e => by have := hr q e; omega)
  have hmk0 : OB w' q0 condZ 30 := h.mkk.ob.grown k (fun e => by have := hr q0 e; omega)
  have hgr : w.grownBy w' (some S.g) := grown_own h.mkk.gr k (fun b hb => by have := hr b hb; omega)
  have hst : Strm w' S K := strm_own h.mkk.st k (fun b hb => by have := hr b hb; omega)
  have hset : w'.grownBy (w'.setCell ⟨q, 8, none⟩ (.slice (some ⟨g, 0, none⟩) (l.length + 1) cap)) (some q) := ⟨rfl, rfl, rfl, by simp [World.setCell], fun i _ hne => Below.heap_setCell w' _ _ i (by rintro rfl; exact hne rfl)⟩
  have hq : q < wr.heap.size := h.bx.lt
  refine ⟨hbx.cell 8 _ rfl, hbx.free 8, hbx.lt, ⟨⟨hmk0.grown hset (fun e => by have := Option.some.inj e; omega), strm_own hst hset (fun b hb => by have := Option.some.inj hb; omega), grown_own hgr hset (fun b hb => by have := Option.some.inj hb; omega), h.mkk.lo, h1⟩, hbx.put 8 _ rfl, ?_, h.lt, fun y hy => ?_⟩⟩
  · have own' : w'.ownsRow (q + 1) 30 9 (.slice (some ⟨g, 0, none⟩) (l.length + 1) cap) (l ++ [x]).length ((l ++ [x]).flatMap Cn.cells) := by simpa using own
    refine own'.kept hset (.inr ?_)
    intro e
    have h5 := (own'.lt g (by simp [Value.ownBlock])).1
    have h6 := Option.some.inj e
    simp only at h5 h6
    omega
  · have hy' : Ela d wr q cur y := by
      rcases List.mem_append.1 hy with hy | hy
      · exact h.el y hy
      · obtain rfl := List.mem_singleton.1 hy
        exact hx
    obtain ⟨t1, t2, t3⟩ := hy'
    refine ⟨(t1.kept k t3).kept hset (fun g' e => by obtain rfl := Option.some.inj e; exact t2 _ (Nat.le_refl _)), t2, fun g' hg' => ?_⟩
    obtain rfl : g = g' := by simpa [Value.ownBlock] using hg'
    rcases hat with e | e
    · exact t3 _ e
    · exact t1.newFar (by omega)
theorem CW.gen {w9 : World} {a : Option Addr} {c M M1 : Nat} (h : CW d w S q0 q kind (.slice a l.length c) l K wr) (hk : i64B kind) (hc1 : l.length ≤ c) (hc2 : c ≤ maxLen) (hl : l.length ≤ 1000) (k9 : wr.grownBy w9 (some q0)) (o9 : OB w9 q0 [.int .i64 kind, .string ⟨#[]⟩, .string ⟨#[]⟩, .string ⟨#[]⟩, .slice none 0 0, .slice none 0 0, .int .i64 0, .int .i64 0, .slice a l.length c] 30) (hK : K ≤ K') (hsz : ∀ x ∈ l, szS d x M1) (hM : 1 + l.length * M1 ≤ M) :
    GenC S K' w (d + 1) M (.returned (.agg #[.int .i64 kind, .string ⟨#[]⟩, .string ⟨#[]⟩, .string ⟨#[]⟩, .slice none 0 0, .slice none 0 0, .int .i64 0, .int .i64 0, .slice a l.length c])) w9 := by
  have h2 := h.lt
  have h3 := h.mkk.lo
  obtain ⟨a', c', e, hI, -, -⟩ := RAt.of_own h.own (fun x _ => x.len)
  injection e with e1 e2 e3
  subst e1 e3
  have hfar : ∀ p off, a = some ⟨p, off, none⟩ → q + 1 ≤ p := fun p off e => (h.own.lt p (by rw [e]; rfl)).1
  have hF : ∀ g, g ≤ q → Far a l.length g := fun g hg _ p off e => by have := hfar p off e; omega
  have hm := h.mkk.write o9 k9
  refine ⟨.mk ⟨kind, ⟨#[]⟩, ⟨#[]⟩, ⟨#[]⟩, none, 0, [], none, 0, [], 0, 0, a, c⟩ l, rfl, ⟨nd_okZ hk, ⟨hc1, hc2, hl⟩, RAt.nil _ _ _ _, RAt.nil _ _ _ _, hI.kept k9 (fun g e => by obtain rfl := Option.some.inj e; exact hF _ (by omega)), fun x hx => (h.el x hx).1.kept k9 (fun g e => by obtain rfl := Option.some.inj e; exact (h.el x hx).2.1 _ (by omega))⟩, fun g hg => ⟨fun h => absurd h (by simp [Cn.nd]), fun h => absurd h (by simp [Cn.nd]), hF g (by omega), fun x hx => (h.el x hx).2.1 g (by omega)⟩, ⟨?_, (by decide : 0 ≤ 100), (by decide : 0 ≤ 100), fun x hx => (hsz x hx).2⟩, hm.gr, strm_mono hm.st hK⟩
  show 1 + (l.map (szN d)).sum ≤ M
  have := sum_le_mul (l.map (szN d)) M1 (fun y hy => by obtain ⟨x, hx, rfl⟩ := List.mem_map.1 hy; exact (hsz x hx).1)
  rw [List.length_map] at this
  omega
end
def Cn.agg' (c : Cn) : Value := .agg #[.int .i64 c.nd.kind, .string c.nd.name, .string c.nd.field, .string c.nd.sign, .slice c.nd.va c.nd.vals.length c.nd.vc, .slice c.nd.wa c.nd.whs.length c.nd.wc, .int .i64 c.nd.within, .int .i64 c.nd.number, .slice c.nd.aa c.args.length c.nd.ac]
/-- what the region that appends a new condition keeps -/
structure JC1 (d : Nat) (w : World) (S : SC) (q0 q : Nat) (kind : Int) (cur : Value) (l : List Cn) (K0 kn M : Nat) (s1 s5 s6 : Nat) (b : Msk) (v : Nat → Value) (wr : World) : Prop where
  base : CW d w S q0 q kind cur l (K0 + cond (b 5) kn 0) wr
  p1 : b 1 = true → v s1 = cur
  p5 : b 5 = true → ∃ x : Cn, v s5 = x.agg' ∧ Ela d wr q cur x ∧ szS d x M
  p6 : b 6 = true → ∃ h, ∃ x : Cn, v s6 = .slice (some ⟨h, 0, none⟩) 1 1 ∧ Ela d wr q cur x ∧ szS d x M ∧ h ≠ S.g ∧ OB wr h x.cells 30
end Go.Proofs.YtdiioecpponnmaaGreatDoor
