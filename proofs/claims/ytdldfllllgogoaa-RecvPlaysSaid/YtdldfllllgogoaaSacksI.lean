/- Two rows in two boxes that a loop's body appends to: what is kept, and the step. No condition. -/
import Derived.Test.YtdldfllllgogoaaSacks
import Derived.Test.YtdldfllllgogoaaBack
import Derived.Test.YtdldfllllgogoaaLists
namespace Go.Proofs.Ytdldfllllgogoaa
open Go.RowKit Go.Shelf

def RBox (W : World) (B : Nat) (v : Value) : Prop := Boxed W B 39 v
/-- the boxes Ba, Bb hold two rows (in blocks from n₀ on) that read as l1, l2; the box Bs the slice gone through; the box Bl the number -/
structure SackC (w : World) (n₀ Ba Bb Bs Bl : Nat) (last : Int) (A : Option Addr) (m c : Nat) (l1 l2 : List Rng) (A1 : Option Addr) (c1 : Nat) (A2 : Option Addr) (c2 : Nat) (W : World) : Prop where
  ba : RBox W Ba (.slice A1 l1.length c1)
  bb : RBox W Bb (.slice A2 l2.length c2)
  bs : RBox W Bs (.slice A m c)
  bl : Boxed W Bl 3 (.int .i64 last)
  o1 : Own W n₀ 78 2 A1 l1.length c1 (l1.flatMap Rng.cells)
  o2 : Own W n₀ 78 2 A2 l2.length c2 (l2.flatMap Rng.cells)
  two : Two A1 A2
  low : Below w.heap.size w W
  h0 : w.heap.size ≤ n₀ ∧ n₀ ≤ W.heap.size
  ha : w.heap.size ≤ Ba ∧ Ba < n₀
  hb : w.heap.size ≤ Bb ∧ Bb < n₀
  hs : Bs < n₀
  hl : Bl < n₀
  hab : Ba ≠ Bb
  has : Ba ≠ Bs
  hbs : Bb ≠ Bs
  hal : Ba ≠ Bl
  hbl : Bb ≠ Bl

section
variable {w : World} {n₀ Ba Bb Bs Bl : Nat} {last : Int} {A : Option Addr} {m c : Nat} {l1 l2 : List Rng} {A1 : Option Addr} {c1 : Nat} {A2 : Option Addr} {c2 : Nat} {W : World}
theorem SackC.swap (h : SackC w n₀ Ba Bb Bs Bl last A m c l1 l2 A1 c1 A2 c2 W) : SackC w n₀ Bb Ba Bs Bl last A m c l2 l1 A2 c2 A1 c1 W :=
  ⟨h.bb, h.ba, h.bs, h.bl, h.o2, h.o1, h.two.symm, h.low, h.h0, h.hb, h.ha, h.hs, h.hl, h.hab.symm, h.hbs, h.has, h.hbl, h.hal⟩
theorem box_ne {B : Nat} {t : TypeId} {v : Value} (h : Boxed W B t v) {row : Option Nat} (hr : ∀ r, row = some r → ∃ o : Obj, W.heap[r]? = some o ∧ o.isCells = false) : some B ≠ row := by
  intro e
  obtain ⟨o, ho, hc⟩ := hr B e.symm
  rw [show W.heap[B]? = _ from h] at ho
  cases ho
  cases hc
theorem row_ne {base : Nat} {e : TypeId} {size n d : Nat} {X : Option Addr} {xs : List Value} (h : Own W base e size X n d xs) {row : Option Nat} (hr : ∀ r, row = some r → ∃ o : Obj, W.heap[r]? = some o ∧ o.isCells = false) : blkOf X = none ∨ blkOf X ≠ row := by
  rcases h.2 with ⟨h1, _⟩ | ⟨g, cap, cur, h1, _, h3, _⟩
  · left
    simp only [Value.slice.injEq] at h1
    rw [h1.1]
    rfl
  · right
    simp only [Value.slice.injEq] at h1
    rw [h1.1]
    intro e
    obtain ⟨o, ho, hc⟩ := hr g e.symm
    rw [h3] at ho
    cases ho
    cases hc
/-- whatever turns no cells leaves it -/
theorem SackC.kept (h : SackC w n₀ Ba Bb Bs Bl last A m c l1 l2 A1 c1 A2 c2 W) {W' : World} {row : Option Nat} (hg : W.grownBy W' row) (hr : ∀ r, row = some r → w.heap.size ≤ r ∧ ∃ o : Obj, W.heap[r]? = some o ∧ o.isCells = false) : SackC w n₀ Ba Bb Bs Bl last A m c l1 l2 A1 c1 A2 c2 W' :=
  have hr' := fun r e => (hr r e).2
  ⟨h.ba.kept hg (box_ne h.ba hr'), h.bb.kept hg (box_ne h.bb hr'), h.bs.kept hg (box_ne h.bs hr'), h.bl.kept hg (box_ne h.bl hr'), h.o1.kept hg (row_ne h.o1 hr'), h.o2.kept hg (row_ne h.o2 hr'), h.two,
    h.low.grown hg h.low.size (fun k e => (hr k e).1), ⟨h.h0.1, Nat.le_trans h.h0.2 hg.size⟩, h.ha, h.hb, h.hs, h.hl, h.hab, h.has, h.hbs, h.hal, h.hbl⟩
theorem SackC.alloc (h : SackC w n₀ Ba Bb Bs Bl last A m c l1 l2 A1 c1 A2 c2 W) (o : Obj) : SackC w n₀ Ba Bb Bs Bl last A m c l1 l2 A1 c1 A2 c2 (W.alloc o) :=
  h.kept (World.grownBy_alloc W o none) (fun r e => by cases e)
theorem box_row {B : Nat} {v : Value} (h : RBox W B v) {base : Nat} {n d : Nat} {X : Option Addr} {xs : List Value} (ho : Own W base 78 2 X n d xs) : some B ≠ blkOf X := by
  have := h.not_row (by decide) ho
  rwa [ownBlock_slice] at this
/-- the first row is appended to and its box is set -/
theorem SackC.step (h : SackC w n₀ Ba Bb Bs Bl last A m c l1 l2 A1 c1 A2 c2 W) {tmp : Obj} {w1 : World} {A1' : Option Addr} {c1' : Nat} {x : Rng} (hg : Grew (W.alloc tmp) w1 A1 A1') (ho : Own w1 n₀ 78 2 A1' (l1.length + 1) c1' (l1.flatMap Rng.cells ++ Rng.cells x)) :
    SackC w n₀ Ba Bb Bs Bl last A m c (l1 ++ [x]) l2 A1' c1' A2 c2 (w1.setCell ⟨Ba, 0, none⟩ (.slice A1' (l1.length + 1) c1')) ∧ (∀ K, KeepsFrom K W (w1.setCell ⟨Ba, 0, none⟩ (.slice A1' (l1.length + 1) c1'))) ∧
      (∀ k, k ≤ Ba → Below k W (w1.setCell ⟨Ba, 0, none⟩ (.slice A1' (l1.length + 1) c1'))) ∧ RBox w1 Ba (.slice A1 l1.length c1) := by
  have ha := h.alloc tmp
  have hge : ∀ k, blkOf A1 = some k → n₀ ≤ k := fun k e => (h.o1.lt k e).1
  have b1 : RBox w1 Ba (.slice A1 l1.length c1) := ha.ba.kept hg.grown (box_row ha.ba ha.o1)
  have b2 : RBox w1 Bb (.slice A2 l2.length c2) := ha.bb.kept hg.grown (box_row ha.bb ha.o1)
  have b3 : RBox w1 Bs (.slice A m c) := ha.bs.kept hg.grown (box_row ha.bs ha.o1)
  have b4 : Boxed w1 Bl 3 (.int .i64 last) := ha.bl.kept hg.grown (by
    have := ha.bl.not_row (by decide) ha.o1
    rwa [ownBlock_slice] at this)
  have r2 : Own w1 n₀ 78 2 A2 l2.length c2 (l2.flatMap Rng.cells) := ha.o2.kept' hg (fun k e => h.two.symm k e)
  have hl : (l1 ++ [x]).length = l1.length + 1 := by simp
  have hlow : ∀ k, k ≤ Ba → Below k W (w1.setCell ⟨Ba, 0, none⟩ (.slice A1' (l1.length + 1) c1')) := fun k hk =>
    (((Below.refl k W).alloc (by have := h.ha.2; have := h.h0.2; omega) tmp).trans (hg.below (by have := h.ha.2; have := h.h0.2; simp; omega) (fun j e => by have := hge j e; have := h.ha.2; omega))).setCell (p := ⟨Ba, 0, none⟩) hk _
  have oa : Own (w1.setCell ⟨Ba, 0, none⟩ (.slice A1' (l1.length + 1) c1')) n₀ 78 2 A1' (l1.length + 1) c1' (l1.flatMap Rng.cells ++ Rng.cells x) := ho.setCell (fun e => by have h1 : n₀ ≤ Ba := (ho.lt _ e).1; have := h.ha.2; omega) _
  have ob : Own (w1.setCell ⟨Ba, 0, none⟩ (.slice A1' (l1.length + 1) c1')) n₀ 78 2 A2 l2.length c2 (l2.flatMap Rng.cells) := r2.setCell (fun e => by have h1 : n₀ ≤ Ba := (r2.lt _ e).1; have := h.ha.2; omega) _
  refine ⟨⟨?_, b2.other h.hab.symm _, b3.other h.has.symm _, b4.other h.hal.symm _, ?_, ob, h.two.left hg (fun k e => (ha.o2.lt k e).2), h.low.trans ((hlow Ba (Nat.le_refl _)).mono h.ha.1), ⟨h.h0.1, ?_⟩, h.ha, h.hb, h.hs, h.hl, h.hab, h.has, h.hbs, h.hal, h.hbl⟩, ?_, hlow, b1⟩
  · rw [hl]; exact b1.set _
  · rw [hl, List.flatMap_append]; simpa using oa
  · exact Nat.le_trans h.h0.2 (hlow Ba (Nat.le_refl _)).size
  · intro K
    refine (((KeepsOthers.alloc W tmp).trans (KeepsOthers.of_grownBy hg.grown fun j o ej hj => ?_)).trans (KeepsOthers.setCell _ _ _)).from K
    rcases ha.o1.2 with ⟨h1, _⟩ | ⟨g, cap, cur, h1, _, h3, _⟩
    · simp only [Value.slice.injEq] at h1
      rw [h1.1] at ej
      cases ej
    · simp only [Value.slice.injEq] at h1
      rw [h1.1] at ej
      cases ej
      rw [h3] at hj
      cases hj
      rfl
end

theorem wpIn_app {F : Fence} {n : Nat} {P : Program} (w : World) {ops : Array Oper} {rest : List Oper} {o : Oper} {a : Act} {Q : Exit → Act → World → Prop}
    (hgd : o.guard = none) (s x : Operand) (t : TypeId) (ho : o.op = .call { callee := .builtin .append, args := #[s, x], argTypes := #[t, t] }) {e : TypeId} {size bytes : Nat} (hT : ElemT P t e size bytes) (base : Nat) (A : Option Addr) (k c : Nat) (xs : List Value) (hs : a.eval s = .slice A k c) (hown : Own w base e size A k c xs)
    (B : Option Addr) (m d : Nat) (news : List Value) (hx : a.eval x = .slice B m d) (hl : news.length = m * size) (hnews : Cells w B news) (h1 : ∀ u ∈ news, u.oneCell' = true) (hroom : (k + m) * bytes ≤ 140737488355328) (h63 : k + m ≤ maxLen) (hbase : base ≤ w.heap.size)
    (hK : ∀ A' c' w', Own w' base e size A' (k + m) c' (xs ++ news) → Grew w w' A A' → wpListIn F n P ops Q rest (a.put o.dst (.slice A' (k + m) c')) w') : wpListIn F n P ops Q (o :: rest) a w := by
  refine wpListIn_plain hgd fun K hK' => ?_
  obtain ⟨A', c', w', hrun, r1, r2⟩ := run_app (P := P) (ty := o.type) w hT base A k c xs hown B m d news hl hnews h1 hroom h63 hbase
  unfold Oper.wpIn
  refine ⟨?_, ?_⟩
  · simp [Oper.about, ho, resolve, Target.leads, Sem.run_pure]
  · rw [Oper.semAt_plain F _ _ (by rw [ho]; intro c hc'; cases hc')]
    simp [execOp, ho, resolve, invoke, builtin, hs, hx, hrun, Result.andThen]
    exact hK' _ _ (hK A' c' w' r1 r2)
end Go.Proofs.Ytdldfllllgogoaa
