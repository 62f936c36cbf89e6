/- Package path: walk: what a round of its loop keeps. No condition. -/
import Derived.Test.YtlcjdlnhniemcaaDoorWalk
namespace Go.Proofs.YtlcjdlnhniemcaaDoor
open Go.RowKit Go.Shelf

theorem play_snoc {α σ : Type} (step : σ → α → Except Int σ) (s : σ) (l : List α) (x : α) : playTo step s (l ++ [x]) = match playTo step s l with | .error e => .error e | .ok s' => step s' x := by
  induction l generalizing s with
  | nil =>
    show playTo step s [x] = step s x
    rw [playTo_cons]
    cases step s x <;> rfl
  | cons y r ih =>
    rw [List.cons_append, playTo_cons, playTo_cons]
    cases step s y with
    | error e => rfl
    | ok s' => exact ih s'
theorem play_bad {α σ : Type} {step : σ → α → Except Int σ} {s : σ} {l : List α} {e : Int} (h : playTo step s l = .error e) (r : List α) : playTo step s (l ++ r) = .error e := by
  induction l generalizing s with
  | nil => cases h
  | cons y t ih =>
    rw [List.cons_append, playTo_cons] at *
    cases hs : step s y with
    | error e' => rw [hs] at h; exact h
    | ok s' => rw [hs] at h; exact ih h
theorem pa.on_ok {s o o' : List (List UInt8)} {pre : List (List UInt8)} {x : List UInt8} (h : playTo pa.step s pre = .ok o) (hx : pa.step o x = .ok o') : playTo pa.step s (pre ++ [x]) = .ok o' := by
  rw [play_snoc, h]; exact hx
theorem pa.on_no {s o : List (List UInt8)} {pre : List (List UInt8)} {x : List UInt8} {e : Int} (h : playTo pa.step s pre = .ok o) (hx : pa.step o x = .error e) : playTo pa.step s (pre ++ [x]) = .error e := by
  rw [play_snoc, h]; exact hx

/-- walk's boxes: the results (blocks |w|, |w| + 1), the list (block B), the iterator's three behind it -/
structure WalkC (w : World) (B : Nat) (o : List (List UInt8)) (Ao : Option Addr) (co : Nat) (W : World) : Prop where
  b4 : Boxed W w.heap.size 29 (.slice none 0 0)
  b5 : Boxed W (w.heap.size + 1) 24 (.int .i64 0)
  b6 : Boxed W B 29 (.slice Ao o.length co)
  own : Own W (w.heap.size + 1 + 1) 9 1 Ao o.length co (o.map pa.sv)
  far : ∀ k, blkOf Ao = some k → k < B ∨ B + 4 ≤ k
  low : Below w.heap.size w W
  hB : w.heap.size + 1 + 1 ≤ B ∧ B + 4 ≤ W.heap.size

section
variable {w W : World} {B : Nat} {o : List (List UInt8)} {Ao : Option Addr} {co : Nat}
theorem WalkC.kept (h : WalkC w B o Ao co W) {W' : World} {row : Option Nat} (hg : W.grownBy W' row) (hr : ∀ r, row = some r → w.heap.size ≤ r ∧ ∃ x : Obj, W.heap[r]? = some x ∧ x.isCells = false) : WalkC w B o Ao co W' := by
  have nb : ∀ {b : Nat} {t : TypeId} {v : Value}, Boxed W b t v → some b ≠ row := fun {b t v} hb e => by
    obtain ⟨_, x, hx, hc⟩ := hr b e.symm
    rw [show W.heap[b]? = _ from hb] at hx
    cases hx
    cases hc
  refine ⟨h.b4.kept hg (nb h.b4), h.b5.kept hg (nb h.b5), h.b6.kept hg (nb h.b6), h.own.kept hg ?_, h.far, h.low.grown hg h.low.size (fun k e => (hr k e).1), h.hB.1, Nat.le_trans h.hB.2 hg.size⟩
  rcases h.own.2 with ⟨h1, _⟩ | ⟨g, cap, cur, h1, _, h3, _⟩
  · left
    simp only [Value.slice.injEq] at h1
    rw [h1.1]
    rfl
  · right
    simp only [Value.slice.injEq] at h1
    rw [h1.1]
    intro e
    obtain ⟨_, x, hx, hc⟩ := hr g e.symm
    rw [h3] at hx
    cases hx
    cases hc
/-- a store into one of the iterator's boxes -/
theorem WalkC.store (h : WalkC w B o Ao co W) (v : Value) : WalkC w B o Ao co (W.setCell ⟨B + 1, 0, none⟩ v) := by
  have hB := h.hB
  refine ⟨h.b4.other (by omega) _, h.b5.other (by omega) _, h.b6.other (by omega) _, h.own.setCell (fun e => ?_) _, h.far, h.low.setCell (p := ⟨B + 1, 0, none⟩) (by show w.heap.size ≤ B + 1; omega) _, hB.1, by rw [World.size_setCell]; exact hB.2⟩
  have := h.far (B + 1) e
  omega
theorem WalkC.alloc (h : WalkC w B o Ao co W) (x : Obj) : WalkC w B o Ao co (W.alloc x) := h.kept (World.grownBy_alloc W x none) (fun r e => by cases e)
theorem WalkC.next (h : WalkC w B o Ao co W) {W' : World} (hb : Below W.heap.size W W') : WalkC w B o Ao co W' :=
  ⟨(hb.block _ h.b4.lt).trans h.b4, (hb.block _ h.b5.lt).trans h.b5, (hb.block _ h.b6.lt).trans h.b6, h.own.next hb, h.far, bnext h.low hb, h.hB.1, Nat.le_trans h.hB.2 hb.size⟩
theorem WalkC.fail (h : WalkC w B o Ao co W) (er : Int) : (∀ K, KeepsFrom K W ((W.setCell ⟨w.heap.size, 0, none⟩ (.slice none 0 0)).setCell ⟨w.heap.size + 1, 0, none⟩ (.int .i64 er))) ∧
    Boxed ((W.setCell ⟨w.heap.size, 0, none⟩ (.slice none 0 0)).setCell ⟨w.heap.size + 1, 0, none⟩ (.int .i64 er)) w.heap.size 29 (.slice none 0 0) ∧
    Boxed ((W.setCell ⟨w.heap.size, 0, none⟩ (.slice none 0 0)).setCell ⟨w.heap.size + 1, 0, none⟩ (.int .i64 er)) (w.heap.size + 1) 24 (.int .i64 er) ∧
    Below w.heap.size w ((W.setCell ⟨w.heap.size, 0, none⟩ (.slice none 0 0)).setCell ⟨w.heap.size + 1, 0, none⟩ (.int .i64 er)) ∧ B + 4 ≤ ((W.setCell ⟨w.heap.size, 0, none⟩ (.slice none 0 0)).setCell ⟨w.heap.size + 1, 0, none⟩ (.int .i64 er)).heap.size :=
  ⟨fun K => ((KeepsOthers.setCell _ _ _).trans (KeepsOthers.setCell _ _ _)).from K, (h.b4.set _).other (by omega) _, (h.b5.other (by omega) _).set _,
    (h.low.setCell (p := ⟨w.heap.size, 0, none⟩) (Nat.le_refl _) _).setCell (p := ⟨w.heap.size + 1, 0, none⟩) (Nat.le_succ _) _, by simp only [World.size_setCell]; exact h.hB.2⟩
theorem pa.keeps_below {W W' : World} (hb : Below W.heap.size W W') (K : Nat) : KeepsFrom K W W' := ⟨hb.size, fun k x _ hk _ => (hb.block k (Array.getElem?_eq_some_iff.1 hk).1).trans hk⟩
theorem pa.kp_below {W W' : World} {a b c : Nat} (hb : Below W.heap.size W W') : SplitKp a b c W W' := fun _ _ _ _ hv => (hb.block _ hv.lt).trans hv
theorem pa.box_row {W : World} {b : Nat} {t : TypeId} {v : Value} (h : Boxed W b t v) (ht : t ≠ 9) {base n d : Nat} {X : Option Addr} {xs : List Value} (ho : Own W base 9 1 X n d xs) : some b ≠ blkOf X := by
  have := h.not_row ht ho
  rwa [ownBlock_slice] at this
theorem WalkC.cut (h : WalkC w B o Ao co W) {n : Nat} (hn : n = o.dropLast.length) : WalkC w B o.dropLast Ao co (W.setCell ⟨B, 0, none⟩ (.slice Ao n co)) := by
  have hB := h.hB
  have hl : o.dropLast.length ≤ o.length := by rw [List.length_dropLast]; omega
  have ho : Own W (w.heap.size + 1 + 1) 9 1 Ao o.dropLast.length co (o.dropLast.map pa.sv) := by
    have := pa.own_front h.own (k := o.length - 1) (by omega)
    rw [← List.map_take] at this
    rw [List.dropLast_eq_take, List.length_take, Nat.min_eq_left (by omega)]
    exact this
  subst hn
  refine ⟨h.b4.other (by omega) _, h.b5.other (by omega) _, h.b6.set _, ho.setCell (fun e => ?_) _, h.far, h.low.setCell (p := ⟨B, 0, none⟩) (by show w.heap.size ≤ B; omega) _, hB.1, by rw [World.size_setCell]; exact hB.2⟩
  have := h.far _ e
  exact absurd e.symm (pa.box_row h.b6 (by decide) h.own)
theorem WalkC.put (h : WalkC w B o Ao co W) {tmp : Obj} {w1 : World} {A1 : Option Addr} {c1 : Nat} {x : List UInt8} {n : Nat} (hn : n = o.length + 1) (hg : Grew (W.alloc tmp) w1 Ao A1) (ho : Own w1 (w.heap.size + 1 + 1) 9 1 A1 n c1 (o.map pa.sv ++ [pa.sv x])) :
    WalkC w B (o ++ [x]) A1 c1 (w1.setCell ⟨B, 0, none⟩ (.slice A1 n c1)) ∧ (∀ K, KeepsFrom K W (w1.setCell ⟨B, 0, none⟩ (.slice A1 n c1))) ∧ SplitKp (B + 1) (B + 1 + 1) (B + 1 + 1 + 1) W (w1.setCell ⟨B, 0, none⟩ (.slice A1 n c1)) ∧ Boxed w1 B 29 (.slice Ao o.length co) := by
  have ha := h.alloc tmp
  have hB := ha.hB
  have hB0 := h.hB
  have e4 := ha.b4.kept hg.grown (pa.box_row ha.b4 (by decide) ha.own)
  have e5 := ha.b5.kept hg.grown (pa.box_row ha.b5 (by decide) ha.own)
  have e6 := ha.b6.kept hg.grown (pa.box_row ha.b6 (by decide) ha.own)
  have hge : ∀ k, blkOf Ao = some k → w.heap.size + 1 + 1 ≤ k := fun k e => (h.own.lt k e).1
  have hsz := hg.grown.size
  have hfar : ∀ k, blkOf A1 = some k → k < B ∨ B + 4 ≤ k := fun k e => by
    rcases hg.blk with h1 | ⟨g, hg1, h1⟩
    · rw [h1] at e
      exact h.far k e
    · rw [h1] at e
      cases e
      omega
  have hne : blkOf A1 ≠ some B := fun e => by
    rcases hg.blk with h1 | ⟨g, hg1, h1⟩
    · rw [h1] at e
      exact absurd e.symm (pa.box_row h.b6 (by decide) h.own)
    · rw [h1] at e
      cases e
      omega
  have hlow : Below w.heap.size w w1 := ha.low.trans (hg.below ha.low.size (fun k e => by have := hge k e; omega))
  have hlen : n = (o ++ [x]).length := by rw [List.length_append, List.length_singleton]; exact hn
  have ho' : Own w1 (w.heap.size + 1 + 1) 9 1 A1 (o ++ [x]).length c1 ((o ++ [x]).map pa.sv) := by rw [← hlen, List.map_append]; exact ho
  subst hlen
  refine ⟨⟨e4.other (by omega) _, e5.other (by omega) _, e6.set _, ho'.setCell hne _, hfar, hlow.setCell (p := ⟨B, 0, none⟩) (by show w.heap.size ≤ B; omega) _, hB.1, by rw [World.size_setCell]; omega⟩, fun K => ?_, ?_, e6⟩
  · refine (((KeepsOthers.alloc W tmp).trans (KeepsOthers.of_grownBy hg.grown fun j x ej hj => ?_)).trans (KeepsOthers.setCell _ _ _)).from K
    rcases ha.own.2 with ⟨h1, _⟩ | ⟨g, cap, cur, h1, _, h3, _⟩
    · simp only [Value.slice.injEq] at h1
      rw [h1.1] at ej
      cases ej
    · simp only [Value.slice.injEq] at h1
      rw [h1.1] at ej
      cases ej
      rw [h3] at hj
      cases hj
      rfl
  · intro b hb t v hv
    have hb1 := (hv.alloc tmp)
    refine (hb1.kept hg.grown (fun e => ?_)).other (by omega) _
    have := h.far b e.symm
    omega
end

theorem pa.wpIn_app {F : Fence} {n : Nat} {P : Program} (w : World) {ops : Array Oper} {rest : List Oper} {o : Oper} {a : Act} {Q : Exit → Act → World → Prop}
    (hgd : o.guard = none) (s x : Operand) (t : TypeId) (ho : o.op = .call { callee := .builtin .append, args := #[s, x], argTypes := #[t, t] }) {e : TypeId} {size bytes : Nat} (hT : ElemT P t e size bytes) (base : Nat) (A : Option Addr) (k c : Nat) (xs : List Value) (hs : a.eval s = .slice A k c) (hown : Own w base e size A k c xs)
    (B : Option Addr) (m d : Nat) (news : List Value) (hx : a.eval x = .slice B m d) (hl : news.length = m * size) (hnews : Cells w B news) (h1 : ∀ u ∈ news, u.oneCell' = true) (hroom : (k + m) * bytes ≤ 140737488355328) (h63 : k + m ≤ maxLen) (hbase : base ≤ w.heap.size)
    (hK : ∀ A' c' w', Own w' base e size A' (k + m) c' (xs ++ news) → Grew w w' A A' → wpListIn F n P ops Q rest (a.put o.dst (.slice A' (k + m) c')) w') : wpListIn F n P ops Q (o :: rest) a w := by
  refine wpListIn_plain hgd fun K hK' => ?_
  obtain ⟨A', c', w', hrun, r1, r2⟩ := run_app (P := P) (ty := o.type) w hT base A k c xs hown B m d news hl hnews h1 hroom h63 hbase
  unfold Oper.wpIn
  refine ⟨?_, ?_⟩
  · simp [Oper.about, ho, resolve, Target.leads, Sem.run_pure]
  · rw [Oper.semAt_plain F _ _ (by rw [ho]; intro c hc'; cases hc')]
    simp [execOp, ho, resolve, invoke, builtin, hs, hx, hrun, Result.andThen]
    exact hK' _ _ (hK A' c' w' r1 r2)
end Go.Proofs.YtlcjdlnhniemcaaDoor
