/- Slices that a call makes and appends to: rows of its own, kept apart from all that was there; readings out of them. No condition. -/
import Derived.Test.YtdldfllllgogoaaTypes
import Derived.Maps.AppendAt
import Derived.Deep.AppendLies
import Derived.Deep.Draws
import Derived.RegionTactic
import Derived.OwnWalk
namespace Go.Proofs.Ytdldfllllgogoaa
open Go.RowKit

/-- a slice type and its element's table row -/
structure ElemT (P : Program) (t e : TypeId) (size bytes : Nat) : Prop where
  und : P.underlying t = some (.slice e)
  info : ∃ i z, P.info? e = some i ∧ i.zero = some z ∧ i.size = size ∧ i.bytes = bytes ∧ z.cells.size = size
  pos : 0 < size
theorem ElemT.of {P : Program} {t e : TypeId} {size bytes : Nat} {z : Value} (h : P.underlying t = some (.slice e)) (hi : (P.info? e).map (fun i => (i.zero, i.size, i.bytes)) = some (some z, size, bytes)) (hz : z.cells.size = size) (hp : 0 < size) :
    ElemT P t e size bytes := by
  obtain ⟨i0, a1, a2, a3, a4⟩ := info_parts hi
  exact ⟨h, ⟨i0, z, a1, a2, a3, a4, hz⟩, hp⟩

/-- the block of an address -/
def blkOf (A : Option Addr) : Option Nat := A.map (·.block)
/-- the slice (A, n, c) owns the cells xs, from block base on -/
def Own (w : World) (base : Nat) (e : TypeId) (size : Nat) (A : Option Addr) (n c : Nat) (xs : List Value) : Prop := w.ownsRow base e size (.slice A n c) n xs
/-- w' is w with new blocks and writes into A's block; A' lies there or in a new block -/
structure Grew (w w' : World) (A A' : Option Addr) : Prop where
  grown : w.grownBy w' (blkOf A)
  blk : blkOf A' = blkOf A ∨ ∃ k, w.heap.size ≤ k ∧ blkOf A' = some k

theorem ownBlock_slice (A : Option Addr) (n c : Nat) : (Value.slice A n c).ownBlock = blkOf A := by cases A <;> rfl
theorem Grew.refl (w : World) (A : Option Addr) : Grew w w A A := ⟨World.grownBy.refl w _, .inl rfl⟩
theorem Grew.trans {a b c : World} {A B C : Option Addr} (h : Grew a b A B) (k : Grew b c B C) : Grew a c A C := by
  refine ⟨⟨k.grown.os.trans h.grown.os, k.grown.tape.trans h.grown.tape, k.grown.output.trans h.grown.output, Nat.le_trans h.grown.size k.grown.size, fun i hi hne => ?_⟩, ?_⟩
  · refine (k.grown.block i (Nat.lt_of_lt_of_le hi h.grown.size) (fun e => ?_)).trans (h.grown.block i hi hne)
    rcases h.blk with hb | ⟨g, hg, hb⟩
    · exact hne (e.trans hb)
    · rw [hb] at e
      injection e with e
      omega
  · have hs := h.grown.size
    rcases k.blk with hb | ⟨g, hg, hb⟩
    · rw [hb]; exact h.blk
    · exact .inr ⟨g, by omega, hb⟩
theorem Grew.alloc {a b : World} {A B : Option Addr} (h : Grew a b A B) (o : Obj) : Grew a (b.alloc o) A B :=
  ⟨⟨h.grown.os, h.grown.tape, h.grown.output, by simp only [World.size_alloc]; have := h.grown.size; omega, fun i hi hne => (Below.heap_alloc b o i (Nat.lt_of_lt_of_le hi h.grown.size)).trans (h.grown.block i hi hne)⟩, h.blk⟩
theorem Grew.drew {a b : World} {A B : Option Addr} (h : Grew a b A B) : Grew a b.drew A B := ⟨⟨h.grown.os, h.grown.tape, h.grown.output, h.grown.size, h.grown.block⟩, h.blk⟩
theorem Grew.drewN {a b : World} {A B : Option Addr} (h : Grew a b A B) (n : Nat) : Grew a (b.drewN n) A B := ⟨⟨h.grown.os, h.grown.tape, h.grown.output, h.grown.size, h.grown.block⟩, h.blk⟩
theorem Grew.below {w w' : World} {A A' : Option Addr} {B : Nat} (h : Grew w w' A A') (hB : B ≤ w.heap.size) (hA : ∀ k, blkOf A = some k → B ≤ k) : Below B w w' :=
  (Below.refl B w).grown h.grown hB hA
theorem Grew.step {w0 w w' : World} {A A' : Option Addr} (hb : Below w0.heap.size w0 w) (h : Grew w w' A A') (hA : ∀ k, blkOf A = some k → w0.heap.size ≤ k) : Below w0.heap.size w0 w' :=
  hb.trans (h.below hb.size hA)

section
variable {w w' : World} {base : Nat} {e : TypeId} {size n c : Nat} {A : Option Addr} {xs : List Value}
theorem Own.nil (w : World) (base : Nat) (e : TypeId) (size : Nat) : Own w base e size none 0 0 [] := World.ownsRow_nil w base e size
theorem Own.new (w : World) (base : Nat) (e : TypeId) (size n c : Nat) (xs cs : List Value) (hb : base ≤ w.heap.size) (hx : xs.length = n * size) (hc : cs.length = c * size) (hn : n ≤ c) (hm : c ≤ maxLen) (ht : cs.take (n * size) = xs) :
    Own (w.alloc (.cells cs.toArray e)) base e size (some ⟨w.heap.size, 0, none⟩) n c xs :=
  ⟨hx, .inr ⟨w.heap.size, c, cs.toArray, rfl, hb, heap_alloc_new w _, hn, hm, by simpa using hc, by simpa using ht⟩⟩
theorem Own.lit (w : World) (base : Nat) (e : TypeId) (size n : Nat) (xs : List Value) (hb : base ≤ w.heap.size) (hx : xs.length = n * size) (hm : n ≤ maxLen) : Own (w.alloc (.cells xs.toArray e)) base e size (some ⟨w.heap.size, 0, none⟩) n n xs :=
  Own.new w base e size n n xs xs hb hx hx (Nat.le_refl _) hm (by rw [← hx, List.take_length])
theorem Own.lt (h : Own w base e size A n c xs) : ∀ k, blkOf A = some k → base ≤ k ∧ k < w.heap.size := fun k hk => World.ownsRow.lt h k (by rw [ownBlock_slice]; exact hk)
theorem Own.len (h : Own w base e size A n c xs) : xs.length = n * size := h.1
theorem Own.cap (h : Own w base e size A n c xs) : n ≤ c ∧ c ≤ maxLen := by
  rcases h.2 with ⟨h1, rfl⟩ | ⟨g, cap, cur, h1, _, _, h2, h3, _⟩
  · simp only [Value.slice.injEq] at h1
    omega
  · simp only [Value.slice.injEq] at h1
    omega
theorem Own.alloc (h : Own w base e size A n c xs) (o : Obj) : Own (w.alloc o) base e size A n c xs := World.ownsRow.alloc h o
theorem Own.drew (h : Own w base e size A n c xs) : Own w.drew base e size A n c xs := h
theorem Own.drewN (h : Own w base e size A n c xs) (k : Nat) : Own (w.drewN k) base e size A n c xs := h
theorem Own.kept {row : Option Nat} (h : Own w base e size A n c xs) (hg : w.grownBy w' row) (hne : blkOf A = none ∨ blkOf A ≠ row) : Own w' base e size A n c xs :=
  World.ownsRow.kept h hg (by rw [ownBlock_slice]; exact hne)
theorem Own.below {B : Nat} (h : Own w base e size A n c xs) (hb : Below B w w') (hB : ∀ k, blkOf A = some k → k < B) : Own w' base e size A n c xs := by
  refine ⟨h.1, ?_⟩
  rcases h.2 with h2 | ⟨g, cap, cur, h1, h2, h3, h4⟩
  · exact .inl h2
  · refine .inr ⟨g, cap, cur, h1, h2, (hb.block g (hB g ?_)).trans h3, h4⟩
    simp only [Value.slice.injEq] at h1
    rw [h1.1]
    rfl
theorem Own.next (h : Own w base e size A n c xs) (hb : Below w.heap.size w w') : Own w' base e size A n c xs := h.below hb fun k hk => (h.lt k hk).2
theorem Own.setCell (h : Own w base e size A n c xs) {p : Addr} (hp : blkOf A ≠ some p.block) (u : Value) : Own (w.setCell p u) base e size A n c xs := by
  refine ⟨h.1, ?_⟩
  rcases h.2 with h2 | ⟨g, cap, cur, h1, h2, h3, h4⟩
  · exact .inl h2
  · refine .inr ⟨g, cap, cur, h1, h2, (Below.heap_setCell w p u g (fun e => hp ?_)).trans h3, h4⟩
    simp only [Value.slice.injEq] at h1
    rw [h1.1, ← e]
    rfl
theorem Own.base_le {b' : Nat} (h : Own w base e size A n c xs) (hb : b' ≤ base) : Own w b' e size A n c xs := by
  refine ⟨h.1, ?_⟩
  rcases h.2 with h2 | ⟨g, cap, cur, h1, h2, h3⟩
  · exact .inl h2
  · exact .inr ⟨g, cap, cur, h1, Nat.le_trans hb h2, h3⟩
theorem Own.cell (h : Own w base e size A n c xs) {j : Nat} {u : Value} (hj : xs[j]? = some u) : ∃ g, A = some ⟨g, 0, none⟩ ∧ base ≤ g ∧ g < w.heap.size ∧ w.cell? ⟨g, j, none⟩ = some u := by
  rcases h.2 with ⟨h1, rfl⟩ | ⟨g, cap, cur, h1, h2, h3, h4, h5, h6, h7⟩
  · have := h.1
    have hl := (List.getElem?_eq_some_iff.1 hj).1
    omega
  · simp only [Value.slice.injEq] at h1
    refine ⟨g, h1.1, h2, (Array.getElem?_eq_some_iff.1 h3).1, ?_⟩
    rw [cell_of_row w g j cur e (0, 0) h3]
    rw [← h7, List.getElem?_take] at hj
    split at hj
    · simpa using hj
    · cases hj
end

/-- the cells that a slice begins with -/
def Cells (w : World) (A : Option Addr) (xs : List Value) : Prop := xs = [] ∨ ∃ b o, A = some ⟨b, o, none⟩ ∧ ∀ j u, xs[j]? = some u → w.cell? ⟨b, o + j, none⟩ = some u
theorem Cells.nil (w : World) (A : Option Addr) : Cells w A [] := .inl rfl
theorem Own.cells {w : World} {base : Nat} {e : TypeId} {size n c : Nat} {A : Option Addr} {xs : List Value} (h : Own w base e size A n c xs) : Cells w A xs := by
  rcases h.2 with ⟨h1, rfl⟩ | ⟨g, cap, cur, h1, h2, h3, h4, h5, h6, h7⟩
  · exact .inl (List.eq_nil_of_length_eq_zero (by have := h.1; omega))
  · simp only [Value.slice.injEq] at h1
    refine .inr ⟨g, 0, h1.1, fun j u hu => ?_⟩
    obtain ⟨g', e1, _, _, hc⟩ := h.cell hu
    rw [h1.1] at e1
    simp only [Option.some.injEq, Addr.mk.injEq, and_true] at e1
    rw [e1, Nat.zero_add]
    exact hc

theorem Cells.new (w : World) (t : TypeId) (xs : List Value) : Cells (w.alloc (.cells xs.toArray t)) (some ⟨w.heap.size, 0, none⟩) xs :=
  .inr ⟨_, _, rfl, fun j u hu => by rw [Nat.zero_add, World.cell?_alloc_new]; simpa using hu⟩
theorem Cells.one (w : World) (t : TypeId) (x : Value) : Cells (w.alloc (.cells #[x] t)) (some ⟨w.heap.size, 0, none⟩) [x] := Cells.new w t [x]

section
variable {P : Program} (w : World)
theorem run_app_nil (base : Nat) (t ty e : TypeId) (i : TypeInfo) (size : Nat) (ht : P.underlying t = some (.slice e)) (hi : P.info? e = some i)
    (v : Value) (n : Nat) (xs : List Value) (hown : w.ownsRow base e size v n xs) (c : Nat) : (Builtin.append_ #[t, t] ty #[v, .slice none 0 c]).run P w = .ok v w := by
  rcases hown.2 with ⟨rfl, rfl⟩ | ⟨g, cap, cur, rfl, _, _, hnc, _⟩
  · simp [Builtin.append_, run_underlying ht, sizeOf, typeInfo, hi, Builtin.lenOf, Builtin.firstCells]
  · simp [Builtin.append_, run_underlying ht, sizeOf, typeInfo, hi, Builtin.lenOf, Builtin.firstCells, hnc, storeCells]

theorem own_shape {w : World} {base : Nat} {e : TypeId} {size n : Nat} {v : Value} {xs : List Value} (h : w.ownsRow base e size v n xs) : ∃ A c, v = .slice A n c := by
  rcases h.2 with ⟨rfl, rfl⟩ | ⟨g, cap, cur, rfl, _⟩
  · exact ⟨_, _, rfl⟩
  · exact ⟨_, _, rfl⟩

theorem run_app {t ty e : TypeId} {size bytes : Nat} (hT : ElemT P t e size bytes) (base : Nat) (A : Option Addr) (n c : Nat) (xs : List Value) (hown : Own w base e size A n c xs)
    (B : Option Addr) (m d : Nat) (news : List Value) (hl : news.length = m * size) (hnews : Cells w B news) (h1 : ∀ u ∈ news, u.oneCell' = true) (hroom : (n + m) * bytes ≤ 140737488355328) (h63 : n + m ≤ maxLen) (hbase : base ≤ w.heap.size) :
    ∃ A' c' w', (Builtin.append_ #[t, t] ty #[.slice A n c, .slice B m d]).run P w = .ok (.slice A' (n + m) c') w' ∧ Own w' base e size A' (n + m) c' (xs ++ news) ∧ Grew w w' A A' := by
  obtain ⟨i, z, hi, hz, hsize, hby, hzs⟩ := hT.info
  have hpos := hT.pos
  have key : ∀ ad : Addr, B = some ad → (∀ j u, news[j]? = some u → w.cell? (ad.add j) = some u) → ∃ A' c' w', (Builtin.append_ #[t, t] ty #[.slice A n c, .slice B m d]).run P w = .ok (.slice A' (n + m) c') w' ∧ Own w' base e size A' (n + m) c' (xs ++ news) ∧ Grew w w' A A' := by
    rintro ad rfl hc
    obtain ⟨v', w', hr, h2, h3, _, h5⟩ := run_append_own_at (P := P) w base t ty e i z size bytes hT.und hi hz hsize hby hzs hT.pos (.slice A n c) n xs hown ad m d news hl hc h1 h63 hroom hbase
    obtain ⟨A', c', rfl⟩ := own_shape h2
    rw [ownBlock_slice] at h3
    rw [ownBlock_slice, ownBlock_slice] at h5
    exact ⟨A', c', w', hr, h2, h3, h5.imp id fun h => ⟨_, Nat.le_refl _, h⟩⟩
  rcases hnews with rfl | ⟨b, o, rfl, hc⟩
  · have hm : m = 0 := by
      rcases Nat.eq_zero_or_pos m with h | h
      · exact h
      · have := Nat.mul_pos h hpos
        simp at hl
        omega
    subst hm
    cases B with
    | none => exact ⟨A, c, w, run_app_nil w base t ty e i size hT.und hi _ n xs hown d, by simpa [Own] using hown, Grew.refl w A⟩
    | some ad => exact key ad rfl (fun j u h => by simp at h)
  · refine key _ rfl fun j u hu => ?_
    have : (⟨b, o, none⟩ : Addr).add j = ⟨b, o + j, none⟩ := by unfold Addr.add; split <;> simp_all
    rw [this]
    exact hc j u hu

theorem wp_app {ops : Array Oper} {rest : List Oper} {o : Oper} {a : Act} {Q : Exit → Act → World → Prop} (hgd : o.guard = none) (s x : Operand) (t : TypeId)
    (ho : o.op = .call { callee := .builtin .append, args := #[s, x], argTypes := #[t, t] }) {e : TypeId} {size bytes : Nat} (hT : ElemT P t e size bytes) (base : Nat) (A : Option Addr) (n c : Nat) (xs : List Value) (hs : a.eval s = .slice A n c) (hown : Own w base e size A n c xs)
    (B : Option Addr) (m d : Nat) (news : List Value) (hx : a.eval x = .slice B m d) (hl : news.length = m * size) (hnews : Cells w B news) (h1 : ∀ u ∈ news, u.oneCell' = true) (hroom : (n + m) * bytes ≤ 140737488355328) (h63 : n + m ≤ maxLen) (hbase : base ≤ w.heap.size)
    (h : ∀ A' c' w', Own w' base e size A' (n + m) c' (xs ++ news) → Grew w w' A A' → wpList P ops Q rest (a.put o.dst (.slice A' (n + m) c')) w') : wpList P ops Q (o :: rest) a w :=
  wpList_plain hgd fun K hK => by
    obtain ⟨A', c', w', hr, h2, h3⟩ := run_app (P := P) (ty := o.type) w hT base A n c xs hown B m d news hl hnews h1 hroom h63 hbase
    unfold Oper.wp execOp
    simp only [ho, resolve, invoke, builtin, Sem.run_bind, Sem.run_pure, Result.andThen_ok, List.map_toArray, List.map_cons, List.map_nil, hs, hx, hr]
    exact hK _ _ (h A' c' w' h2 h3)
end

/-! ### Readings out of rows of the call's own -/
theorem SlRep.cells_u8 {w : World} {S : Nat → Prop} {l : List UInt8} {A : Option Addr} {c : Nat} (h : SlRep Rep.u8 w S l A c) : Cells w A (l.map fun b => Value.int .u8 (b.toNat : Int)) := by
  rcases h.2.2 with rfl | ⟨b, o, rfl, _, hr⟩
  · exact .inl rfl
  · refine .inr ⟨b, o, rfl, fun j u hu => ?_⟩
    rw [List.getElem?_map] at hu
    obtain ⟨y, hy, rfl⟩ := Option.map_eq_some_iff.1 hu
    obtain ⟨cs, hcs, hc⟩ := hr j y hy
    subst hcs
    have := hc 0 _ rfl
    simpa [Rep.u8] using this
theorem Own.u8 {w : World} {base : Nat} {e : TypeId} {A : Option Addr} {n c : Nat} {l : List UInt8} (h : Own w base e 1 A n c (l.map fun b => Value.int .u8 (b.toNat : Int))) : n = l.length ∧ SlRep Rep.u8 w (fun k => base ≤ k ∧ k < w.heap.size) l A c := by
  have hn : n = l.length := by have := h.len; simp at this; omega
  refine ⟨hn, ⟨by have := h.cap; omega, h.cap.2, ?_⟩⟩
  cases l with
  | nil => exact .inl rfl
  | cons x r =>
    obtain ⟨g, rfl, h1, h2, _⟩ := h.cell (j := 0) (u := .int .u8 (x.toNat : Int)) rfl
    refine .inr ⟨g, 0, rfl, ⟨h1, h2⟩, fun i y hy => ⟨_, rfl, fun j u hu => ?_⟩⟩
    obtain ⟨g', e1, _, _, hc⟩ := h.cell (j := i) (u := .int .u8 (y.toNat : Int)) (by rw [List.getElem?_map, hy]; rfl)
    simp only [Option.some.injEq, Addr.mk.injEq, and_true] at e1
    subst e1
    have hj : j = 0 := by have := (List.getElem?_eq_some_iff.1 hu).1; simp at this; omega
    subst hj
    simp at hu
    subst hu
    simpa [Rep.u8] using hc
theorem oneCell_u8 (l : List UInt8) : ∀ u ∈ (l.map fun b => Value.int .u8 (b.toNat : Int)), u.oneCell' = true := by
  intro u hu
  obtain ⟨b, _, rfl⟩ := List.mem_map.1 hu
  rfl
end Go.Proofs.Ytdldfllllgogoaa
