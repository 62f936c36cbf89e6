/- Texts in one: Own, Bytes, Own2, Sl, Lists, RowOf, Blk, Del, Stay, BlkA, Anew. No condition. -/
import Derived.Test.YtlcjdlnhniemcaaDoorTypes
import Derived.Maps.AppendAt
import Derived.Deep.AppendLies
import Derived.Deep.Draws
import Derived.RegionTactic
import Derived.OwnWalk
import Derived.LoopTactic
import Derived.Deep.QuietTactic
import Derived.BigQuiet
import Derived.Deep.RegionHeld3
import Derived.Lib.SliceRun
import Derived.Lib.AppendZerosOnto
import Derived.Laws.IdiomCopy
section
namespace Go.Proofs.YtlcjdlnhniemcaaDoor
open Go.RowKit

/-- a slice type and its element's table row -/
structure ElemT (P : Program) (t e : TypeId) (size bytes : Nat) : Prop where
  und : P.underlying t = some (.slice e)
  info : ∃ i z, P.info? e = some i ∧ i.zero = some z ∧ i.size = size ∧ i.bytes = bytes ∧ z.cells.size = size
  pos : 0 < size
theorem ElemT.of {P : Program} {t e : TypeId} {size bytes : Nat} {z : Value} (h : P.underlying t = some (.slice e)) (hi : (P.info? e).map (fun i => (i.zero, i.size, i.bytes)) = some (some z, size, bytes)) (hz : z.cells.size = size) (hp : 0 < size) :
    ElemT P t e size bytes := by
  obtain ⟨i0, a1, a2, a3, a4⟩ := info_parts hi
  exact ⟨h, ⟨i0, z, a1, a2, a3, a4, hz⟩, hp⟩

/-- the block of an address -/
def blkOf (A : Option Addr) : Option Nat := A.map (·.block)
/-- the slice (A, n, c) owns the cells xs, from block base on -/
def Own (w : World) (base : Nat) (e : TypeId) (size : Nat) (A : Option Addr) (n c : Nat) (xs : List Value) : Prop := w.ownsRow base e size (.slice A n c) n xs
/-- w' is w with new blocks and writes into A's block; A' lies there or in a new block -/
structure Grew (w w' : World) (A A' : Option Addr) : Prop where
  grown : w.grownBy w' (blkOf A)
  blk : blkOf A' = blkOf A ∨ ∃ k, w.heap.size ≤ k ∧ blkOf A' = some k

theorem ownBlock_slice (A : Option Addr) (n c : Nat) : (Value.slice A n c).ownBlock = blkOf A := by cases A <;> rfl
theorem Grew.refl (w : World) (A : Option Addr) : Grew w w A A := ⟨World.grownBy.refl w _, .inl rfl⟩
theorem Grew.trans {a b c : World} {A B C : Option Addr} (h : Grew a b A B) (k : Grew b c B C) : Grew a c A C := by
  refine ⟨⟨k.grown.os.trans h.grown.os, k.grown.tape.trans h.grown.tape, k.grown.output.trans h.grown.output, Nat.le_trans h.grown.size k.grown.size, fun i hi hne => ?_⟩, ?_⟩
  · refine (k.grown.block i (Nat.lt_of_lt_of_le hi h.grown.size) (fun e => ?_)).trans (h.grown.block i hi hne)
    rcases h.blk with hb | ⟨g, hg, hb⟩
    · exact hne (e.trans hb)
    · rw [hb] at e
      injection e with e
      omega
  · have hs := h.grown.size
    rcases k.blk with hb | ⟨g, hg, hb⟩
    · rw [hb]; exact h.blk
    · exact .inr ⟨g, by omega, hb⟩
theorem Grew.alloc {a b : World} {A B : Option Addr} (h : Grew a b A B) (o : Obj) : Grew a (b.alloc o) A B :=
  ⟨⟨h.grown.os, h.grown.tape, h.grown.output, by simp only [World.size_alloc]; have := h.grown.size; omega, fun i hi hne => (Below.heap_alloc b o i (Nat.lt_of_lt_of_le hi h.grown.size)).trans (h.grown.block i hi hne)⟩, h.blk⟩
theorem Grew.drew {a b : World} {A B : Option Addr} (h : Grew a b A B) : Grew a b.drew A B := ⟨⟨h.grown.os, h.grown.tape, h.grown.output, h.grown.size, h.grown.block⟩, h.blk⟩
theorem Grew.drewN {a b : World} {A B : Option Addr} (h : Grew a b A B) (n : Nat) : Grew a (b.drewN n) A B := ⟨⟨h.grown.os, h.grown.tape, h.grown.output, h.grown.size, h.grown.block⟩, h.blk⟩
theorem Grew.below {w w' : World} {A A' : Option Addr} {B : Nat} (h : Grew w w' A A') (hB : B ≤ w.heap.size) (hA : ∀ k, blkOf A = some k → B ≤ k) : Below B w w' :=
  (Below.refl B w).grown h.grown hB hA
theorem Grew.step {w0 w w' : World} {A A' : Option Addr} (hb : Below w0.heap.size w0 w) (h : Grew w w' A A') (hA : ∀ k, blkOf A = some k → w0.heap.size ≤ k) : Below w0.heap.size w0 w' :=
  hb.trans (h.below hb.size hA)

section
variable {w w' : World} {base : Nat} {e : TypeId} {size n c : Nat} {A : Option Addr} {xs : List Value}
theorem Own.nil (w : World) (base : Nat) (e : TypeId) (size : Nat) : Own w base e size none 0 0 [] := World.ownsRow_nil w base e size
theorem Own.new (w : World) (base : Nat) (e : TypeId) (size n c : Nat) (xs cs : List Value) (hb : base ≤ w.heap.size) (hx : xs.length = n * size) (hc : cs.length = c * size) (hn : n ≤ c) (hm : c ≤ maxLen) (ht : cs.take (n * size) = xs) :
    Own (w.alloc (.cells cs.toArray e)) base e size (some ⟨w.heap.size, 0, none⟩) n c xs :=
  ⟨hx, .inr ⟨w.heap.size, c, cs.toArray, rfl, hb, heap_alloc_new w _, hn, hm, by simpa using hc, by simpa using ht⟩⟩
theorem Own.lit (w : World) (base : Nat) (e : TypeId) (size n : Nat) (xs : List Value) (hb : base ≤ w.heap.size) (hx : xs.length = n * size) (hm : n ≤ maxLen) : Own (w.alloc (.cells xs.toArray e)) base e size (some ⟨w.heap.size, 0, none⟩) n n xs :=
  Own.new w base e size n n xs xs hb hx hx (Nat.le_refl _) hm (by rw [← hx, List.take_length])
theorem Own.lt (h : Own w base e size A n c xs) : ∀ k, blkOf A = some k → base ≤ k ∧ k < w.heap.size := fun k hk => World.ownsRow.lt h k (by rw [ownBlock_slice]; exact hk)
theorem Own.len (h : Own w base e size A n c xs) : xs.length = n * size := h.1
theorem Own.cap (h : Own w base e size A n c xs) : n ≤ c ∧ c ≤ maxLen := by
  rcases h.2 with ⟨h1, rfl⟩ | ⟨g, cap, cur, h1, _, _, h2, h3, _⟩
  · simp only [Value.slice.injEq] at h1
    omega
  · simp only [Value.slice.injEq] at h1
    omega
theorem Own.alloc (h : Own w base e size A n c xs) (o : Obj) : Own (w.alloc o) base e size A n c xs := World.ownsRow.alloc h o
theorem Own.drew (h : Own w base e size A n c xs) : Own w.drew base e size A n c xs := h
theorem Own.drewN (h : Own w base e size A n c xs) (k : Nat) : Own (w.drewN k) base e size A n c xs := h
theorem Own.kept {row : Option Nat} (h : Own w base e size A n c xs) (hg : w.grownBy w' row) (hne : blkOf A = none ∨ blkOf A ≠ row) : Own w' base e size A n c xs :=
  World.ownsRow.kept h hg (by rw [ownBlock_slice]; exact hne)
theorem Own.below {B : Nat} (h : Own w base e size A n c xs) (hb : Below B w w') (hB : ∀ k, blkOf A = some k → k < B) : Own w' base e size A n c xs := by
  refine ⟨h.1, ?_⟩
  rcases h.2 with h2 | ⟨g, cap, cur, h1, h2, h3, h4⟩
  · exact .inl h2
  · refine .inr ⟨g, cap, cur, h1, h2, (hb.block g (hB g ?_)).trans h3, h4⟩
    simp only [Value.slice.injEq] at h1
    rw [h1.1]
    rfl
theorem Own.next (h : Own w base e size A n c xs) (hb : Below w.heap.size w w') : Own w' base e size A n c xs := h.below hb fun k hk => (h.lt k hk).2
theorem Own.setCell (h : Own w base e size A n c xs) {p : Addr} (hp : blkOf A ≠ some p.block) (u : Value) : Own (w.setCell p u) base e size A n c xs := by
  refine ⟨h.1, ?_⟩
  rcases h.2 with h2 | ⟨g, cap, cur, h1, h2, h3, h4⟩
  · exact .inl h2
  · refine .inr ⟨g, cap, cur, h1, h2, (Below.heap_setCell w p u g (fun e => hp ?_)).trans h3, h4⟩
    simp only [Value.slice.injEq] at h1
    rw [h1.1, ← e]
    rfl
theorem Own.base_le {b' : Nat} (h : Own w base e size A n c xs) (hb : b' ≤ base) : Own w b' e size A n c xs := by
  refine ⟨h.1, ?_⟩
  rcases h.2 with h2 | ⟨g, cap, cur, h1, h2, h3⟩
  · exact .inl h2
  · exact .inr ⟨g, cap, cur, h1, Nat.le_trans hb h2, h3⟩
theorem Own.cell (h : Own w base e size A n c xs) {j : Nat} {u : Value} (hj : xs[j]? = some u) : ∃ g, A = some ⟨g, 0, none⟩ ∧ base ≤ g ∧ g < w.heap.size ∧ w.cell? ⟨g, j, none⟩ = some u := by
  rcases h.2 with ⟨h1, rfl⟩ | ⟨g, cap, cur, h1, h2, h3, h4, h5, h6, h7⟩
  · have := h.1
    have hl := (List.getElem?_eq_some_iff.1 hj).1
    omega
  · simp only [Value.slice.injEq] at h1
    refine ⟨g, h1.1, h2, (Array.getElem?_eq_some_iff.1 h3).1, ?_⟩
    rw [cell_of_row w g j cur e (0, 0) h3]
    rw [← h7, List.getElem?_take] at hj
    split at hj
    · simpa using hj
    · cases hj
end

/-- the cells that a slice begins with -/
def Cells (w : World) (A : Option Addr) (xs : List Value) : Prop := xs = [] ∨ ∃ b o, A = some ⟨b, o, none⟩ ∧ ∀ j u, xs[j]? = some u → w.cell? ⟨b, o + j, none⟩ = some u
theorem Cells.nil (w : World) (A : Option Addr) : Cells w A [] := .inl rfl
theorem Own.cells {w : World} {base : Nat} {e : TypeId} {size n c : Nat} {A : Option Addr} {xs : List Value} (h : Own w base e size A n c xs) : Cells w A xs := by
  rcases h.2 with ⟨h1, rfl⟩ | ⟨g, cap, cur, h1, h2, h3, h4, h5, h6, h7⟩
  · exact .inl (List.eq_nil_of_length_eq_zero (by have := h.1; omega))
  · simp only [Value.slice.injEq] at h1
    refine .inr ⟨g, 0, h1.1, fun j u hu => ?_⟩
    obtain ⟨g', e1, _, _, hc⟩ := h.cell hu
    rw [h1.1] at e1
    simp only [Option.some.injEq, Addr.mk.injEq, and_true] at e1
    rw [e1, Nat.zero_add]
    exact hc

theorem Cells.new (w : World) (t : TypeId) (xs : List Value) : Cells (w.alloc (.cells xs.toArray t)) (some ⟨w.heap.size, 0, none⟩) xs :=
  .inr ⟨_, _, rfl, fun j u hu => by rw [Nat.zero_add, World.cell?_alloc_new]; simpa using hu⟩
theorem Cells.one (w : World) (t : TypeId) (x : Value) : Cells (w.alloc (.cells #[x] t)) (some ⟨w.heap.size, 0, none⟩) [x] := Cells.new w t [x]

section
variable {P : Program} (w : World)
theorem run_app_nil (base : Nat) (t ty e : TypeId) (i : TypeInfo) (size : Nat) (ht : P.underlying t = some (.slice e)) (hi : P.info? e = some i)
    (v : Value) (n : Nat) (xs : List Value) (hown : w.ownsRow base e size v n xs) (c : Nat) : (Builtin.append_ #[t, t] ty #[v, .slice none 0 c]).run P w = .ok v w := by
  rcases hown.2 with ⟨rfl, rfl⟩ | ⟨g, cap, cur, rfl, _, _, hnc, _⟩
  · simp [Builtin.append_, run_underlying ht, sizeOf, typeInfo, hi, Builtin.lenOf, Builtin.firstCells]
  · simp [Builtin.append_, run_underlying ht, sizeOf, typeInfo, hi, Builtin.lenOf, Builtin.firstCells, hnc, storeCells]

theorem own_shape {w : World} {base : Nat} {e : TypeId} {size n : Nat} {v : Value} {xs : List Value} (h : w.ownsRow base e size v n xs) : ∃ A c, v = .slice A n c := by
  rcases h.2 with ⟨rfl, rfl⟩ | ⟨g, cap, cur, rfl, _⟩
  · exact ⟨_, _, rfl⟩
  · exact ⟨_, _, rfl⟩

theorem run_app {t ty e : TypeId} {size bytes : Nat} (hT : ElemT P t e size bytes) (base : Nat) (A : Option Addr) (n c : Nat) (xs : List Value) (hown : Own w base e size A n c xs)
    (B : Option Addr) (m d : Nat) (news : List Value) (hl : news.length = m * size) (hnews : Cells w B news) (h1 : ∀ u ∈ news, u.oneCell' = true) (hroom : (n + m) * bytes ≤ 140737488355328) (h63 : n + m ≤ maxLen) (hbase : base ≤ w.heap.size) :
    ∃ A' c' w', (Builtin.append_ #[t, t] ty #[.slice A n c, .slice B m d]).run P w = .ok (.slice A' (n + m) c') w' ∧ Own w' base e size A' (n + m) c' (xs ++ news) ∧ Grew w w' A A' := by
  obtain ⟨i, z, hi, hz, hsize, hby, hzs⟩ := hT.info
  have hpos := hT.pos
  have key : ∀ ad : Addr, B = some ad → (∀ j u, news[j]? = some u → w.cell? (ad.add j) = some u) → ∃ A' c' w', (Builtin.append_ #[t, t] ty #[.slice A n c, .slice B m d]).run P w = .ok (.slice A' (n + m) c') w' ∧ Own w' base e size A' (n + m) c' (xs ++ news) ∧ Grew w w' A A' := by
    rintro ad rfl hc
    obtain ⟨v', w', hr, h2, h3, _, h5⟩ := run_append_own_at (P := P) w base t ty e i z size bytes hT.und hi hz hsize hby hzs hT.pos (.slice A n c) n xs hown ad m d news hl hc h1 h63 hroom hbase
    obtain ⟨A', c', rfl⟩ := own_shape h2
    rw [ownBlock_slice] at h3
    rw [ownBlock_slice, ownBlock_slice] at h5
    exact ⟨A', c', w', hr, h2, h3, h5.imp id fun h => ⟨_, Nat.le_refl _, h⟩⟩
  rcases hnews with rfl | ⟨b, o, rfl, hc⟩
  · have hm : m = 0 := by
      rcases Nat.eq_zero_or_pos m with h | h
      · exact h
      · have := Nat.mul_pos h hpos
        simp at hl
        omega
    subst hm
    cases B with
    | none => exact ⟨A, c, w, run_app_nil w base t ty e i size hT.und hi _ n xs hown d, by simpa [Own] using hown, Grew.refl w A⟩
    | some ad => exact key ad rfl (fun j u h => by simp at h)
  · refine key _ rfl fun j u hu => ?_
    have : (⟨b, o, none⟩ : Addr).add j = ⟨b, o + j, none⟩ := by unfold Addr.add; split <;> simp_all
    rw [this]
    exact hc j u hu

theorem wp_app {ops : Array Oper} {rest : List Oper} {o : Oper} {a : Act} {Q : Exit → Act → World → Prop} (hgd : o.guard = none) (s x : Operand) (t : TypeId)
    (ho : o.op = .call { callee := .builtin .append, args := #[s, x], argTypes := #[t, t] }) {e : TypeId} {size bytes : Nat} (hT : ElemT P t e size bytes) (base : Nat) (A : Option Addr) (n c : Nat) (xs : List Value) (hs : a.eval s = .slice A n c) (hown : Own w base e size A n c xs)
    (B : Option Addr) (m d : Nat) (news : List Value) (hx : a.eval x = .slice B m d) (hl : news.length = m * size) (hnews : Cells w B news) (h1 : ∀ u ∈ news, u.oneCell' = true) (hroom : (n + m) * bytes ≤ 140737488355328) (h63 : n + m ≤ maxLen) (hbase : base ≤ w.heap.size)
    (h : ∀ A' c' w', Own w' base e size A' (n + m) c' (xs ++ news) → Grew w w' A A' → wpList P ops Q rest (a.put o.dst (.slice A' (n + m) c')) w') : wpList P ops Q (o :: rest) a w :=
  wpList_plain hgd fun K hK => by
    obtain ⟨A', c', w', hr, h2, h3⟩ := run_app (P := P) (ty := o.type) w hT base A n c xs hown B m d news hl hnews h1 hroom h63 hbase
    unfold Oper.wp execOp
    simp only [ho, resolve, invoke, builtin, Sem.run_bind, Sem.run_pure, Result.andThen_ok, List.map_toArray, List.map_cons, List.map_nil, hs, hx, hr]
    exact hK _ _ (h A' c' w' h2 h3)
end

/-! ### Readings out of rows of the call's own -/
theorem SlRep.cells_u8 {w : World} {S : Nat → Prop} {l : List UInt8} {A : Option Addr} {c : Nat} (h : SlRep Rep.u8 w S l A c) : Cells w A (l.map fun b => Value.int .u8 (b.toNat : Int)) := by
  rcases h.2.2 with rfl | ⟨b, o, rfl, _, hr⟩
  · exact .inl rfl
  · refine .inr ⟨b, o, rfl, fun j u hu => ?_⟩
    rw [List.getElem?_map] at hu
    obtain ⟨y, hy, rfl⟩ := Option.map_eq_some_iff.1 hu
    obtain ⟨cs, hcs, hc⟩ := hr j y hy
    subst hcs
    have := hc 0 _ rfl
    simpa [Rep.u8] using this
theorem Own.u8 {w : World} {base : Nat} {e : TypeId} {A : Option Addr} {n c : Nat} {l : List UInt8} (h : Own w base e 1 A n c (l.map fun b => Value.int .u8 (b.toNat : Int))) : n = l.length ∧ SlRep Rep.u8 w (fun k => base ≤ k ∧ k < w.heap.size) l A c := by
  have hn : n = l.length := by have := h.len; simp at this; omega
  refine ⟨hn, ⟨by have := h.cap; omega, h.cap.2, ?_⟩⟩
  cases l with
  | nil => exact .inl rfl
  | cons x r =>
    obtain ⟨g, rfl, h1, h2, _⟩ := h.cell (j := 0) (u := .int .u8 (x.toNat : Int)) rfl
    refine .inr ⟨g, 0, rfl, ⟨h1, h2⟩, fun i y hy => ⟨_, rfl, fun j u hu => ?_⟩⟩
    obtain ⟨g', e1, _, _, hc⟩ := h.cell (j := i) (u := .int .u8 (y.toNat : Int)) (by rw [List.getElem?_map, hy]; rfl)
    simp only [Option.some.injEq, Addr.mk.injEq, and_true] at e1
    subst e1
    have hj : j = 0 := by have := (List.getElem?_eq_some_iff.1 hu).1; simp at this; omega
    subst hj
    simp at hu
    subst hu
    simpa [Rep.u8] using hc
theorem oneCell_u8 (l : List UInt8) : ∀ u ∈ (l.map fun b => Value.int .u8 (b.toNat : Int)), u.oneCell' = true := by
  intro u hu
  obtain ⟨b, _, rfl⟩ := List.mem_map.1 hu
  rfl
end Go.Proofs.YtlcjdlnhniemcaaDoor
end
section
namespace Go.Proofs.YtlcjdlnhniemcaaDoor
open Go.RowKit

theorem elemU8 : ElemT Tryd.prog 28 5 1 1 := ElemT.of Tryd.underlying28 (z := .int .u8 0) (by kernel_rfl) rfl (by decide)

def u8v (b : UInt8) : Value := .int .u8 (b.toNat : Int)
/-- a number's lowest byte -/
def byteOf (x : Int) : UInt8 := UInt8.ofNat (x % 256).toNat
theorem byteOf_toNat (x : Int) : ((byteOf x).toNat : Int) = x % 256 := by
  unfold byteOf
  rw [UInt8.toNat_ofNat']
  omega
/-- a number in so many bytes, the highest one first -/
def beBytes (n : Int) : Nat → List UInt8
  | 0 => []
  | k + 1 => byteOf (n / 2 ^ (8 * k)) :: beBytes n k

set_option maxHeartbeats 400000 in
theorem law_sameBytes_q (l : List UInt8) (A A' : Option Addr) (c c' : Nat) (S S' : Nat → Prop) (w : World) (hl : SlRep Rep.u8 w S l A c) (hl' : SlRep Rep.u8 w S' l A' c') (hn : l.length ≤ 9223372036854775807) :
    Calls Tryd.prog 11 #[.slice A l.length c, .slice A' l.length c'] w fun e w' => e = .returned (.bool true) ∧ ∃ m, w' = w.drewN m := by
  have HL := Lib.hid hl
  have HL' := Lib.hid hl'
  clear hl hl'
  go_enter Tryd.func11, Tryd.ntmps11
  go_wp2
  go_loopw [5] (fun i wr => ∃ k m : Nat, k ≤ l.length ∧ i = .int .i64 k ∧ wr = w.drewN m) (fun i _ => l.length - (intOf i).toNat)
  case atStart => exact ⟨0, 0, by omega, rfl, rfl⟩
  case round =>
    obtain ⟨k, m, hk, rfl, rfl⟩ := hrel
    by_cases hlt : k < l.length
    · obtain ⟨b, o, rfl, _, hc1⟩ := u8_at HL.out hlt
      obtain ⟨b', o', rfl, _, hc2⟩ := u8_at HL'.out hlt
      have hlt' : (k : Int) < (l.length : Int) := by omega
      generalize (l.getD k 0).toNat = x at *
      go_wp2
      go_quiet (fail)
      go_wp2
      go_roundw
      case rel => exact ⟨k + 1, _, by omega, by go_num, rfl⟩
      case measure => simp [intOf]; omega
    · go_wp2
      go_ret
      exact ⟨rfl, m, rfl⟩

theorem law_sameBytes (l : List UInt8) (A A' : Option Addr) (c c' : Nat) (S S' : Nat → Prop) (w : World) (hl : SlRep Rep.u8 w S l A c) (hl' : SlRep Rep.u8 w S' l A' c') (hn : l.length ≤ 9223372036854775807) :
    Calls Tryd.prog 11 #[.slice A l.length c, .slice A' l.length c'] w fun e w' => e = .returned (.bool true) ∧ Below w.heap.size w w' :=
  (law_sameBytes_q l A A' c c' S S' w hl hl' hn).mono fun e w' ⟨he, m, hw⟩ => ⟨he, by rw [hw]; exact bdrewN (bself w) m⟩

/-! ### What a call answers: a list, or a fault -/
def exL {α : Type} : Except Int (List α) → List α
  | .ok l => l
  | .error _ => []
def exC {β : Type} : Except Int β → Int
  | .ok _ => 0
  | .error c => c
def BytesRes (r : Except Int (List UInt8)) (w : World) (e : Ending) (w' : World) : Prop :=
  ∃ A c, e = .returned (.tuple #[.slice A (exL r).length c, .int .i64 (exC r)]) ∧ Own w' w.heap.size 5 1 A (exL r).length c ((exL r).map u8v) ∧ Below w.heap.size w w'
theorem BytesRes.no {r : Except Int (List UInt8)} {c : Int} (h : r = .error c) {w w' : World} (hb : Below w.heap.size w w') : BytesRes r w (.returned (.tuple #[.slice none 0 0, .int .i64 c])) w' := by
  subst h
  exact ⟨none, 0, rfl, Own.nil _ _ _ _, hb⟩
theorem BytesRes.yes {r : Except Int (List UInt8)} {l : List UInt8} (h : r = .ok l) {w w' : World} {A : Option Addr} {n c : Nat} (ho : Own w' w.heap.size 5 1 A n c (l.map u8v)) (hb : Below w.heap.size w w') : BytesRes r w (.returned (.tuple #[.slice A n c, .int .i64 0])) w' := by
  subst h
  have hn := ho.u8.1
  subst hn
  exact ⟨A, c, rfl, ho, hb⟩
end Go.Proofs.YtlcjdlnhniemcaaDoor
end
section
namespace Go.Proofs.YtlcjdlnhniemcaaDoor
open Go.RowKit

theorem Cells.newAt (w : World) (t : TypeId) (xs : List Value) {b : Nat} (hb : b = w.heap.size) : Cells (w.alloc (.cells xs.toArray t)) (some ⟨b, 0, none⟩) xs := by
  subst hb
  exact Cells.new w t xs

theorem Grew.cell {w w' : World} {A A' : Option Addr} (h : Grew w w' A A') {b : Nat} (o : Nat) (hb : b < w.heap.size) (hne : ∀ k, blkOf A = some k → k ≠ b) : w'.cell? ⟨b, o, none⟩ = w.cell? ⟨b, o, none⟩ :=
  World.cell?_of_block (h.grown.block b hb (fun e => hne b e.symm rfl))
theorem Grew.frozen {w w' : World} {A A' : Option Addr} (h : Grew w w' A A') {b : Nat} (o : Nat) (hb : b < w.heap.size) (hne : ∀ k, blkOf A = some k → k ≠ b) : w'.frozen? ⟨b, o, none⟩ = w.frozen? ⟨b, o, none⟩ :=
  World.frozen?_of_block (h.grown.block b hb (fun e => hne b e.symm rfl))

theorem flatMap_at {α : Type} (f : α → List Value) (size : Nat) (hf : ∀ a, (f a).length = size) : ∀ (l : List α) (i : Nat) (y : α), l[i]? = some y → ∀ j, j < size → (l.flatMap f)[i * size + j]? = (f y)[j]?
  | [], i, y, h, j, _ => by simp at h
  | x :: r, 0, y, h, j, hj => by
    simp at h
    subst h
    rw [List.flatMap_cons, Nat.zero_mul, Nat.zero_add, List.getElem?_append_left (by rw [hf]; exact hj)]
  | x :: r, i + 1, y, h, j, hj => by
    rw [List.flatMap_cons, List.getElem?_append_right (by rw [hf, Nat.succ_mul]; omega), hf, show (i + 1) * size + j - size = i * size + j by rw [Nat.succ_mul]; omega]
    exact flatMap_at f size hf r i y (by simpa using h) j hj
theorem flatMap_len {α : Type} (f : α → List Value) (size : Nat) (hf : ∀ a, (f a).length = size) : ∀ l : List α, (l.flatMap f).length = l.length * size
  | [] => by simp
  | x :: r => by rw [List.flatMap_cons, List.length_append, hf, flatMap_len f size hf r, List.length_cons, Nat.succ_mul, Nat.add_comm]

theorem Own.flat {w : World} {base : Nat} {e : TypeId} {A : Option Addr} {n c size : Nat} {α : Type} {R : Rep α} (enc : α → List Value) (hR : R.size = size) (henc : ∀ (S : Nat → Prop) (a : α), R.rep w S a (enc a)) (hpos : 0 < size) {l : List α}
    (h : Own w base e size A n c (l.flatMap enc)) : n = l.length ∧ SlRep R w (fun k => base ≤ k ∧ k < w.heap.size) l A c := by
  subst hR
  have hf : ∀ a, (enc a).length = R.size := fun a => R.len (henc (fun _ => True) a)
  have hn : n = l.length := by
    have h1 := h.len
    rw [flatMap_len enc R.size hf] at h1
    exact (Nat.eq_of_mul_eq_mul_right hpos h1).symm
  refine ⟨hn, ⟨by have := h.cap; omega, h.cap.2, ?_⟩⟩
  cases l with
  | nil => exact .inl rfl
  | cons x r =>
    have h0 : ((x :: r).flatMap enc)[0]? = some ((enc x)[0]'(by rw [hf]; exact hpos)) := by
      have := flatMap_at enc R.size hf (x :: r) 0 x rfl 0 hpos
      rw [Nat.zero_mul, Nat.zero_add] at this
      rw [this, List.getElem?_eq_getElem]
    obtain ⟨g, rfl, h1, h2, _⟩ := h.cell h0
    refine .inr ⟨g, 0, rfl, ⟨h1, h2⟩, fun i y hy => ⟨enc y, henc _ y, fun j u hu => ?_⟩⟩
    have hj : j < R.size := by rw [← hf y]; exact (List.getElem?_eq_some_iff.1 hu).1
    obtain ⟨g', e1, _, _, hc⟩ := h.cell (j := i * R.size + j) (u := u) (by rw [flatMap_at enc R.size hf _ i y hy j hj]; exact hu)
    simp only [Option.some.injEq, Addr.mk.injEq, and_true] at e1
    subst e1
    rw [Nat.zero_add]
    exact hc

theorem SlRep.cells_flat {w : World} {S : Nat → Prop} {α : Type} {R : Rep α} {l : List α} {A : Option Addr} {c size : Nat} (enc : α → List Value) (hR : R.size = size) (hinv : ∀ a cs, R.rep w S a cs → cs = enc a) (henc : ∀ a, (enc a).length = size) (hpos : 0 < size)
    (h : SlRep R w S l A c) : Cells w A (l.flatMap enc) := by
  subst hR
  rcases h.2.2 with rfl | ⟨b, o, rfl, _, hr⟩
  · exact .inl rfl
  · refine .inr ⟨b, o, rfl, fun j u hu => ?_⟩
    have hj : j < l.length * R.size := by rw [← flatMap_len enc R.size henc]; exact (List.getElem?_eq_some_iff.1 hu).1
    have hi : j / R.size < l.length := (Nat.div_lt_iff_lt_mul hpos).2 hj
    have hy : l[j / R.size]? = some (l[j / R.size]'hi) := List.getElem?_eq_getElem hi
    obtain ⟨cs, hcs, hc⟩ := hr _ _ hy
    rw [hinv _ _ hcs] at hc
    have hm : j % R.size < R.size := Nat.mod_lt _ hpos
    have hdm : j / R.size * R.size + j % R.size = j := by rw [Nat.mul_comm]; exact Nat.div_add_mod j R.size
    have := flatMap_at enc R.size henc l _ _ hy (j % R.size) hm
    rw [hdm, hu] at this
    have h2 := hc (j % R.size) u this.symm
    rw [Nat.add_assoc, hdm] at h2
    exact h2
end Go.Proofs.YtlcjdlnhniemcaaDoor
end
section
namespace Go.Proofs.YtlcjdlnhniemcaaDoor
open Go.RowKit

section
variable {P : Program} (w : World)
theorem wp_run {ops : Array Oper} {rest : List Oper} {o : Oper} {a : Act} {Q : Exit → Act → World → Prop} (hgd : o.guard = none) (s x : Operand) (t1 t2 : TypeId)
    (ho : o.op = .call { callee := .builtin .append, args := #[s, x], argTypes := #[t1, t2] }) {v1 v2 v : Value} {w' : World} (hs : a.eval s = v1) (hx : a.eval x = v2)
    (hr : (Builtin.append_ #[t1, t2] o.type #[v1, v2]).run P w = .ok v w') (h : wpList P ops Q rest (a.put o.dst v) w') : wpList P ops Q (o :: rest) a w :=
  wpList_plain hgd fun K hK => by
    unfold Oper.wp execOp
    simp only [ho, resolve, invoke, builtin, Sem.run_bind, Sem.run_pure, Result.andThen_ok, List.map_toArray, List.map_cons, List.map_nil, hs, hx, hr]
    exact hK _ _ h
theorem step_app {ops : Array Oper} {o : Oper} {a : Act} {K : Act → World → Prop} {Q : Exit → Act → World → Prop} {E : Prop} (hgd : o.guard = none) (s x : Operand) (t : TypeId)
    (ho : o.op = .call { callee := .builtin .append, args := #[s, x], argTypes := #[t, t] }) {e : TypeId} {size bytes : Nat} (hT : ElemT P t e size bytes) (base : Nat) (A : Option Addr) (n c : Nat) (xs : List Value) (hs : a.eval s = .slice A n c) (hown : Own w base e size A n c xs)
    (B : Option Addr) (m d : Nat) (news : List Value) (hx : a.eval x = .slice B m d) (hl : news.length = m * size) (hnews : Cells w B news) (h1 : ∀ u ∈ news, u.oneCell' = true) (hroom : (n + m) * bytes ≤ 140737488355328) (h63 : n + m ≤ maxLen) (hbase : base ≤ w.heap.size)
    (h : ∀ A' c' w', Own w' base e size A' (n + m) c' (xs ++ news) → Grew w w' A A' → K (a.put o.dst (.slice A' (n + m) c')) w') :
    if Region.wanted o (yielded ops a.tmps) = true then Oper.wp P o a w K Q else E := by
  have hw : Region.wanted o (yielded ops a.tmps) = true := by simp [Region.wanted, hgd]
  rw [if_pos hw]
  obtain ⟨A', c', w', hr, h2, h3⟩ := run_app (P := P) (ty := o.type) w hT base A n c xs hown B m d news hl hnews h1 hroom h63 hbase
  unfold Oper.wp execOp
  simp only [ho, resolve, invoke, builtin, Sem.run_bind, Sem.run_pure, Result.andThen_ok, List.map_toArray, List.map_cons, List.map_nil, hs, hx, hr]
  exact h A' c' w' h2 h3
end

theorem Cells.below {w w' : World} {A : Option Addr} {xs : List Value} (h : Cells w A xs) {B : Nat} (hb : Below B w w') (hA : ∀ k, blkOf A = some k → k < B) : Cells w' A xs := by
  rcases h with rfl | ⟨b, o, rfl, hc⟩
  · exact .inl rfl
  · exact .inr ⟨b, o, rfl, fun j u hu => (hb.cell (p := ⟨b, o + j, none⟩) (hA b rfl)).trans (hc j u hu)⟩
theorem Grew.ne {w w' : World} {A A' : Option Addr} (h : Grew w w' A A') {b : Nat} (hA : ∀ k, blkOf A = some k → k ≠ b) (hb : b < w.heap.size) : ∀ k, blkOf A' = some k → k ≠ b := by
  intro k hk
  rcases h.blk with e | ⟨g, hg, e⟩
  · rw [e] at hk
    exact hA k hk
  · rw [hk] at e
    cases e
    omega
theorem Cells.len_of_none {w : World} {xs : List Value} (h : Cells w none xs) : xs = [] := by
  rcases h with h | ⟨b, o, h, _⟩
  · exact h
  · cases h

/-! ### A cut of a slice: its address under one name -/
def cutA (A : Option Addr) (c f size : Nat) : Option Addr := if c = f then A else A.map (·.add (f * size))
theorem addr_add (b o n : Nat) : (⟨b, o, none⟩ : Addr).add n = ⟨b, o + n, none⟩ := by unfold Addr.add; split <;> simp_all
theorem cutA_blk {A : Option Addr} {c f size : Nat} (h : ∀ a, A = some a → a.spot = none) : blkOf (cutA A c f size) = blkOf A := by
  unfold cutA
  split
  · rfl
  · cases A with
    | none => rfl
    | some a =>
      obtain ⟨b, o, s⟩ := a
      obtain rfl : s = none := h _ rfl
      simp [blkOf, addr_add]
theorem SlRep.cut {α : Type} {R : Rep α} {w : World} {S : Nat → Prop} {l : List α} {A : Option Addr} {c : Nat} (h : SlRep R w S l A c) {f n : Nat} (hf : f + n ≤ l.length) : SlRep R w S ((l.drop f).take n) (cutA A c f R.size) (c - f) := by
  have hl : ((l.drop f).take n).length = n := by rw [List.length_take, List.length_drop]; omega
  obtain ⟨h1, h2, h3⟩ := h
  refine ⟨by rw [hl]; omega, by omega, ?_⟩
  by_cases hn : n = 0
  · subst hn
    exact .inl (by simp)
  · rcases h3 with rfl | ⟨b, o, rfl, hb, hr⟩
    · simp at hf; omega
    · refine .inr ⟨b, o + f * R.size, ?_, hb, fun i a hi => ?_⟩
      · unfold cutA
        rw [if_neg (by omega), Option.map_some, addr_add]
      · have hi' : l[f + i]? = some a := by
          rw [List.getElem?_take] at hi
          split at hi
          · rwa [List.getElem?_drop] at hi
          · cases hi
        obtain ⟨cs, hcs, hc⟩ := hr (f + i) a hi'
        refine ⟨cs, hcs, fun j u hu => ?_⟩
        rw [← hc j u hu]
        congr 2
        rw [Nat.add_mul]
        omega
theorem SlRep.take {α : Type} {R : Rep α} {w : World} {S : Nat → Prop} {l : List α} {A : Option Addr} {c : Nat} (h : SlRep R w S l A c) (n : Nat) : SlRep R w S (l.take n) A c := by
  obtain ⟨h1, h2, h3⟩ := h
  refine ⟨Nat.le_trans (by rw [List.length_take]; exact Nat.min_le_right _ _) h1, h2, ?_⟩
  rcases h3 with rfl | ⟨b, o, rfl, hb, hr⟩
  · exact .inl (by simp)
  · refine .inr ⟨b, o, rfl, hb, fun i a hi => hr i a ?_⟩
    rw [List.getElem?_take] at hi
    split at hi
    · exact hi
    · cases hi
theorem SlRep.drop {α : Type} {R : Rep α} {w : World} {S : Nat → Prop} {l : List α} {A : Option Addr} {c : Nat} (h : SlRep R w S l A c) {f : Nat} (hf : f ≤ l.length) : SlRep R w S (l.drop f) (cutA A c f R.size) (c - f) := by
  have := h.cut (f := f) (n := l.length - f) (by omega)
  rwa [List.take_of_length_le (by rw [List.length_drop]; exact Nat.le_refl _)] at this
section
variable {P : Program}
theorem run_sizeOf_ {e : TypeId} {i : TypeInfo} {size : Nat} (hi : P.info? e = some i) (hs : i.size = size) (W : World) : (sizeOf e).run P W = .ok size W := by
  simp [sizeOf, typeInfo, hi, hs]
theorem run_cut_lh {t e : TypeId} {size bytes : Nat} (hT : ElemT P t e size bytes) (A : Option Addr) (n c f m : Nat) (hc : f + m ≤ c) (i j : Int) (hi : i = f) (hj : j = (f : Int) + m) (W : World) :
    (Instr.slice t (.slice A n c) (some (.int .i64 i)) (some (.int .i64 j)) none).run P W = .ok (.slice (cutA A c f size) m (c - f)) W := by
  subst hi; subst hj
  obtain ⟨inf, z, hi, hz, hsize, hby, hzs⟩ := hT.info
  have he : P.underlying t = some (.slice (P.elem t)) := by rw [hT.und, Program.elem, hT.und]
  have he2 : P.elem t = e := by rw [Program.elem, hT.und]
  rw [run_slice_lh W t A n c he .i64 .i64 f ((f : Int) + m) (by omega) (by omega) (by omega), he2]
  rw [run_sizeOf_ hi hsize W]
  simp [sliced, cutA, show ((f : Int) + m).toNat = f + m by omega]
theorem run_cut_l {t e : TypeId} {size bytes : Nat} (hT : ElemT P t e size bytes) (A : Option Addr) (n c f : Nat) (hn : f ≤ n) (i : Int) (hi : i = f) (W : World) :
    (Instr.slice t (.slice A n c) (some (.int .i64 i)) none none).run P W = .ok (.slice (cutA A c f size) (n - f) (c - f)) W := by
  subst hi
  obtain ⟨inf, z, hi, hz, hsize, hby, hzs⟩ := hT.info
  have he : P.underlying t = some (.slice (P.elem t)) := by rw [hT.und, Program.elem, hT.und]
  have he2 : P.elem t = e := by rw [Program.elem, hT.und]
  rw [run_slice_l W t A n c he .i64 f (by omega) (by omega), he2]
  rw [run_sizeOf_ hi hsize W]
  simp [sliced, cutA]
theorem run_cut_h {t e : TypeId} {size bytes : Nat} (hT : ElemT P t e size bytes) (A : Option Addr) (n c m : Nat) (hc : m ≤ c) (j : Int) (hj : j = m) (W : World) :
    (Instr.slice t (.slice A n c) none (some (.int .i64 j)) none).run P W = .ok (.slice A m c) W := by
  subst hj
  obtain ⟨inf, z, hi, hz, hsize, hby, hzs⟩ := hT.info
  have he : P.underlying t = some (.slice (P.elem t)) := by rw [hT.und, Program.elem, hT.und]
  have he2 : P.elem t = e := by rw [Program.elem, hT.und]
  rw [run_slice_h W t A n c he .i64 m (by omega) (by omega), he2]
  rw [run_sizeOf_ hi hsize W]
  simp only [sliced, Result.andThen_ok]
  have : ∀ a : Addr, a.add 0 = a := fun a => by unfold Addr.add; split <;> simp_all
  cases A <;> simp [this]
end

set_option maxRecDepth 100000 in
set_option maxHeartbeats 400000 in
theorem clone_u8 (n : Nat) (A : Option Addr) (c : Nat) (xs : List Value) (w : World) (hx : xs.length = n) (hc : ∀ w', Below w.heap.size w w' → Cells w' A xs) (h1 : ∀ u ∈ xs, u.oneCell' = true) (hn : n ≤ 140737488351232) :
    Calls Tryd.prog 48 #[.slice A n c] w fun e w' => ∃ A' c', e = .returned (.slice A' n c') ∧ Own w' w.heap.size 5 1 A' n c' xs ∧ Below w.heap.size w w' := by
  cases A with
  | none =>
    obtain rfl := (hc w (bself w)).len_of_none
    obtain rfl : n = 0 := by simpa using hx.symm
    have hq := Lib.run_eql_slice_nil (P := Tryd.prog) w 28 5 none 0 c 0 0 Tryd.underlying28
    simp only [Option.isNone] at hq
    go_enter Tryd.func48, Tryd.ntmps48
    go_wp2
    go_ret
    exact ⟨none, 0, rfl, Own.nil _ _ _ _, bself w⟩
  | some a =>
    have HC := Lib.hid hc
    have HX := Lib.hid hx
    have H1 := Lib.hid h1
    clear hc hx h1
    have hq := Lib.run_eql_slice_nil (P := Tryd.prog) w 28 5 (some a) n c 0 0 Tryd.underlying28
    simp only [Option.isNone] at hq
    go_enter Tryd.func48, Tryd.ntmps48
    go_wp2_with (at_builtin; refine wp_app _ rfl _ _ _ rfl elemU8 w.heap.size _ 0 0 [] rfl (Own.lit w w.heap.size _ 1 0 [] (Nat.le_refl _) rfl (by decide)) _ n _ xs rfl (by rw [HX.out, Nat.mul_one]) (HC.out _ (balloc (bself w) _)) H1.out (by omega) (by unfold maxLen; omega) (by simp) ?_; intro A3 c3 w4 hO4 hg4; have HO4 := Lib.hid hO4; clear hO4)
    go_ret
    exact ⟨A3, c3, rfl, by simpa using HO4.out, Grew.step (balloc (bself w) _) hg4 (fun k hk => by cases hk; exact Nat.le_refl _)⟩
end Go.Proofs.YtlcjdlnhniemcaaDoor
end
section
namespace Go.Proofs.YtlcjdlnhniemcaaDoor
open Go.RowKit

/-- the call's own blocks other than the row A -/
def Apart (w : World) (base : Nat) (A : Option Addr) (k : Nat) : Prop := base ≤ k ∧ k < w.heap.size ∧ blkOf A ≠ some k
theorem SlRep.grew {α : Type} {R : Rep α} {w w' : World} {base : Nat} {A A' : Option Addr} {l : List α} {B : Option Addr} {c : Nat} (h : SlRep R w (Apart w base A) l B c) (hg : Grew w w' A A') : SlRep R w' (Apart w' base A') l B c :=
  h.keep fun k hk => ⟨⟨hk.1, Nat.lt_of_lt_of_le hk.2.1 hg.grown.size, fun e => by
    rcases hg.blk with e' | ⟨g, hg', e'⟩
    · exact hk.2.2 (e' ▸ e)
    · rw [e'] at e
      cases e
      exact absurd hk.2.1 (by omega)⟩, hg.grown.block k hk.2.1 (fun e => hk.2.2 e.symm)⟩
theorem SlRep.apart_next {α : Type} {R : Rep α} {w w' : World} {base : Nat} {A : Option Addr} {l : List α} {B : Option Addr} {c : Nat} (h : SlRep R w (Apart w base A) l B c) (hb : Below w.heap.size w w') : SlRep R w' (Apart w' base A) l B c :=
  h.keep fun k hk => ⟨⟨hk.1, Nat.lt_of_lt_of_le hk.2.1 hb.size, hk.2.2⟩, hb.block k hk.2.1⟩
theorem SlRep.to_apart {α : Type} {R : Rep α} {w : World} {base b0 : Nat} {A : Option Addr} {l : List α} {B : Option Addr} {c : Nat} (h : SlRep R w (fun k => b0 ≤ k ∧ k < w.heap.size) l B c) (hb : base ≤ b0) (hA : ∀ k, blkOf A = some k → k < b0) : SlRep R w (Apart w base A) l B c :=
  h.keep fun k hk => ⟨⟨by omega, hk.2, fun e => by have := hA k e; omega⟩, rfl⟩
theorem SlRep.of_apart {α : Type} {R : Rep α} {w : World} {base : Nat} {A : Option Addr} {l : List α} {B : Option Addr} {c : Nat} (h : SlRep R w (Apart w base A) l B c) : SlRep R w (fun k => base ≤ k ∧ k < w.heap.size) l B c :=
  h.keep fun k hk => ⟨⟨hk.1, hk.2.1⟩, rfl⟩

/-- cells that hold slices in blocks of S, which read as L -/
def RowsIn (w : World) (S : Nat → Prop) (L : List (List UInt8)) (xs : List Value) : Prop :=
  xs.length = L.length ∧ ∀ (i : Nat) (l : List UInt8), L[i]? = some l → ∃ Ai ci, xs[i]? = some (Value.slice Ai l.length ci) ∧ SlRep Rep.u8 w S l Ai ci
theorem RowsIn.nil (w : World) (S : Nat → Prop) : RowsIn w S [] [] := ⟨rfl, fun i l h => by simp at h⟩
theorem RowsIn.keep {w w' : World} {S S' : Nat → Prop} {L : List (List UInt8)} {xs : List Value} (h : RowsIn w S L xs) (hk : ∀ k, S k → S' k ∧ w'.heap[k]? = w.heap[k]?) : RowsIn w' S' L xs :=
  ⟨h.1, fun i l hl => let ⟨Ai, ci, h1, h2⟩ := h.2 i l hl; ⟨Ai, ci, h1, h2.keep hk⟩⟩
theorem RowsIn.snoc {w : World} {S : Nat → Prop} {L : List (List UInt8)} {xs : List Value} (h : RowsIn w S L xs) {l : List UInt8} {B : Option Addr} {n c : Nat} (hn : n = l.length) (hl : SlRep Rep.u8 w S l B c) : RowsIn w S (L ++ [l]) (xs ++ [.slice B n c]) := by
  subst hn
  refine ⟨by simp [h.1], fun i x hx => ?_⟩
  rcases Nat.lt_or_ge i L.length with hi | hi
  · rw [List.getElem?_append_left hi] at hx
    obtain ⟨Ai, ci, h1, h2⟩ := h.2 i x hx
    exact ⟨Ai, ci, by rw [List.getElem?_append_left (by rw [h.1]; exact hi)]; exact h1, h2⟩
  · have hi' : i = L.length := by
      have := (List.getElem?_eq_some_iff.1 hx).1
      simp at this
      omega
    subst hi'
    rw [List.getElem?_append_right (Nat.le_refl _)] at hx
    simp at hx
    subst hx
    exact ⟨B, c, by rw [List.getElem?_append_right (by rw [h.1]; exact Nat.le_refl _), h.1]; simp, hl⟩
theorem RowsIn.rep {w : World} {base : Nat} {S : Nat → Prop} {e : TypeId} {A : Option Addr} {n c : Nat} {L : List (List UInt8)} {xs : List Value} (h : RowsIn w S L xs) (hS : ∀ k, S k → base ≤ k ∧ k < w.heap.size) (ho : Own w base e 1 A n c xs) : n = L.length ∧ SlRep (Rep.slice Rep.u8) w (fun k => base ≤ k ∧ k < w.heap.size) L A c := by
  have hn : n = L.length := by have := ho.len; rw [h.1, Nat.mul_one] at this; exact this.symm
  refine ⟨hn, ⟨by have := ho.cap; omega, ho.cap.2, ?_⟩⟩
  cases L with
  | nil => exact .inl rfl
  | cons y r =>
    obtain ⟨A0, c0, h0, _⟩ := h.2 0 y rfl
    obtain ⟨g, rfl, h1, h2, _⟩ := ho.cell h0
    refine .inr ⟨g, 0, rfl, ⟨h1, h2⟩, fun i z hz => ?_⟩
    obtain ⟨Ai, ci, h3, h4⟩ := h.2 i z hz
    obtain ⟨g', e1, _, _, hc⟩ := ho.cell h3
    simp only [Option.some.injEq, Addr.mk.injEq, and_true] at e1
    subst e1
    refine ⟨_, rep_slice_val.2 ⟨rfl, h4.keep fun k hk => ⟨hS k hk, rfl⟩⟩, fun j u hu => ?_⟩
    have hj : j = 0 := by have := (List.getElem?_eq_some_iff.1 hu).1; simp at this; omega
    subst hj
    simp at hu
    subst hu
    simpa [Rep.slice] using hc
def RowsAt (w : World) (base : Nat) (A : Option Addr) (L : List (List UInt8)) (xs : List Value) : Prop := RowsIn w (Apart w base A) L xs
theorem RowsAt.nil (w : World) (base : Nat) (A : Option Addr) : RowsAt w base A [] [] := RowsIn.nil _ _
theorem Apart.grew {w w' : World} {base : Nat} {A A' : Option Addr} (hg : Grew w w' A A') : ∀ k, Apart w base A k → Apart w' base A' k ∧ w'.heap[k]? = w.heap[k]? := fun k hk =>
  ⟨⟨hk.1, Nat.lt_of_lt_of_le hk.2.1 hg.grown.size, fun e => by
    rcases hg.blk with e' | ⟨g, hg', e'⟩
    · exact hk.2.2 (e' ▸ e)
    · rw [e'] at e
      cases e
      exact absurd hk.2.1 (by omega)⟩, hg.grown.block k hk.2.1 (fun e => hk.2.2 e.symm)⟩
theorem Apart.next {w w' : World} {base : Nat} {A : Option Addr} (hb : Below w.heap.size w w') : ∀ k, Apart w base A k → Apart w' base A k ∧ w'.heap[k]? = w.heap[k]? := fun k hk =>
  ⟨⟨hk.1, Nat.lt_of_lt_of_le hk.2.1 hb.size, hk.2.2⟩, hb.block k hk.2.1⟩
theorem RowsAt.grew {w w' : World} {base : Nat} {A A' : Option Addr} {L : List (List UInt8)} {xs : List Value} (h : RowsAt w base A L xs) (hg : Grew w w' A A') : RowsAt w' base A' L xs := RowsIn.keep h (Apart.grew hg)
theorem RowsAt.next {w w' : World} {base : Nat} {A : Option Addr} {L : List (List UInt8)} {xs : List Value} (h : RowsAt w base A L xs) (hb : Below w.heap.size w w') : RowsAt w' base A L xs := RowsIn.keep h (Apart.next hb)
theorem RowsAt.snoc {w : World} {base : Nat} {A : Option Addr} {L : List (List UInt8)} {xs : List Value} (h : RowsAt w base A L xs) {l : List UInt8} {B : Option Addr} {n c : Nat} (hn : n = l.length) (hl : SlRep Rep.u8 w (Apart w base A) l B c) : RowsAt w base A (L ++ [l]) (xs ++ [.slice B n c]) := RowsIn.snoc h hn hl
theorem RowsAt.rep {w : World} {base : Nat} {e : TypeId} {A : Option Addr} {n c : Nat} {L : List (List UInt8)} {xs : List Value} (h : RowsAt w base A L xs) (ho : Own w base e 1 A n c xs) : n = L.length ∧ SlRep (Rep.slice Rep.u8) w (fun k => base ≤ k ∧ k < w.heap.size) L A c :=
  RowsIn.rep h (fun k hk => ⟨hk.1, hk.2.1⟩) ho

/-! Two rows that grow beside each other -/
theorem Own.kept' {w w' : World} {base : Nat} {e : TypeId} {size n c : Nat} {A B B' : Option Addr} {xs : List Value} (h : Own w base e size A n c xs) (hg : Grew w w' B B') (hne : ∀ k, blkOf A = some k → blkOf B ≠ some k) : Own w' base e size A n c xs :=
  h.kept hg.grown (by
    cases hA : blkOf A with
    | none => exact .inl rfl
    | some k => exact .inr (fun e => hne k hA e.symm))
/-- the row A lies in no block of B's -/
def Two (A B : Option Addr) : Prop := ∀ k, blkOf A = some k → blkOf B ≠ some k
theorem Two.left {w w' : World} {A A' B : Option Addr} (h : Two A B) (hg : Grew w w' A A') (hB : ∀ k, blkOf B = some k → k < w.heap.size) : Two A' B := fun k hk e => by
  rcases hg.blk with e' | ⟨g, hg', e'⟩
  · exact h k (e' ▸ hk) e
  · rw [e'] at hk
    cases hk
    have := hB _ e
    omega
theorem Two.symm {A B : Option Addr} (h : Two A B) : Two B A := fun k hk e => h k e hk
theorem Two.none_left (B : Option Addr) : Two none B := fun k hk => by cases hk
/-- the call's own blocks other than A's and B's -/
def Apart2 (w : World) (base : Nat) (A B : Option Addr) (k : Nat) : Prop := Apart w base A k ∧ blkOf B ≠ some k
theorem Apart2.second {w w' : World} {base : Nat} {A B B' : Option Addr} (hg : Grew w w' B B') : ∀ k, Apart2 w base A B k → Apart2 w' base A B' k ∧ w'.heap[k]? = w.heap[k]? := fun k hk =>
  have h := Apart.grew (base := base) hg k ⟨hk.1.1, hk.1.2.1, hk.2⟩
  ⟨⟨⟨hk.1.1, h.1.2.1, hk.1.2.2⟩, h.1.2.2⟩, h.2⟩
theorem Apart2.first {w w' : World} {base : Nat} {A A' B : Option Addr} (hg : Grew w w' A A') : ∀ k, Apart2 w base A B k → Apart2 w' base A' B k ∧ w'.heap[k]? = w.heap[k]? := fun k hk =>
  have h := Apart.grew (base := base) hg k hk.1
  ⟨⟨h.1, hk.2⟩, h.2⟩
theorem Apart2.next {w w' : World} {base : Nat} {A B : Option Addr} (hb : Below w.heap.size w w') : ∀ k, Apart2 w base A B k → Apart2 w' base A B k ∧ w'.heap[k]? = w.heap[k]? := fun k hk =>
  have h := Apart.next (base := base) hb k hk.1
  ⟨⟨h.1, hk.2⟩, h.2⟩
theorem SlRep.in_row {w : World} {S S' : Nat → Prop} {l : List UInt8} {A : Option Addr} {c : Nat} (h : SlRep Rep.u8 w S l A c) (hS : ∀ k, blkOf A = some k → S k → S' k) : SlRep Rep.u8 w S' l A c := by
  obtain ⟨h1, h2, h3⟩ := h
  refine ⟨h1, h2, h3.imp id fun ⟨b, o, e, hb, hr⟩ => ⟨b, o, e, hS b (by rw [e]; rfl) hb, fun i a hi => ?_⟩⟩
  obtain ⟨cs, hcs, hc⟩ := hr i a hi
  exact ⟨cs, hcs, hc⟩
theorem u8_cells {w : World} {S : Nat → Prop} {l : List UInt8} {A : Option Addr} {c : Nat} (h : SlRep Rep.u8 w S l A c) (hp : 0 < l.length) :
    ∃ b o, A = some ⟨b, o, none⟩ ∧ S b ∧ ∀ k, k < l.length → w.cell? ⟨b, o + k, none⟩ = some (.int .u8 ((l.getD k 0).toNat : Int)) := by
  obtain ⟨b, o, e, hb, _⟩ := u8_at (k := 0) h hp
  refine ⟨b, o, e, hb, fun k hk => ?_⟩
  obtain ⟨b', o', e', _, hc⟩ := u8_at (k := k) h hk
  rw [e] at e'
  simp only [Option.some.injEq, Addr.mk.injEq, and_true] at e'
  obtain ⟨rfl, rfl⟩ := e'
  exact hc
/-- the cell of the k-th list -/
theorem list_at {w : World} {S : Nat → Prop} {L : List (List UInt8)} {A : Option Addr} {c k : Nat} (h : SlRep (Rep.slice Rep.u8) w S L A c) (hk : k < L.length) :
    ∃ b o Ak ck, A = some ⟨b, o, none⟩ ∧ S b ∧ w.cell? ⟨b, o + k, none⟩ = some (.slice Ak (L.getD k []).length ck) ∧ SlRep Rep.u8 w S (L.getD k []) Ak ck := by
  rcases h.2.2 with rfl | ⟨b, o, rfl, hb, hr⟩
  · simp at hk
  · obtain ⟨cs, hcs, hc⟩ := hr k (L.getD k []) (by rw [List.getD_eq_getElem?_getD, List.getElem?_eq_getElem hk]; rfl)
    obtain ⟨Ak, ck, rfl, h2⟩ := rep_slice_iff.1 hcs
    have := hc 0 _ rfl
    exact ⟨b, o, Ak, ck, rfl, hb, by simpa [Rep.slice] using this, h2⟩
theorem bulk_u8 (l : List UInt8) : (Rep.slice Rep.u8).bulk l = l.length + 1 := by
  simp only [Rep.slice, Rep.u8]
  congr 1
  induction l with
  | nil => rfl
  | cons x r ih => simp [ih]; omega


end Go.Proofs.YtlcjdlnhniemcaaDoor
end
section
namespace Go.Proofs.YtlcjdlnhniemcaaDoor
open Go.RowKit

/-- the cells xs read as the list L, through blocks of S -/
def RowsOf {α : Type} (R : Rep α) (w : World) (S : Nat → Prop) : List α → List Value → Prop
  | [], xs => xs = []
  | a :: L, xs => ∃ cs ys, xs = cs ++ ys ∧ R.rep w S a cs ∧ RowsOf R w S L ys
section
variable {α : Type} {R : Rep α} {w w' : World} {S S' : Nat → Prop}
theorem RowsOf.nil : RowsOf R w S [] [] := rfl
theorem RowsOf.keep : ∀ {L : List α} {xs : List Value}, RowsOf R w S L xs → (∀ k, S k → S' k ∧ w'.heap[k]? = w.heap[k]?) → RowsOf R w' S' L xs
  | [], _, h, _ => h
  | _ :: _, _, ⟨cs, ys, e, h1, h2⟩, hk => ⟨cs, ys, e, R.mono h1 hk, RowsOf.keep h2 hk⟩
theorem RowsOf.len : ∀ {L : List α} {xs : List Value}, RowsOf R w S L xs → xs.length = L.length * R.size
  | [], xs, h => by rw [show xs = [] from h]; simp
  | a :: L, xs, ⟨cs, ys, e, h1, h2⟩ => by rw [e, List.length_append, R.len h1, RowsOf.len h2, List.length_cons, Nat.succ_mul]; omega
theorem RowsOf.snoc {a : α} {cs : List Value} (ha : R.rep w S a cs) : ∀ {L : List α} {xs : List Value}, RowsOf R w S L xs → RowsOf R w S (L ++ [a]) (xs ++ cs)
  | [], xs, h => ⟨cs, [], by rw [show xs = [] from h]; simp, ha, rfl⟩
  | _ :: _, _, ⟨cs', ys, e, h1, h2⟩ => ⟨cs', ys ++ cs, by rw [e, List.append_assoc], h1, RowsOf.snoc ha h2⟩
theorem RowsOf.at : ∀ {L : List α} {xs : List Value} {i : Nat} {a : α}, RowsOf R w S L xs → L[i]? = some a → ∃ cs, R.rep w S a cs ∧ ∀ j u, cs[j]? = some u → xs[i * R.size + j]? = some u
  | [], _, i, a, _, hi => by simp at hi
  | x :: L, _, 0, a, ⟨cs, ys, e, h1, _⟩, hi => by
    simp at hi
    subst hi
    refine ⟨cs, h1, fun j u hu => ?_⟩
    rw [e, Nat.zero_mul, Nat.zero_add, List.getElem?_append_left (List.getElem?_eq_some_iff.1 hu).1]
    exact hu
  | x :: L, _, i + 1, a, ⟨cs, ys, e, h1, h2⟩, hi => by
    obtain ⟨cs', h3, h4⟩ := RowsOf.at h2 (by simpa using hi)
    refine ⟨cs', h3, fun j u hu => ?_⟩
    have hl := R.len h1
    rw [e, List.getElem?_append_right (by rw [hl, Nat.succ_mul]; omega), hl, show (i + 1) * R.size + j - R.size = i * R.size + j by rw [Nat.succ_mul]; omega]
    exact h4 j u hu
theorem RowsOf.rep {base e size n c : Nat} {A : Option Addr} {L : List α} {xs : List Value} (h : RowsOf R w S L xs) (hsz : R.size = size) (hpos : 0 < size) (hS : ∀ k, S k → S' k) (ho : Own w base e size A n c xs) (hA : ∀ k, blkOf A = some k → S' k) : n = L.length ∧ SlRep R w S' L A c := by
  subst hsz
  have hn : n = L.length := by
    have h1 := ho.len
    rw [h.len] at h1
    exact (Nat.eq_of_mul_eq_mul_right hpos h1).symm
  refine ⟨hn, ⟨by have := ho.cap; omega, ho.cap.2, ?_⟩⟩
  cases L with
  | nil => exact .inl rfl
  | cons y r =>
    obtain ⟨cs0, h0, h0'⟩ := h.at (i := 0) (a := y) rfl
    have h0l : 0 < cs0.length := by rw [R.len h0]; exact hpos
    obtain ⟨g, rfl, h1, h2, _⟩ := ho.cell (h0' 0 _ (List.getElem?_eq_getElem h0l))
    refine .inr ⟨g, 0, rfl, hA g rfl, fun i z hz => ?_⟩
    obtain ⟨cs, h3, h4⟩ := h.at hz
    refine ⟨cs, R.mono h3 fun k hk => ⟨hS k hk, rfl⟩, fun j u hu => ?_⟩
    obtain ⟨g', e1, _, _, hc⟩ := ho.cell (h4 j u hu)
    simp only [Option.some.injEq, Addr.mk.injEq, and_true] at e1
    subst e1
    rw [Nat.zero_add]
    exact hc
theorem Own.setAt {base e size g n c : Nat} {xs : List Value} (h : Own w base e size (some ⟨g, 0, none⟩) n c xs) {j : Nat} (v : Value) : Own (w.setCell ⟨g, j, none⟩ v) base e size (some ⟨g, 0, none⟩) n c (xs.set j v) := by
  obtain ⟨h1, h2⟩ := h
  refine ⟨by rw [List.length_set]; exact h1, .inr ?_⟩
  rcases h2 with ⟨h3, _⟩ | ⟨g', cap, cur, h3, h4, h5, h6, h7, h8, h9⟩
  · simp at h3
  · simp only [Value.slice.injEq, Option.some.injEq, Addr.mk.injEq, and_true] at h3
    obtain ⟨rfl, _, rfl⟩ := h3
    refine ⟨g, c, cur.set! j v, rfl, h4, heap_setCell_same w g j _ _ _ h5, h6, h7, by simpa using h8, ?_⟩
    rw [← h9]
    simp only [Array.set!_eq_setIfInBounds, Array.toList_setIfInBounds, List.take_set]
theorem Own.frozenAt {base e size n c g : Nat} {xs : List Value} (h : Own w base e size (some ⟨g, 0, none⟩) n c xs) (j : Nat) : w.frozen? ⟨g, j, none⟩ = false := by
  rcases h.2 with ⟨h1, _⟩ | ⟨g', cap, cur, h1, _, h3, _⟩
  · simp at h1
  · simp only [Value.slice.injEq, Option.some.injEq, Addr.mk.injEq, and_true] at h1
    obtain ⟨rfl, _⟩ := h1
    simp [World.frozen?, h3]
theorem Own.some {base e size n c : Nat} {A : Option Addr} {xs : List Value} (h : Own w base e size A n c xs) (hp : 0 < xs.length) : ∃ g, A = some ⟨g, 0, none⟩ ∧ base ≤ g ∧ g < w.heap.size := by
  obtain ⟨g, e1, h1, h2, _⟩ := h.cell (List.getElem?_eq_getElem hp)
  exact ⟨g, e1, h1, h2⟩
end
end Go.Proofs.YtlcjdlnhniemcaaDoor
end
section
namespace Go.Proofs.YtlcjdlnhniemcaaDoor
open Go.RowKit

/-- the block F holds these four cells -/
def Blk4 (w : World) (F : Nat) (T : TypeId) (x y z u : Value) : Prop := w.heap[F]? = some (.cells #[x, y, z, u] T (0, 0))
section
variable {w w' : World} {F : Nat} {T : TypeId} {x y z u : Value}
theorem Blk4.lt (h : Blk4 w F T x y z u) : F < w.heap.size := (Array.getElem?_eq_some_iff.1 h).1
theorem Blk4.new (w : World) (T : TypeId) (x y z u : Value) : Blk4 (w.alloc (.cells #[x, y, z, u] T)) w.heap.size T x y z u := heap_alloc_new w _
theorem Blk4.same (h : Blk4 w F T x y z u) (hk : w'.heap[F]? = w.heap[F]?) : Blk4 w' F T x y z u := hk.trans h
theorem Blk4.next (h : Blk4 w F T x y z u) (hb : Below w.heap.size w w') : Blk4 w' F T x y z u := h.same (hb.block F h.lt)
theorem Blk4.alloc (h : Blk4 w F T x y z u) (o : Obj) : Blk4 (w.alloc o) F T x y z u := h.same (Below.heap_alloc w o F h.lt)
theorem Blk4.drewN (h : Blk4 w F T x y z u) (k : Nat) : Blk4 (w.drewN k) F T x y z u := h
theorem Blk4.drew (h : Blk4 w F T x y z u) : Blk4 w.drew F T x y z u := h
theorem Blk4.kept {row : Option Nat} (h : Blk4 w F T x y z u) (hg : w.grownBy w' row) (hne : row ≠ some F) : Blk4 w' F T x y z u := h.same (hg.block F h.lt (fun e => hne e.symm))
theorem Blk4.setCell (h : Blk4 w F T x y z u) {p : Addr} (hp : p.block ≠ F) (v : Value) : Blk4 (w.setCell p v) F T x y z u := h.same (Below.heap_setCell w p v F (fun e => hp e.symm))
theorem Blk4.get (h : Blk4 w F T x y z u) (j : Nat) : w.cell? ⟨F, j, none⟩ = #[x, y, z, u][j]? := cell_of_row w F j _ T (0, 0) h
theorem Blk4.cell0 (h : Blk4 w F T x y z u) : w.cell? ⟨F, 0, none⟩ = some x := h.get 0
theorem Blk4.cell1 (h : Blk4 w F T x y z u) : w.cell? ⟨F, 1, none⟩ = some y := h.get 1
theorem Blk4.cell2 (h : Blk4 w F T x y z u) : w.cell? ⟨F, 2, none⟩ = some z := h.get 2
theorem Blk4.cell3 (h : Blk4 w F T x y z u) : w.cell? ⟨F, 3, none⟩ = some u := h.get 3
theorem Blk4.frozen (h : Blk4 w F T x y z u) (j : Nat) : w.frozen? ⟨F, j, none⟩ = false := by
  have h' : w.heap[F]? = some (.cells #[x, y, z, u] T (0, 0)) := h
  simp [World.frozen?, h']
theorem Blk4.set0 (h : Blk4 w F T x y z u) (v : Value) : Blk4 (w.setCell ⟨F, 0, none⟩ v) F T v y z u := heap_setCell_same w F 0 _ _ _ h
theorem Blk4.set1 (h : Blk4 w F T x y z u) (v : Value) : Blk4 (w.setCell ⟨F, 1, none⟩ v) F T x v z u := heap_setCell_same w F 1 _ _ _ h
theorem Blk4.set2 (h : Blk4 w F T x y z u) (v : Value) : Blk4 (w.setCell ⟨F, 2, none⟩ v) F T x y v u := heap_setCell_same w F 2 _ _ _ h
theorem Blk4.set3 (h : Blk4 w F T x y z u) (v : Value) : Blk4 (w.setCell ⟨F, 3, none⟩ v) F T x y z v := heap_setCell_same w F 3 _ _ _ h
/-- a row of elements of another type lies elsewhere -/
theorem Blk4.apart (h : Blk4 w F T x y z u) {base : Nat} {e : TypeId} {size n c : Nat} {A : Option Addr} {xs : List Value} (ho : Own w base e size A n c xs) (hT : e ≠ T) : blkOf A ≠ some F := by
  intro he
  have h' : w.heap[F]? = some (.cells #[x, y, z, u] T (0, 0)) := h
  rcases ho.2 with ⟨h1, _⟩ | ⟨g, cap, cur, h1, _, h3, _⟩
  · simp only [Value.slice.injEq] at h1
    rw [h1.1] at he
    cases he
  · simp only [Value.slice.injEq] at h1
    rw [h1.1] at he
    have hg : g = F := by simpa [blkOf] using he
    subst hg
    rw [h'] at h3
    simp only [Option.some.injEq, Obj.cells.injEq] at h3
    exact hT h3.2.1.symm
/-- two structs of two types lie in two blocks -/
theorem Blk4.two (h : Blk4 w F T x y z u) {F' : Nat} {T' : TypeId} {x' y' z' u' : Value} (h2 : Blk4 w F' T' x' y' z' u') (hT : T ≠ T') : F ≠ F' := by
  rintro rfl
  have h' : w.heap[F]? = some (.cells #[x, y, z, u] T (0, 0)) := h
  have h2' : w.heap[F]? = some (.cells #[x', y', z', u'] T' (0, 0)) := h2
  rw [h'] at h2'
  simp only [Option.some.injEq, Obj.cells.injEq] at h2'
  exact hT h2'.2.1
end
/-- two rows of elements of two types lie in two blocks -/
theorem Own.two {w : World} {base base' : Nat} {e e' : TypeId} {size size' n n' c c' : Nat} {A A' : Option Addr} {xs xs' : List Value} (h : Own w base e size A n c xs) (h2 : Own w base' e' size' A' n' c' xs') (he : e ≠ e') : blkOf A = none ∨ blkOf A ≠ blkOf A' := by
  rcases h.2 with ⟨h1, _⟩ | ⟨g, cap, cur, h1, _, h3, _⟩
  · simp only [Value.slice.injEq] at h1
    exact .inl (by rw [h1.1]; rfl)
  · refine .inr fun hA => ?_
    simp only [Value.slice.injEq] at h1
    rcases h2.2 with ⟨k1, _⟩ | ⟨g', cap', cur', k1, _, k3, _⟩
    · simp only [Value.slice.injEq] at k1
      rw [h1.1, k1.1] at hA
      cases hA
    · simp only [Value.slice.injEq] at k1
      rw [h1.1, k1.1] at hA
      have hg : g = g' := by simpa [blkOf] using hA
      subst hg
      rw [h3] at k3
      simp only [Option.some.injEq, Obj.cells.injEq] at k3
      exact he k3.2.1

end Go.Proofs.YtlcjdlnhniemcaaDoor
end
section
namespace Go.Proofs.YtlcjdlnhniemcaaDoor
open Go.RowKit

/-- the cells vs laid over a list from place o on -/
def overl (l : List Value) : Nat → List Value → List Value
  | _, [] => l
  | o, v :: r => overl (l.set o v) (o + 1) r
theorem overl_len : ∀ (vs : List Value) (l : List Value) (o : Nat), (overl l o vs).length = l.length
  | [], _, _ => rfl
  | v :: r, l, o => by rw [overl, overl_len r, List.length_set]
theorem overl_get : ∀ (vs : List Value) (l : List Value) (o j : Nat), o + vs.length ≤ l.length → (overl l o vs)[j]? = if o ≤ j ∧ j < o + vs.length then vs[j - o]? else l[j]?
  | [], l, o, j, _ => by rw [overl, if_neg (fun h => by have h2 := h.2; rw [List.length_nil] at h2; omega)]
  | v :: r, l, o, j, h => by
    rw [List.length_cons] at h
    rw [overl, overl_get r (l.set o v) (o + 1) j (by rw [List.length_set]; omega), List.length_cons]
    by_cases h1 : o + 1 ≤ j ∧ j < o + 1 + r.length
    · rw [if_pos h1, if_pos (by omega), show j - o = (j - (o + 1)) + 1 by omega, List.getElem?_cons_succ]
    · rw [if_neg h1]
      by_cases h2 : j = o
      · subst h2
        rw [if_pos (by omega), Nat.sub_self, List.getElem?_set_self (by omega)]; rfl
      · rw [if_neg (by omega), List.getElem?_set_ne (by omega)]
theorem overl_take {vs l : List Value} {o m : Nat} (h : o + vs.length ≤ l.length) (hm : m ≤ o) : (overl l o vs).take m = l.take m := by
  apply List.ext_getElem?
  intro j
  rw [List.getElem?_take, List.getElem?_take]
  by_cases hj : j < m
  · rw [if_pos hj, if_pos hj, overl_get _ _ _ _ h, if_neg (by omega)]
  · rw [if_neg hj, if_neg hj]
theorem overl_take2 {vs l : List Value} {o : Nat} (h : o + vs.length ≤ l.length) : (overl l o vs).take (o + vs.length) = l.take o ++ vs := by
  apply List.ext_getElem?
  intro j
  rw [List.getElem?_take]
  by_cases hj : j < o + vs.length
  · rw [if_pos hj, overl_get _ _ _ _ h]
    by_cases h1 : o ≤ j
    · rw [if_pos ⟨h1, hj⟩, List.getElem?_append_right (by rw [List.length_take]; omega), List.length_take, Nat.min_eq_left (by omega)]
    · rw [if_neg (by omega), List.getElem?_append_left (by rw [List.length_take]; omega), List.getElem?_take, if_pos (by omega)]
  · rw [if_neg hj, List.getElem?_eq_none (by rw [List.length_append, List.length_take]; omega)]

theorem heap_setCells_same (g : Nat) (e : TypeId) : ∀ (vs : List Value) (o : Nat) (w : World) (cur : Array Value), w.heap[g]? = some (.cells cur e (0, 0)) → (w.setCells g o vs).heap[g]? = some (.cells (overl cur.toList o vs).toArray e (0, 0))
  | [], _, w, cur, h => by rw [World.setCells, overl, h]
  | v :: r, o, w, cur, h => by
    rw [World.setCells, heap_setCells_same g e r (o + 1) _ (cur.set! o v) (heap_setCell_same w g o _ _ _ h), overl]
    rw [Array.set!_eq_setIfInBounds, Array.toList_setIfInBounds]
theorem keep_setCells (g : Nat) : ∀ (vs : List Value) (o : Nat) (w : World), (w.setCells g o vs).heap.size = w.heap.size ∧ (w.setCells g o vs).os = w.os ∧ (w.setCells g o vs).tape = w.tape ∧ (w.setCells g o vs).output = w.output ∧ ∀ k, k ≠ g → (w.setCells g o vs).heap[k]? = w.heap[k]?
  | [], _, w => ⟨rfl, rfl, rfl, rfl, fun _ _ => rfl⟩
  | v :: r, o, w => by
    obtain ⟨h1, h2, h3, h4, h5⟩ := keep_setCells g r (o + 1) (w.setCell ⟨g, o, none⟩ v)
    refine ⟨h1.trans (by simp [World.setCell]), h2, h3, h4, fun k hk => (h5 k hk).trans (Below.heap_setCell w _ _ k hk)⟩

section
variable {w : World} {base g : Nat} {e : TypeId} {size n c : Nat} {xs : List Value}
/-- cells stored within and behind what is owned: m elements are owned then -/
theorem Own.over (h : Own w base e size (Option.some ⟨g, 0, none⟩) n c xs) {o : Nat} {vs : List Value} (hv : o + vs.length ≤ n * size) (m : Nat) (hm : m * size ≤ o + vs.length) (hmc : m ≤ c) : Own (w.setCells g o vs) base e size (Option.some ⟨g, 0, none⟩) m c ((xs.take o ++ vs).take (m * size)) := by
  have hl := h.len
  refine ⟨by rw [List.length_take, List.length_append, List.length_take]; omega, .inr ?_⟩
  rcases h.2 with ⟨h1, _⟩ | ⟨g', cap, cur, h1, h2, h3, h4, h5, h6, h7⟩
  · simp at h1
  · simp only [Value.slice.injEq, Option.some.injEq, Addr.mk.injEq, and_true] at h1
    obtain ⟨rfl, _, rfl⟩ := h1
    have hle : n * size ≤ cur.toList.length := by
      have h8 := congrArg List.length h7
      rw [List.length_take, hl] at h8
      omega
    refine ⟨g, c, (overl cur.toList o vs).toArray, rfl, h2, heap_setCells_same g e vs o w cur h3, hmc, h5, ?_, ?_⟩
    · have h8 := overl_len vs cur.toList o
      simp only [List.size_toArray]
      rw [h8]
      simpa using h6
    · show (overl cur.toList o vs).take (m * size) = _
      rw [← h7, List.take_take, Nat.min_eq_left (by omega), ← overl_take2 (by omega), List.take_take, Nat.min_eq_left (by omega)]
/-- cells stored behind what is owned -/
theorem Own.past (h : Own w base e size (Option.some ⟨g, 0, none⟩) n c xs) {o : Nat} {vs : List Value} (ho : n * size ≤ o) (hc : o + vs.length ≤ c * size) : Own (w.setCells g o vs) base e size (Option.some ⟨g, 0, none⟩) n c xs := by
  refine ⟨h.1, .inr ?_⟩
  rcases h.2 with ⟨h1, _⟩ | ⟨g', cap, cur, h1, h2, h3, h4, h5, h6, h7⟩
  · simp at h1
  · simp only [Value.slice.injEq, Option.some.injEq, Addr.mk.injEq, and_true] at h1
    obtain ⟨rfl, _, rfl⟩ := h1
    refine ⟨g, c, (overl cur.toList o vs).toArray, rfl, h2, heap_setCells_same g e vs o w cur h3, h4, h5, ?_, ?_⟩
    · have h8 := overl_len vs cur.toList o
      simp only [List.size_toArray]
      rw [h8]
      simpa using h6
    · show (overl cur.toList o vs).take (n * size) = _
      have hq : o + vs.length ≤ cur.toList.length := by have h9 : cur.toList.length = cur.size := Array.length_toList; rw [h9, h6]; exact hc
      rw [← h7, overl_take hq ho]
theorem Own.there (h : Own w base e size (Option.some ⟨g, 0, none⟩) n c xs) {j : Nat} (hj : j < n * size) : (w.cell? ⟨g, j, none⟩).isSome = true := by
  have hl := h.len
  obtain ⟨g', e1, _, _, hc⟩ := h.cell (j := j) (List.getElem?_eq_getElem (by omega))
  simp only [Option.some.injEq, Addr.mk.injEq, and_true] at e1
  rw [e1, hc]; rfl
end

/-- clear(s) at elements of many cells -/
theorem run_clear_many {P : Program} (w : World) (t e ty : TypeId) (z : Value) (zs : List Value) (ht : P.underlying t = some (.slice e)) (hv : ∀ w, (zeroValue e).run P w = .ok z w) (n : Nat) (hz : (Builtin.zeroCells z.cells n).toList = zs) (h1 : ∀ u ∈ zs, u.oneCell' = true) (b o c : Nat) (hn : 0 < n)
    (hc : ∀ j, j < zs.length → (w.cell? ⟨b, o + j, none⟩).isSome = true) (hf : ∀ j, j < zs.length → w.frozen? ⟨b, o + j, none⟩ = false) :
    (Builtin.clear_ #[t] ty #[.slice (some ⟨b, o, none⟩) n c]).run P w = .ok (.tuple #[]) (w.setCells b o zs) := by
  have hst := run_storeCells_cells (P := P) b o zs 0 w (by simpa using hc) (by simpa using hf) h1
  simp only [Nat.add_zero] at hst
  obtain ⟨m, rfl⟩ : ∃ m, n = m + 1 := ⟨n - 1, by omega⟩
  simp [Builtin.clear_, run_underlying ht, hv, hz, hst]
end Go.Proofs.YtlcjdlnhniemcaaDoor
end
section
namespace Go.Proofs.YtlcjdlnhniemcaaDoor
open Go.RowKit

/-- two rows lie in two blocks -/
def Far (A A' : Option Addr) : Prop := ∀ k, blkOf A = some k → blkOf A' ≠ some k
theorem Far.symm {A A' : Option Addr} (h : Far A A') : Far A' A := fun k hk hA => h k hA hk
theorem Far.none (A : Option Addr) : Far Option.none A := fun k hk => by cases hk
theorem Far.none' (A : Option Addr) : Far A Option.none := (Far.none A).symm
/-- what stays of a world: all but these blocks -/
structure Stays (w w' : World) (No : Nat → Prop) : Prop where
  os : w'.os = w.os
  tape : w'.tape = w.tape
  output : w'.output = w.output
  size : w.heap.size ≤ w'.heap.size
  block : ∀ k, k < w.heap.size → ¬ No k → w'.heap[k]? = w.heap[k]?
section
variable {w w' w2 : World} {No No2 : Nat → Prop}
theorem Stays.refl (w : World) (No : Nat → Prop) : Stays w w No := ⟨rfl, rfl, rfl, Nat.le_refl _, fun _ _ _ => rfl⟩
theorem Stays.trans (h : Stays w w' No) (h2 : Stays w' w2 No2) (hn : ∀ k, k < w.heap.size → No2 k → No k) : Stays w w2 No :=
  ⟨h2.os.trans h.os, h2.tape.trans h.tape, h2.output.trans h.output, Nat.le_trans h.size h2.size, fun k hk hN => (h2.block k (Nat.lt_of_lt_of_le hk h.size) (fun h3 => hN (hn k hk h3))).trans (h.block k hk hN)⟩
theorem Stays.mono (h : Stays w w' No) (hn : ∀ k, k < w.heap.size → No k → No2 k) : Stays w w' No2 := ⟨h.os, h.tape, h.output, h.size, fun k hk hN => h.block k hk (fun h3 => hN (hn k hk h3))⟩
theorem Stays.grew {A A' : Option Addr} (h : Grew w w' A A') : Stays w w' (fun k => blkOf A = some k) := ⟨h.grown.os, h.grown.tape, h.grown.output, h.grown.size, fun k hk hN => h.grown.block k hk (fun e => hN e.symm)⟩
theorem Stays.set (w : World) (b o : Nat) (v : Value) : Stays w (w.setCell ⟨b, o, Option.none⟩ v) (fun k => k = b) := ⟨rfl, rfl, rfl, by simp [World.setCell], fun k _ hN => Below.heap_setCell w _ _ k hN⟩
theorem Stays.sets (w : World) (b o : Nat) (vs : List Value) : Stays w (w.setCells b o vs) (fun k => k = b) := by
  obtain ⟨h1, h2, h3, h4, h5⟩ := keep_setCells b vs o w
  exact ⟨h2, h3, h4, Nat.le_of_eq h1.symm, fun k _ hN => h5 k hN⟩
theorem Stays.below {B : Nat} (h : Stays w w' No) (hB : B ≤ w.heap.size) (hn : ∀ k, No k → B ≤ k) : Below B w w' := by
  exact ⟨h.os, h.tape, h.output, h.size, fun k hk => h.block k (Nat.lt_of_lt_of_le hk hB) (fun h3 => Nat.lt_irrefl _ (Nat.lt_of_lt_of_le hk (hn k h3)))⟩
section
variable {base n c : Nat} {e : TypeId} {size : Nat} {A : Option Addr} {xs : List Value} {F : Nat} {T : TypeId} {x y z u : Value}
theorem Own.stays (h : Own w base e size A n c xs) (hs : Stays w w' No) (hn : ∀ k, blkOf A = Option.some k → ¬ No k) : Own w' base e size A n c xs := by
  refine ⟨h.1, ?_⟩
  have hlt := h.lt
  rcases h.2 with h2 | ⟨g, cap, cur, h1, h2, h3, h4⟩
  · exact .inl h2
  · simp only [Value.slice.injEq] at h1
    have hg : blkOf A = Option.some g := by rw [h1.1]; rfl
    exact .inr ⟨g, cap, cur, by simp only [Value.slice.injEq]; exact h1, h2, (hs.block g (hlt g hg).2 (hn g hg)).trans h3, h4⟩
theorem Blk4.stays (h : Blk4 w F T x y z u) (hs : Stays w w' No) (hn : ¬ No F) : Blk4 w' F T x y z u := h.same (hs.block F h.lt hn)
/-- a row that grew lies apart from a row that was there -/
theorem Grew.far {A1 B : Option Addr} (h : Grew w w' A A1) (hf : Far A B) (hB : ∀ k, blkOf B = Option.some k → k < w.heap.size) : Far A1 B := by
  intro k hk hb
  rcases h.blk with h1 | ⟨g, hg, h1⟩
  · exact hf k (h1 ▸ hk) hb
  · rw [h1] at hk
    cases hk
    have := hB _ hb
    omega
end
end
theorem Stays.of_below {w w' : World} (h : Below w.heap.size w w') (No : Nat → Prop) : Stays w w' No := ⟨h.os, h.tape, h.output, h.size, fun k hk _ => h.block k hk⟩
theorem Stays.comp {w w1 w2 : World} {No : Nat → Prop} (h : Stays w w1 No) (h2 : Stays w1 w2 No) : Stays w w2 No := h.trans h2 fun _ _ h => h
theorem Stays.join {w w1 w2 : World} {N1 N2 : Nat → Prop} (h : Stays w w1 N1) (h2 : Stays w1 w2 N2) : Stays w w2 (fun k => N1 k ∨ N2 k) := (h.mono (No2 := fun k => N1 k ∨ N2 k) (fun _ _ h => .inl h)).trans h2 (fun _ _ h => .inr h)
end Go.Proofs.YtlcjdlnhniemcaaDoor
end
section
namespace Go.Proofs.YtlcjdlnhniemcaaDoor
open Go.RowKit

/-- the block F holds these cells -/
def BlkA (w : World) (F : Nat) (T : TypeId) (cs : Array Value) : Prop := w.heap[F]? = some (.cells cs T (0, 0))
section
variable {w w' : World} {F : Nat} {T : TypeId} {cs : Array Value} {No : Nat → Prop}
theorem BlkA.lt (h : BlkA w F T cs) : F < w.heap.size := (Array.getElem?_eq_some_iff.1 h).1
theorem BlkA.new (w : World) (T : TypeId) (cs : Array Value) : BlkA (w.alloc (.cells cs T)) w.heap.size T cs := heap_alloc_new w _
theorem BlkA.same (h : BlkA w F T cs) (hk : w'.heap[F]? = w.heap[F]?) : BlkA w' F T cs := hk.trans h
theorem BlkA.next (h : BlkA w F T cs) (hb : Below w.heap.size w w') : BlkA w' F T cs := h.same (hb.block F h.lt)
theorem BlkA.below {B : Nat} (h : BlkA w F T cs) (hb : Below B w w') (hF : F < B) : BlkA w' F T cs := h.same (hb.block F hF)
theorem BlkA.alloc (h : BlkA w F T cs) (o : Obj) : BlkA (w.alloc o) F T cs := h.same (Below.heap_alloc w o F h.lt)
theorem BlkA.drewN (h : BlkA w F T cs) (k : Nat) : BlkA (w.drewN k) F T cs := h
theorem BlkA.drew (h : BlkA w F T cs) : BlkA w.drew F T cs := h
theorem BlkA.kept {row : Option Nat} (h : BlkA w F T cs) (hg : w.grownBy w' row) (hne : row ≠ some F) : BlkA w' F T cs := h.same (hg.block F h.lt (fun e => hne e.symm))
theorem BlkA.setCell (h : BlkA w F T cs) {p : Addr} (hp : p.block ≠ F) (v : Value) : BlkA (w.setCell p v) F T cs := h.same (Below.heap_setCell w p v F (fun e => hp e.symm))
theorem BlkA.stays (h : BlkA w F T cs) (hs : Stays w w' No) (hn : ¬ No F) : BlkA w' F T cs := h.same (hs.block F h.lt hn)
theorem BlkA.get (h : BlkA w F T cs) (j : Nat) : w.cell? ⟨F, j, none⟩ = cs[j]? := cell_of_row w F j _ T (0, 0) h
theorem BlkA.frozen (h : BlkA w F T cs) (j : Nat) : w.frozen? ⟨F, j, none⟩ = false := by
  have h' : w.heap[F]? = some (.cells cs T (0, 0)) := h
  simp [World.frozen?, h']
theorem BlkA.set (h : BlkA w F T cs) (j : Nat) (v : Value) : BlkA (w.setCell ⟨F, j, none⟩ v) F T (cs.set! j v) := heap_setCell_same w F j _ _ _ h
theorem BlkA.apart (h : BlkA w F T cs) {base : Nat} {e : TypeId} {size n c : Nat} {A : Option Addr} {xs : List Value} (ho : Own w base e size A n c xs) (hT : e ≠ T) : blkOf A ≠ some F := by
  intro he
  have h' : w.heap[F]? = some (.cells cs T (0, 0)) := h
  rcases ho.2 with ⟨h1, _⟩ | ⟨g, cap, cur, h1, _, h3, _⟩
  · simp only [Value.slice.injEq] at h1
    rw [h1.1] at he
    cases he
  · simp only [Value.slice.injEq] at h1
    rw [h1.1] at he
    have hg : g = F := by simpa [blkOf] using he
    subst hg
    rw [h'] at h3
    simp only [Option.some.injEq, Obj.cells.injEq] at h3
    exact hT h3.2.1.symm
theorem BlkA.two (h : BlkA w F T cs) {F' : Nat} {T' : TypeId} {cs' : Array Value} (h2 : BlkA w F' T' cs') (hT : T ≠ T') : F ≠ F' := by
  rintro rfl
  have h' : w.heap[F]? = some (.cells cs T (0, 0)) := h
  have h2' : w.heap[F]? = some (.cells cs' T' (0, 0)) := h2
  rw [h'] at h2'
  simp only [Option.some.injEq, Obj.cells.injEq] at h2'
  exact hT h2'.2.1
end
theorem after_alloc {w1 w2 : World} {cs : Array Value} {T : TypeId} (hb : Below (w1.alloc (.cells cs T)).heap.size (w1.alloc (.cells cs T)) w2) : BlkA w2 w1.heap.size T cs ∧ w1.heap.size < w2.heap.size := by
  have h := (BlkA.new w1 T cs).next hb
  exact ⟨h, h.lt⟩
theorem after_allocD {w1 w2 : World} {cs : Array Value} {T : TypeId} (hb : Below (w1.alloc (.cells cs T)).drew.heap.size (w1.alloc (.cells cs T)).drew w2) : BlkA w2 w1.heap.size T cs ∧ w1.heap.size < w2.heap.size := by
  have h := (BlkA.new w1 T cs).drew.next hb
  exact ⟨h, h.lt⟩
theorem after_allocN {w1 w2 : World} {cs : Array Value} {T : TypeId} {k : Nat} (hb : Below ((w1.alloc (.cells cs T)).drewN k).heap.size ((w1.alloc (.cells cs T)).drewN k) w2) : BlkA w2 w1.heap.size T cs ∧ w1.heap.size < w2.heap.size := by
  have h := ((BlkA.new w1 T cs).drewN k).next hb
  exact ⟨h, h.lt⟩
end Go.Proofs.YtlcjdlnhniemcaaDoor
end
section
namespace Go.Proofs.YtlcjdlnhniemcaaDoor
open Go.RowKit

/-- two places of a row: the old block, or a new one -/
def Anew (w : World) (A1 A : Option Addr) : Prop := blkOf A1 = blkOf A ∨ ∃ k, w.heap.size ≤ k ∧ blkOf A1 = some k
theorem Anew.refl (w : World) (A : Option Addr) : Anew w A A := .inl rfl
theorem Anew.trans {w w1 : World} {A A1 A2 : Option Addr} (h : Anew w A1 A) (h2 : Anew w1 A2 A1) (hs : w.heap.size ≤ w1.heap.size) : Anew w A2 A := by
  rcases h2 with e | ⟨k, h3, e⟩
  · unfold Anew; rw [e]; exact h
  · exact .inr ⟨k, by omega, e⟩
theorem Anew.of_grew {w w' : World} {A A' : Option Addr} (h : Grew w w' A A') : Anew w A' A := h.blk
theorem Anew.below {w w1 : World} {A A1 : Option Addr} (h : Anew w1 A1 A) (hs : w.heap.size ≤ w1.heap.size) : Anew w A1 A := h.imp id fun ⟨k, a, b⟩ => ⟨k, by omega, b⟩
theorem Anew.inf {w : World} {A A1 : Option Addr} (h : Anew w A1 A) {k : Nat} (hk : blkOf A1 = some k) : blkOf A = some k ∨ w.heap.size ≤ k := by
  rcases h with e | ⟨g, h1, e⟩
  · exact .inl (e ▸ hk)
  · rw [e] at hk; cases hk; exact .inr h1
/-- the row lies where the other one lay, or in a new block, or nowhere -/
def Newer (w : World) (A1 A : Option Addr) : Prop := ∀ k, blkOf A1 = some k → blkOf A = some k ∨ w.heap.size ≤ k
theorem Newer.refl (w : World) (A : Option Addr) : Newer w A A := fun _ h => .inl h
theorem Newer.of {w : World} {A1 A : Option Addr} (h : Anew w A1 A) : Newer w A1 A := fun _ hk => h.inf hk
theorem Newer.trans {w w1 : World} {A A1 A2 : Option Addr} (h : Newer w A1 A) (h2 : Newer w1 A2 A1) (hs : w.heap.size ≤ w1.heap.size) : Newer w A2 A := fun k hk => (h2 k hk).elim (h k) (fun h => .inr (by omega))
theorem Newer.grew {w w' : World} {A A' : Option Addr} (h : Grew w w' A A') : Newer w A' A := Newer.of (Anew.of_grew h)
theorem Stays.grown {w w' : World} {r : Nat} (hg : w.grownBy w' (some r)) : Stays w w' (fun k => k = r) := ⟨hg.os, hg.tape, hg.output, hg.size, fun k hk hn => hg.block k hk (fun e => hn (by cases e; rfl))⟩
end Go.Proofs.YtlcjdlnhniemcaaDoor
end
