/- A struct of four cells in a block of its own, whole: read, stored, kept. No condition. -/
import Derived.Test.YtdldfllllgogoaaRowOf
namespace Go.Proofs.Ytdldfllllgogoaa
open Go.RowKit

/-- the block F holds these four cells -/
def Blk4 (w : World) (F : Nat) (T : TypeId) (x y z u : Value) : Prop := w.heap[F]? = some (.cells #[x, y, z, u] T (0, 0))
section
variable {w w' : World} {F : Nat} {T : TypeId} {x y z u : Value}
theorem Blk4.lt (h : Blk4 w F T x y z u) : F < w.heap.size := (Array.getElem?_eq_some_iff.1 h).1
theorem Blk4.new (w : World) (T : TypeId) (x y z u : Value) : Blk4 (w.alloc (.cells #[x, y, z, u] T)) w.heap.size T x y z u := heap_alloc_new w _
theorem Blk4.same (h : Blk4 w F T x y z u) (hk : w'.heap[F]? = w.heap[F]?) : Blk4 w' F T x y z u := hk.trans h
theorem Blk4.next (h : Blk4 w F T x y z u) (hb : Below w.heap.size w w') : Blk4 w' F T x y z u := h.same (hb.block F h.lt)
theorem Blk4.alloc (h : Blk4 w F T x y z u) (o : Obj) : Blk4 (w.alloc o) F T x y z u := h.same (Below.heap_alloc w o F h.lt)
theorem Blk4.drewN (h : Blk4 w F T x y z u) (k : Nat) : Blk4 (w.drewN k) F T x y z u := h
theorem Blk4.drew (h : Blk4 w F T x y z u) : Blk4 w.drew F T x y z u := h
theorem Blk4.kept {row : Option Nat} (h : Blk4 w F T x y z u) (hg : w.grownBy w' row) (hne : row ≠ some F) : Blk4 w' F T x y z u := h.same (hg.block F h.lt (fun e => hne e.symm))
theorem Blk4.setCell (h : Blk4 w F T x y z u) {p : Addr} (hp : p.block ≠ F) (v : Value) : Blk4 (w.setCell p v) F T x y z u := h.same (Below.heap_setCell w p v F (fun e => hp e.symm))
theorem Blk4.get (h : Blk4 w F T x y z u) (j : Nat) : w.cell? ⟨F, j, none⟩ = #[x, y, z, u][j]? := cell_of_row w F j _ T (0, 0) h
theorem Blk4.cell0 (h : Blk4 w F T x y z u) : w.cell? ⟨F, 0, none⟩ = some x := h.get 0
theorem Blk4.cell1 (h : Blk4 w F T x y z u) : w.cell? ⟨F, 1, none⟩ = some y := h.get 1
theorem Blk4.cell2 (h : Blk4 w F T x y z u) : w.cell? ⟨F, 2, none⟩ = some z := h.get 2
theorem Blk4.cell3 (h : Blk4 w F T x y z u) : w.cell? ⟨F, 3, none⟩ = some u := h.get 3
theorem Blk4.frozen (h : Blk4 w F T x y z u) (j : Nat) : w.frozen? ⟨F, j, none⟩ = false := by
  have h' : w.heap[F]? = some (.cells #[x, y, z, u] T (0, 0)) := h
  simp [World.frozen?, h']
theorem Blk4.set0 (h : Blk4 w F T x y z u) (v : Value) : Blk4 (w.setCell ⟨F, 0, none⟩ v) F T v y z u := heap_setCell_same w F 0 _ _ _ h
theorem Blk4.set1 (h : Blk4 w F T x y z u) (v : Value) : Blk4 (w.setCell ⟨F, 1, none⟩ v) F T x v z u := heap_setCell_same w F 1 _ _ _ h
theorem Blk4.set2 (h : Blk4 w F T x y z u) (v : Value) : Blk4 (w.setCell ⟨F, 2, none⟩ v) F T x y v u := heap_setCell_same w F 2 _ _ _ h
theorem Blk4.set3 (h : Blk4 w F T x y z u) (v : Value) : Blk4 (w.setCell ⟨F, 3, none⟩ v) F T x y z v := heap_setCell_same w F 3 _ _ _ h
/-- a row of elements of another type lies elsewhere -/
theorem Blk4.apart (h : Blk4 w F T x y z u) {base : Nat} {e : TypeId} {size n c : Nat} {A : Option Addr} {xs : List Value} (ho : Own w base e size A n c xs) (hT : e ≠ T) : blkOf A ≠ some F := by
  intro he
  have h' : w.heap[F]? = some (.cells #[x, y, z, u] T (0, 0)) := h
  rcases ho.2 with ⟨h1, _⟩ | ⟨g, cap, cur, h1, _, h3, _⟩
  · simp only [Value.slice.injEq] at h1
    rw [h1.1] at he
    cases he
  · simp only [Value.slice.injEq] at h1
    rw [h1.1] at he
    have hg : g = F := by simpa [blkOf] using he
    subst hg
    rw [h'] at h3
    simp only [Option.some.injEq, Obj.cells.injEq] at h3
    exact hT h3.2.1.symm
/-- two structs of two types lie in two blocks -/
theorem Blk4.two (h : Blk4 w F T x y z u) {F' : Nat} {T' : TypeId} {x' y' z' u' : Value} (h2 : Blk4 w F' T' x' y' z' u') (hT : T ≠ T') : F ≠ F' := by
  rintro rfl
  have h' : w.heap[F]? = some (.cells #[x, y, z, u] T (0, 0)) := h
  have h2' : w.heap[F]? = some (.cells #[x', y', z', u'] T' (0, 0)) := h2
  rw [h'] at h2'
  simp only [Option.some.injEq, Obj.cells.injEq] at h2'
  exact hT h2'.2.1
end
/-- two rows of elements of two types lie in two blocks -/
theorem Own.two {w : World} {base base' : Nat} {e e' : TypeId} {size size' n n' c c' : Nat} {A A' : Option Addr} {xs xs' : List Value} (h : Own w base e size A n c xs) (h2 : Own w base' e' size' A' n' c' xs') (he : e ≠ e') : blkOf A = none ∨ blkOf A ≠ blkOf A' := by
  rcases h.2 with ⟨h1, _⟩ | ⟨g, cap, cur, h1, _, h3, _⟩
  · simp only [Value.slice.injEq] at h1
    exact .inl (by rw [h1.1]; rfl)
  · refine .inr fun hA => ?_
    simp only [Value.slice.injEq] at h1
    rcases h2.2 with ⟨k1, _⟩ | ⟨g', cap', cur', k1, _, k3, _⟩
    · simp only [Value.slice.injEq] at k1
      rw [h1.1, k1.1] at hA
      cases hA
    · simp only [Value.slice.injEq] at k1
      rw [h1.1, k1.1] at hA
      have hg : g = g' := by simpa [blkOf] using hA
      subst hg
      rw [h3] at k3
      simp only [Option.some.injEq, Obj.cells.injEq] at k3
      exact he k3.2.1

/-- what is asked for, as cells -/
def wantCells (l : List Want) : List Value := l.flatMap fun w => [.int .i64 w.at_, .int .i64 w.count]
theorem wantCells_len (l : List Want) : (wantCells l).length = l.length * 2 := by
  induction l with
  | nil => rfl
  | cons a r ih => unfold wantCells at *; rw [List.flatMap_cons, List.length_append, ih]; simp; omega
theorem wantCells_app (l m : List Want) : wantCells (l ++ m) = wantCells l ++ wantCells m := by unfold wantCells; rw [List.flatMap_append]
theorem wantCells_one (a b : Int) : wantCells [⟨a, b⟩] = [.int .i64 a, .int .i64 b] := rfl
theorem wantCells_at : ∀ {l : List Want} {i : Nat} {a : Want}, l[i]? = some a → (wantCells l)[i * 2]? = some (.int .i64 a.at_) ∧ (wantCells l)[i * 2 + 1]? = some (.int .i64 a.count)
  | [], i, a, h => by simp at h
  | b :: r, 0, a, h => by
    simp at h
    subst h
    exact ⟨rfl, rfl⟩
  | b :: r, i + 1, a, h => by
    have h2 := wantCells_at (l := r) (i := i) (a := a) (by simpa using h)
    have e : wantCells (b :: r) = [.int .i64 b.at_, .int .i64 b.count] ++ wantCells r := rfl
    rw [e, List.getElem?_append_right (by simp; omega), List.getElem?_append_right (by simp; omega), List.length_cons, List.length_cons, List.length_nil, show (i + 1) * 2 - (0 + 1 + 1) = i * 2 by omega, show (i + 1) * 2 + 1 - (0 + 1 + 1) = i * 2 + 1 by omega]
    exact h2
theorem wantCells_take (l : List Want) (i : Nat) : (wantCells l).take (i * 2) = wantCells (l.take i) := by
  induction l generalizing i with
  | nil => simp [wantCells]
  | cons a r ih =>
    cases i with
    | zero => simp [wantCells]
    | succ i =>
      have e : ∀ r, wantCells (a :: r) = .int .i64 a.at_ :: .int .i64 a.count :: wantCells r := fun _ => rfl
      rw [List.take_succ_cons, e, e, ← ih, show (i + 1) * 2 = i * 2 + 1 + 1 by omega, List.take_succ_cons, List.take_succ_cons]
theorem wantCells_drop (l : List Want) (i : Nat) : (wantCells l).drop (i * 2) = wantCells (l.drop i) := by
  induction l generalizing i with
  | nil => simp [wantCells]
  | cons a r ih =>
    cases i with
    | zero => simp [wantCells]
    | succ i =>
      have e : wantCells (a :: r) = .int .i64 a.at_ :: .int .i64 a.count :: wantCells r := rfl
      rw [List.drop_succ_cons, e, ← ih, show (i + 1) * 2 = i * 2 + 1 + 1 by omega, List.drop_succ_cons, List.drop_succ_cons]
end Go.Proofs.Ytdldfllllgogoaa
