/- A struct in a block of its own, whole, of whatever cells: read, stored, kept. No condition. -/
import Derived.Test.YtdldfllllgogoaaStay
namespace Go.Proofs.Ytdldfllllgogoaa
open Go.RowKit

/-- the block F holds these cells -/
def BlkA (w : World) (F : Nat) (T : TypeId) (cs : Array Value) : Prop := w.heap[F]? = some (.cells cs T (0, 0))
section
variable {w w' : World} {F : Nat} {T : TypeId} {cs : Array Value} {No : Nat → Prop}
theorem BlkA.lt (h : BlkA w F T cs) : F < w.heap.size := (Array.getElem?_eq_some_iff.1 h).1
theorem BlkA.new (w : World) (T : TypeId) (cs : Array Value) : BlkA (w.alloc (.cells cs T)) w.heap.size T cs := heap_alloc_new w _
theorem BlkA.same (h : BlkA w F T cs) (hk : w'.heap[F]? = w.heap[F]?) : BlkA w' F T cs := hk.trans h
theorem BlkA.next (h : BlkA w F T cs) (hb : Below w.heap.size w w') : BlkA w' F T cs := h.same (hb.block F h.lt)
theorem BlkA.below {B : Nat} (h : BlkA w F T cs) (hb : Below B w w') (hF : F < B) : BlkA w' F T cs := h.same (hb.block F hF)
theorem BlkA.alloc (h : BlkA w F T cs) (o : Obj) : BlkA (w.alloc o) F T cs := h.same (Below.heap_alloc w o F h.lt)
theorem BlkA.drewN (h : BlkA w F T cs) (k : Nat) : BlkA (w.drewN k) F T cs := h
theorem BlkA.drew (h : BlkA w F T cs) : BlkA w.drew F T cs := h
theorem BlkA.kept {row : Option Nat} (h : BlkA w F T cs) (hg : w.grownBy w' row) (hne : row ≠ some F) : BlkA w' F T cs := h.same (hg.block F h.lt (fun e => hne e.symm))
theorem BlkA.setCell (h : BlkA w F T cs) {p : Addr} (hp : p.block ≠ F) (v : Value) : BlkA (w.setCell p v) F T cs := h.same (Below.heap_setCell w p v F (fun e => hp e.symm))
theorem BlkA.stays (h : BlkA w F T cs) (hs : Stays w w' No) (hn : ¬ No F) : BlkA w' F T cs := h.same (hs.block F h.lt hn)
theorem BlkA.get (h : BlkA w F T cs) (j : Nat) : w.cell? ⟨F, j, none⟩ = cs[j]? := cell_of_row w F j _ T (0, 0) h
theorem BlkA.frozen (h : BlkA w F T cs) (j : Nat) : w.frozen? ⟨F, j, none⟩ = false := by
  have h' : w.heap[F]? = some (.cells cs T (0, 0)) := h
  simp [World.frozen?, h']
theorem BlkA.set (h : BlkA w F T cs) (j : Nat) (v : Value) : BlkA (w.setCell ⟨F, j, none⟩ v) F T (cs.set! j v) := heap_setCell_same w F j _ _ _ h
theorem BlkA.apart (h : BlkA w F T cs) {base : Nat} {e : TypeId} {size n c : Nat} {A : Option Addr} {xs : List Value} (ho : Own w base e size A n c xs) (hT : e ≠ T) : blkOf A ≠ some F := by
  intro he
  have h' : w.heap[F]? = some (.cells cs T (0, 0)) := h
  rcases ho.2 with ⟨h1, _⟩ | ⟨g, cap, cur, h1, _, h3, _⟩
  · simp only [Value.slice.injEq] at h1
    rw [h1.1] at he
    cases he
  · simp only [Value.slice.injEq] at h1
    rw [h1.1] at he
    have hg : g = F := by simpa [blkOf] using he
    subst hg
    rw [h'] at h3
    simp only [Option.some.injEq, Obj.cells.injEq] at h3
    exact hT h3.2.1.symm
theorem BlkA.two (h : BlkA w F T cs) {F' : Nat} {T' : TypeId} {cs' : Array Value} (h2 : BlkA w F' T' cs') (hT : T ≠ T') : F ≠ F' := by
  rintro rfl
  have h' : w.heap[F]? = some (.cells cs T (0, 0)) := h
  have h2' : w.heap[F]? = some (.cells cs' T' (0, 0)) := h2
  rw [h'] at h2'
  simp only [Option.some.injEq, Obj.cells.injEq] at h2'
  exact hT h2'.2.1
end
end Go.Proofs.Ytdldfllllgogoaa
