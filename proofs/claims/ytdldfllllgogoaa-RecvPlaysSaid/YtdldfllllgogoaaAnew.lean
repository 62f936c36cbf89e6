/- Two places of a row: the old block, or a new one. No condition. -/
import Derived.Test.YtdldfllllgogoaaStay
namespace Go.Proofs.Ytdldfllllgogoaa
open Go.RowKit

/-- two places of a row: the old block, or a new one -/
def Anew (w : World) (A1 A : Option Addr) : Prop := blkOf A1 = blkOf A ∨ ∃ k, w.heap.size ≤ k ∧ blkOf A1 = some k
theorem Anew.refl (w : World) (A : Option Addr) : Anew w A A := .inl rfl
theorem Anew.trans {w w1 : World} {A A1 A2 : Option Addr} (h : Anew w A1 A) (h2 : Anew w1 A2 A1) (hs : w.heap.size ≤ w1.heap.size) : Anew w A2 A := by
  rcases h2 with e | ⟨k, h3, e⟩
  · unfold Anew; rw [e]; exact h
  · exact .inr ⟨k, by omega, e⟩
theorem Anew.of_grew {w w' : World} {A A' : Option Addr} (h : Grew w w' A A') : Anew w A' A := h.blk
theorem Anew.below {w w1 : World} {A A1 : Option Addr} (h : Anew w1 A1 A) (hs : w.heap.size ≤ w1.heap.size) : Anew w A1 A := h.imp id fun ⟨k, a, b⟩ => ⟨k, by omega, b⟩
theorem Anew.inf {w : World} {A A1 : Option Addr} (h : Anew w A1 A) {k : Nat} (hk : blkOf A1 = some k) : blkOf A = some k ∨ w.heap.size ≤ k := by
  rcases h with e | ⟨g, h1, e⟩
  · exact .inl (e ▸ hk)
  · rw [e] at hk; cases hk; exact .inr h1
/-- the row lies where the other one lay, or in a new block, or nowhere -/
def Newer (w : World) (A1 A : Option Addr) : Prop := ∀ k, blkOf A1 = some k → blkOf A = some k ∨ w.heap.size ≤ k
theorem Newer.refl (w : World) (A : Option Addr) : Newer w A A := fun _ h => .inl h
theorem Newer.of {w : World} {A1 A : Option Addr} (h : Anew w A1 A) : Newer w A1 A := fun _ hk => h.inf hk
theorem Newer.trans {w w1 : World} {A A1 A2 : Option Addr} (h : Newer w A1 A) (h2 : Newer w1 A2 A1) (hs : w.heap.size ≤ w1.heap.size) : Newer w A2 A := fun k hk => (h2 k hk).elim (h k) (fun h => .inr (by omega))
theorem Newer.grew {w w' : World} {A A' : Option Addr} (h : Grew w w' A A') : Newer w A' A := Newer.of (Anew.of_grew h)
end Go.Proofs.Ytdldfllllgogoaa
