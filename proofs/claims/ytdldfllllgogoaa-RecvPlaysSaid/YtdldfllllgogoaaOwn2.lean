/- Rows of structs that the call makes: read as lists. No condition. -/
import Derived.Test.YtdldfllllgogoaaOwn
namespace Go.Proofs.Ytdldfllllgogoaa
open Go.RowKit

theorem Cells.newAt (w : World) (t : TypeId) (xs : List Value) {b : Nat} (hb : b = w.heap.size) : Cells (w.alloc (.cells xs.toArray t)) (some ⟨b, 0, none⟩) xs := by
  subst hb
  exact Cells.new w t xs

theorem Grew.cell {w w' : World} {A A' : Option Addr} (h : Grew w w' A A') {b : Nat} (o : Nat) (hb : b < w.heap.size) (hne : ∀ k, blkOf A = some k → k ≠ b) : w'.cell? ⟨b, o, none⟩ = w.cell? ⟨b, o, none⟩ :=
  World.cell?_of_block (h.grown.block b hb (fun e => hne b e.symm rfl))
theorem Grew.frozen {w w' : World} {A A' : Option Addr} (h : Grew w w' A A') {b : Nat} (o : Nat) (hb : b < w.heap.size) (hne : ∀ k, blkOf A = some k → k ≠ b) : w'.frozen? ⟨b, o, none⟩ = w.frozen? ⟨b, o, none⟩ :=
  World.frozen?_of_block (h.grown.block b hb (fun e => hne b e.symm rfl))

theorem flatMap_at {α : Type} (f : α → List Value) (size : Nat) (hf : ∀ a, (f a).length = size) : ∀ (l : List α) (i : Nat) (y : α), l[i]? = some y → ∀ j, j < size → (l.flatMap f)[i * size + j]? = (f y)[j]?
  | [], i, y, h, j, _ => by simp at h
  | x :: r, 0, y, h, j, hj => by
    simp at h
    subst h
    rw [List.flatMap_cons, Nat.zero_mul, Nat.zero_add, List.getElem?_append_left (by rw [hf]; exact hj)]
  | x :: r, i + 1, y, h, j, hj => by
    rw [List.flatMap_cons, List.getElem?_append_right (by rw [hf, Nat.succ_mul]; omega), hf, show (i + 1) * size + j - size = i * size + j by rw [Nat.succ_mul]; omega]
    exact flatMap_at f size hf r i y (by simpa using h) j hj
theorem flatMap_len {α : Type} (f : α → List Value) (size : Nat) (hf : ∀ a, (f a).length = size) : ∀ l : List α, (l.flatMap f).length = l.length * size
  | [] => by simp
  | x :: r => by rw [List.flatMap_cons, List.length_append, hf, flatMap_len f size hf r, List.length_cons, Nat.succ_mul, Nat.add_comm]

theorem Own.flat {w : World} {base : Nat} {e : TypeId} {A : Option Addr} {n c size : Nat} {α : Type} {R : Rep α} (enc : α → List Value) (hR : R.size = size) (henc : ∀ (S : Nat → Prop) (a : α), R.rep w S a (enc a)) (hpos : 0 < size) {l : List α}
    (h : Own w base e size A n c (l.flatMap enc)) : n = l.length ∧ SlRep R w (fun k => base ≤ k ∧ k < w.heap.size) l A c := by
  subst hR
  have hf : ∀ a, (enc a).length = R.size := fun a => R.len (henc (fun _ => True) a)
  have hn : n = l.length := by
    have h1 := h.len
    rw [flatMap_len enc R.size hf] at h1
    exact (Nat.eq_of_mul_eq_mul_right hpos h1).symm
  refine ⟨hn, ⟨by have := h.cap; omega, h.cap.2, ?_⟩⟩
  cases l with
  | nil => exact .inl rfl
  | cons x r =>
    have h0 : ((x :: r).flatMap enc)[0]? = some ((enc x)[0]'(by rw [hf]; exact hpos)) := by
      have := flatMap_at enc R.size hf (x :: r) 0 x rfl 0 hpos
      rw [Nat.zero_mul, Nat.zero_add] at this
      rw [this, List.getElem?_eq_getElem]
    obtain ⟨g, rfl, h1, h2, _⟩ := h.cell h0
    refine .inr ⟨g, 0, rfl, ⟨h1, h2⟩, fun i y hy => ⟨enc y, henc _ y, fun j u hu => ?_⟩⟩
    have hj : j < R.size := by rw [← hf y]; exact (List.getElem?_eq_some_iff.1 hu).1
    obtain ⟨g', e1, _, _, hc⟩ := h.cell (j := i * R.size + j) (u := u) (by rw [flatMap_at enc R.size hf _ i y hy j hj]; exact hu)
    simp only [Option.some.injEq, Addr.mk.injEq, and_true] at e1
    subst e1
    rw [Nat.zero_add]
    exact hc

theorem SlRep.cells_flat {w : World} {S : Nat → Prop} {α : Type} {R : Rep α} {l : List α} {A : Option Addr} {c size : Nat} (enc : α → List Value) (hR : R.size = size) (hinv : ∀ a cs, R.rep w S a cs → cs = enc a) (henc : ∀ a, (enc a).length = size) (hpos : 0 < size)
    (h : SlRep R w S l A c) : Cells w A (l.flatMap enc) := by
  subst hR
  rcases h.2.2 with rfl | ⟨b, o, rfl, _, hr⟩
  · exact .inl rfl
  · refine .inr ⟨b, o, rfl, fun j u hu => ?_⟩
    have hj : j < l.length * R.size := by rw [← flatMap_len enc R.size henc]; exact (List.getElem?_eq_some_iff.1 hu).1
    have hi : j / R.size < l.length := (Nat.div_lt_iff_lt_mul hpos).2 hj
    have hy : l[j / R.size]? = some (l[j / R.size]'hi) := List.getElem?_eq_getElem hi
    obtain ⟨cs, hcs, hc⟩ := hr _ _ hy
    rw [hinv _ _ hcs] at hc
    have hm : j % R.size < R.size := Nat.mod_lt _ hpos
    have hdm : j / R.size * R.size + j % R.size = j := by rw [Nat.mul_comm]; exact Nat.div_add_mod j R.size
    have := flatMap_at enc R.size henc l _ _ hy (j % R.size) hm
    rw [hdm, hu] at this
    have h2 := hc (j % R.size) u this.symm
    rw [Nat.add_assoc, hdm] at h2
    exact h2
end Go.Proofs.Ytdldfllllgogoaa
