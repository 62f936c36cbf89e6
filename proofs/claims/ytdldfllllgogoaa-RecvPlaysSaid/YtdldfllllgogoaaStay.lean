/- What stays of a world: all but some blocks. No condition. -/
import Derived.Test.YtdldfllllgogoaaBlk
import Derived.Test.YtdldfllllgogoaaDel
namespace Go.Proofs.Ytdldfllllgogoaa
open Go.RowKit

/-- two rows lie in two blocks -/
def Far (A A' : Option Addr) : Prop := ∀ k, blkOf A = some k → blkOf A' ≠ some k
theorem Far.symm {A A' : Option Addr} (h : Far A A') : Far A' A := fun k hk hA => h k hA hk
theorem Far.none (A : Option Addr) : Far Option.none A := fun k hk => by cases hk
theorem Far.none' (A : Option Addr) : Far A Option.none := (Far.none A).symm
/-- what stays of a world: all but these blocks -/
structure Stays (w w' : World) (No : Nat → Prop) : Prop where
  os : w'.os = w.os
  tape : w'.tape = w.tape
  output : w'.output = w.output
  size : w.heap.size ≤ w'.heap.size
  block : ∀ k, k < w.heap.size → ¬ No k → w'.heap[k]? = w.heap[k]?
section
variable {w w' w2 : World} {No No2 : Nat → Prop}
theorem Stays.refl (w : World) (No : Nat → Prop) : Stays w w No := ⟨rfl, rfl, rfl, Nat.le_refl _, fun _ _ _ => rfl⟩
theorem Stays.trans (h : Stays w w' No) (h2 : Stays w' w2 No2) (hn : ∀ k, k < w.heap.size → No2 k → No k) : Stays w w2 No :=
  ⟨h2.os.trans h.os, h2.tape.trans h.tape, h2.output.trans h.output, Nat.le_trans h.size h2.size, fun k hk hN => (h2.block k (Nat.lt_of_lt_of_le hk h.size) (fun h3 => hN (hn k hk h3))).trans (h.block k hk hN)⟩
theorem Stays.mono (h : Stays w w' No) (hn : ∀ k, k < w.heap.size → No k → No2 k) : Stays w w' No2 := ⟨h.os, h.tape, h.output, h.size, fun k hk hN => h.block k hk (fun h3 => hN (hn k hk h3))⟩
theorem Stays.grew {A A' : Option Addr} (h : Grew w w' A A') : Stays w w' (fun k => blkOf A = some k) := ⟨h.grown.os, h.grown.tape, h.grown.output, h.grown.size, fun k hk hN => h.grown.block k hk (fun e => hN e.symm)⟩
theorem Stays.set (w : World) (b o : Nat) (v : Value) : Stays w (w.setCell ⟨b, o, Option.none⟩ v) (fun k => k = b) := ⟨rfl, rfl, rfl, by simp [World.setCell], fun k _ hN => Below.heap_setCell w _ _ k hN⟩
theorem Stays.sets (w : World) (b o : Nat) (vs : List Value) : Stays w (w.setCells b o vs) (fun k => k = b) := by
  obtain ⟨h1, h2, h3, h4, h5⟩ := keep_setCells b vs o w
  exact ⟨h2, h3, h4, Nat.le_of_eq h1.symm, fun k _ hN => h5 k hN⟩
theorem Stays.below {B : Nat} (h : Stays w w' No) (hB : B ≤ w.heap.size) (hn : ∀ k, No k → B ≤ k) : Below B w w' := by
  exact ⟨h.os, h.tape, h.output, h.size, fun k hk => h.block k (Nat.lt_of_lt_of_le hk hB) (fun h3 => Nat.lt_irrefl _ (Nat.lt_of_lt_of_le hk (hn k h3)))⟩
section
variable {base n c : Nat} {e : TypeId} {size : Nat} {A : Option Addr} {xs : List Value} {F : Nat} {T : TypeId} {x y z u : Value}
theorem Own.stays (h : Own w base e size A n c xs) (hs : Stays w w' No) (hn : ∀ k, blkOf A = Option.some k → ¬ No k) : Own w' base e size A n c xs := by
  refine ⟨h.1, ?_⟩
  have hlt := h.lt
  rcases h.2 with h2 | ⟨g, cap, cur, h1, h2, h3, h4⟩
  · exact .inl h2
  · simp only [Value.slice.injEq] at h1
    have hg : blkOf A = Option.some g := by rw [h1.1]; rfl
    exact .inr ⟨g, cap, cur, by simp only [Value.slice.injEq]; exact h1, h2, (hs.block g (hlt g hg).2 (hn g hg)).trans h3, h4⟩
theorem Blk4.stays (h : Blk4 w F T x y z u) (hs : Stays w w' No) (hn : ¬ No F) : Blk4 w' F T x y z u := h.same (hs.block F h.lt hn)
/-- a row that grew lies apart from a row that was there -/
theorem Grew.far {A1 B : Option Addr} (h : Grew w w' A A1) (hf : Far A B) (hB : ∀ k, blkOf B = Option.some k → k < w.heap.size) : Far A1 B := by
  intro k hk hb
  rcases h.blk with h1 | ⟨g, hg, h1⟩
  · exact hf k (h1 ▸ hk) hb
  · rw [h1] at hk
    cases hk
    have := hB _ hb
    omega
end
end
theorem Stays.of_below {w w' : World} (h : Below w.heap.size w w') (No : Nat → Prop) : Stays w w' No := ⟨h.os, h.tape, h.output, h.size, fun k hk _ => h.block k hk⟩
theorem Stays.comp {w w1 w2 : World} {No : Nat → Prop} (h : Stays w w1 No) (h2 : Stays w1 w2 No) : Stays w w2 No := h.trans h2 fun _ _ h => h
theorem Stays.join {w w1 w2 : World} {N1 N2 : Nat → Prop} (h : Stays w w1 N1) (h2 : Stays w1 w2 N2) : Stays w w2 (fun k => N1 k ∨ N2 k) := (h.mono (No2 := fun k => N1 k ∨ N2 k) (fun _ _ h => .inl h)).trans h2 (fun _ _ h => .inr h)
end Go.Proofs.Ytdldfllllgogoaa
