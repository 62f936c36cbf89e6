/- Package glob: the reference's rows of items. No condition. -/
import Derived.Test.YtldoihbblgnpjaaGlob9
import Derived.Test.YtldoihbblgnpjaaTail
namespace Go.Proofs.Ytldoihbblgnpjaa
open Go.RowKit

theorem gl.elemR : ElemT Try.prog 38 54 4 40 := ElemT.of Try.underlying38 (z := .agg #[.int .u8 0, .int .u8 0, .slice none 0 0, .bool false]) (by kernel_rfl) rfl (by decide)
theorem gl.elemPr : ElemT Try.prog 52 56 2 2 := ElemT.of Try.underlying52 (z := .agg #[.int .u8 0, .int .u8 0]) (by kernel_rfl) rfl (by decide)
theorem gl.pcells_len (x : UInt8 × UInt8) : (gl.pcells x).length = 2 := rfl
theorem Own.pairs {w : World} {base : Nat} {e : TypeId} {A : Option Addr} {n c : Nat} {l : List (UInt8 × UInt8)} (h : Own w base e 2 A n c (l.flatMap gl.pcells)) : n = l.length ∧ SlRep gl.prep w (fun k => base ≤ k ∧ k < w.heap.size) l A c :=
  Own.flat (R := gl.prep) gl.pcells rfl (fun _ _ => gl.prep_iff.2 rfl) (by decide) h
theorem gl.own_same {w w' : World} {base : Nat} {e : TypeId} {size n c : Nat} {A : Option Addr} {xs : List Value} (h : Own w base e size A n c xs) (hk : ∀ g, blkOf A = Option.some g → w'.heap[g]? = w.heap[g]?) : Own w' base e size A n c xs := by
  refine ⟨h.1, ?_⟩
  rcases h.2 with h2 | ⟨g, cap, cur, h1, h2, h3, h4⟩
  · exact .inl h2
  · simp only [Value.slice.injEq] at h1
    obtain ⟨rfl, h5, h6⟩ := h1
    exact .inr ⟨g, cap, cur, by simp [h6], h2, (hk g rfl).trans h3, h4⟩
/-- the items gathered so far -/
def gl.ItemsAt (w : World) (base : Nat) (A : Option Addr) (c : Nat) (acc : List gl.Item) : Prop :=
  ∃ xs, Own w base 54 4 A acc.length c xs ∧ RowsOf gl.rrep w (fun k => base ≤ k ∧ k < w.heap.size ∧ blkOf A ≠ some k) acc xs
theorem gl.ItemsAt.nil (w : World) (base : Nat) : gl.ItemsAt w base none 0 [] := ⟨[], Own.nil _ _ _ _, rfl⟩
theorem gl.ItemsAt.keep {w w' : World} {base : Nat} {A : Option Addr} {c : Nat} {acc : List gl.Item} (h : gl.ItemsAt w base A c acc) (hk : ∀ k, base ≤ k → k < w.heap.size → w'.heap[k]? = w.heap[k]?) (hs : w.heap.size ≤ w'.heap.size) : gl.ItemsAt w' base A c acc := by
  obtain ⟨xs, h1, h2⟩ := h
  exact ⟨xs, gl.own_same h1 (fun g hg => hk g (h1.lt g hg).1 (h1.lt g hg).2), h2.keep fun k hS => ⟨⟨hS.1, by omega, hS.2.2⟩, hk k hS.1 hS.2.1⟩⟩
theorem gl.ItemsAt.next {w w' : World} {base : Nat} {A : Option Addr} {c : Nat} {acc : List gl.Item} (h : gl.ItemsAt w base A c acc) (hb : Below w.heap.size w w') : gl.ItemsAt w' base A c acc := h.keep (fun k _ hk => hb.block k hk) hb.size
theorem gl.ItemsAt.lt {w : World} {base : Nat} {A : Option Addr} {c : Nat} {acc : List gl.Item} (h : gl.ItemsAt w base A c acc) : ∀ k, blkOf A = some k → base ≤ k ∧ k < w.heap.size := fun k hk => by
  obtain ⟨xs, h1, _⟩ := h
  exact h1.lt k hk
/-- one more -/
theorem gl.ItemsAt.snoc {w W w' : World} {base : Nat} {A A' : Option Addr} {c c' : Nat} {acc : List gl.Item} {it : gl.Item} {cs : List Value} (h : gl.ItemsAt w base A c acc) (hW : Below w.heap.size w W) (hg : Grew W w' A A') {xs : List Value} (hx : Own w base 54 4 A acc.length c xs ∧ RowsOf gl.rrep w (fun k => base ≤ k ∧ k < w.heap.size ∧ blkOf A ≠ some k) acc xs)
    (ho : Own w' base 54 4 A' (acc.length + 1) c' (xs ++ cs)) (hi : gl.rrep.rep w (fun k => base ≤ k ∧ k < w.heap.size ∧ blkOf A ≠ some k) it cs) : gl.ItemsAt w' base A' c' (acc ++ [it]) := by
  have hs := hW.size
  have hs2 := hg.grown.size
  have key : ∀ k, (base ≤ k ∧ k < w.heap.size ∧ blkOf A ≠ some k) → (base ≤ k ∧ k < w'.heap.size ∧ blkOf A' ≠ some k) ∧ w'.heap[k]? = w.heap[k]? := fun k ⟨h1, h2, h3⟩ => by
    refine ⟨⟨h1, by omega, fun e => ?_⟩, ?_⟩
    · rcases hg.blk with e1 | ⟨g, e1, e2⟩
      · exact h3 (e1 ▸ e)
      · rw [e2] at e
        cases e
        omega
    · exact (hg.grown.block k (by omega) (fun e => h3 e.symm)).trans (hW.block k h2)
  refine ⟨xs ++ cs, by rw [List.length_append]; exact ho, RowsOf.snoc (gl.rrep.mono hi key) (hx.2.keep key)⟩
theorem gl.ItemsAt.rep {w : World} {base : Nat} {A : Option Addr} {c : Nat} {acc : List gl.Item} (h : gl.ItemsAt w base A c acc) : SlRep gl.rrep w (· < w.heap.size) acc A c := by
  obtain ⟨xs, h1, h2⟩ := h
  exact (h2.rep (S' := (· < w.heap.size)) rfl (by decide) (fun k hk => hk.2.1) h1 (fun k hk => (h1.lt k hk).2)).2
theorem gl.plain_rep {w : World} {S : Nat → Prop} {it : gl.Item} (h : gl.rs it = []) (cs : List Value) (hc : cs = [.int .u8 (gl.kind it).toNat, .int .u8 (gl.lone it).toNat, .slice none 0 0, .bool (gl.neg it)]) : gl.rrep.rep w S it cs :=
  gl.rrep_iff.2 ⟨none, 0, by rw [hc, h]; rfl, by rw [h]; exact ⟨Nat.le_refl _, Nat.zero_le _, .inl rfl⟩⟩
/-- a set that is being read: its struct in block p = wr.heap.size, its ranges in a row of their own -/
structure gl.SetS (wr w5 : World) (rs : List (UInt8 × UInt8)) (Ar : Option Addr) (cr : Nat) (no : Bool) : Prop where
  c0 : w5.cell? ⟨wr.heap.size, 0, none⟩ = some (.int .u8 91)
  c1 : w5.cell? ⟨wr.heap.size, 1, none⟩ = some (.int .u8 0)
  c2 : w5.cell? ⟨wr.heap.size, 2, none⟩ = some (.slice Ar rs.length cr)
  c3 : w5.cell? ⟨wr.heap.size, 3, none⟩ = some (.bool no)
  fz : ∀ o, w5.frozen? ⟨wr.heap.size, o, none⟩ = false
  own : Own w5 (wr.heap.size + 1) 56 2 Ar rs.length cr (rs.flatMap gl.pcells)
  bel : Below wr.heap.size wr w5
  lt : wr.heap.size < w5.heap.size
section
variable {wr w5 w6 w7 : World} {rs : List (UInt8 × UInt8)} {Ar : Option Addr} {cr : Nat} {no : Bool}
theorem gl.SetS.next (h : gl.SetS wr w5 rs Ar cr no) (hb : Below w5.heap.size w5 w6) : gl.SetS wr w6 rs Ar cr no := by
  have hp := hb.block _ h.lt
  exact ⟨(World.cell?_of_block hp).trans h.c0, (World.cell?_of_block hp).trans h.c1, (World.cell?_of_block hp).trans h.c2, (World.cell?_of_block hp).trans h.c3, fun o => (World.frozen?_of_block hp).trans (h.fz o), h.own.next hb, bnext h.bel hb, Nat.lt_of_lt_of_le h.lt hb.size⟩
theorem gl.SetS.neg (h : gl.SetS wr w5 rs Ar cr no) (v : Bool) : gl.SetS wr (w5.setCell ⟨wr.heap.size, 3, none⟩ (.bool v)) rs Ar cr v :=
  ⟨(set_other _ (by simp)).trans h.c0, (set_other _ (by simp)).trans h.c1, (set_other _ (by simp)).trans h.c2, World.cell?_setCell_same' _ _ _ (by rw [h.c3]; rfl), fun o => by rw [World.frozen?_setCell]; exact h.fz o,
    h.own.setCell (fun e => by have := (h.own.lt _ e).1; simp only at this; omega) _, h.bel.setCell (p := ⟨wr.heap.size, 3, none⟩) (Nat.le_refl _) _, by simpa using h.lt⟩
theorem gl.SetS.range (h : gl.SetS wr w5 rs Ar cr no) {A7 : Option Addr} {c7 : Nat} (x : UInt8 × UInt8) (hb : Below w5.heap.size w5 w6) (hg : Grew w6 w7 Ar A7) (ho : Own w7 (wr.heap.size + 1) 56 2 A7 (rs.length + 1) c7 (rs.flatMap gl.pcells ++ gl.pcells x)) :
    gl.SetS wr (w7.setCell ⟨wr.heap.size, 2, none⟩ (.slice A7 (rs.length + 1) c7)) (rs ++ [x]) A7 c7 no := by
  have h6 := h.next hb
  have hlt6 := h6.lt
  have hne : ∀ k, blkOf Ar = some k → k ≠ wr.heap.size := fun k hk => by have := (h6.own.lt k hk).1; omega
  have hp : w7.heap[wr.heap.size]? = w6.heap[wr.heap.size]? := hg.grown.block _ hlt6 (fun e => hne _ e.symm rfl)
  have hs7 := hg.grown.size
  have hA7 : blkOf A7 ≠ some wr.heap.size := fun e => by have := (ho.lt _ e).1; omega
  refine ⟨?_, ?_, ?_, ?_, fun o => ?_, ?_, ?_, ?_⟩
  · exact (set_other _ (by simp)).trans ((World.cell?_of_block hp).trans h6.c0)
  · exact (set_other _ (by simp)).trans ((World.cell?_of_block hp).trans h6.c1)
  · rw [List.length_append]
    exact World.cell?_setCell_same' _ _ _ (by rw [World.cell?_of_block (a := ⟨wr.heap.size, 2, none⟩) hp, h6.c2]; rfl)
  · exact (set_other _ (by simp)).trans ((World.cell?_of_block hp).trans h6.c3)
  · rw [World.frozen?_setCell]
    exact (World.frozen?_of_block hp).trans (h6.fz o)
  · rw [List.length_append, List.flatMap_append, List.flatMap_singleton]
    exact ho.setCell hA7 _
  · exact (Grew.step h6.bel hg (fun k hk => by have := (h6.own.lt k hk).1; omega)).setCell (p := ⟨wr.heap.size, 2, none⟩) (Nat.le_refl _) _
  · simp only [World.size_setCell]
    omega
theorem gl.SetS.box (h : gl.SetS wr w5 rs Ar cr no) {b : Nat} {v : Value} (hb : wr.cell? ⟨b, 0, none⟩ = some v) : w5.cell? ⟨b, 0, none⟩ = some v := (h.bel.cell (p := ⟨b, 0, none⟩) (World.block_lt_of_cell? wr _ hb)).trans hb
end
theorem gl.SetS.start (wr : World) : gl.SetS wr (wr.alloc (.cells #[.int .u8 91, .int .u8 0, .slice none 0 0, .bool false] 54)) [] none 0 false :=
  ⟨by simp [go_sem], by simp [go_sem], by simp [go_sem], by simp [go_sem], fun o => by simp [go_sem], Own.nil _ _ _ _, (Below.refl _ _).alloc (Nat.le_refl _) _, by simp⟩
end Go.Proofs.Ytldoihbblgnpjaa
