/- Texts in one: Coll, ListRes. No condition. -/
import Derived.Test.YtlcjdlnhniemcaaDoorMgA
section
namespace Go.Proofs.YtlcjdlnhniemcaaDoor
open Go.RowKit

/-- the play's own blocks, apart from the row A and from what is played with -/
def Aside (w : World) (base : Nat) (A : Option Addr) (Fp : Nat → Prop) (k : Nat) : Prop := base ≤ k ∧ k < w.heap.size ∧ blkOf A ≠ some k ∧ ¬ Fp k
structure Coll {α : Type} (R : Rep α) (w : World) (base : Nat) (T : TypeId) (size : Nat) (A : Option Addr) (n c : Nat) (Fp : Nat → Prop) (L : List α) (xs : List Value) : Prop where
  own : Own w base T size A n c xs
  rows : RowsOf R w (Aside w base A Fp) L xs
  far : ∀ k, blkOf A = some k → ¬ Fp k
section
variable {α : Type} {R : Rep α} {w w' wa w2 : World} {base : Nat} {T : TypeId} {size n c n2 c2 : Nat} {A A2 : Option Addr} {Fp Fp' : Nat → Prop} {L : List α} {xs : List Value}
theorem Coll.nil (w : World) (base : Nat) (T : TypeId) (size : Nat) (Fp : Nat → Prop) : Coll R w base T size none 0 0 Fp [] [] := ⟨Own.nil _ _ _ _, RowsOf.nil, fun k hk => by cases hk⟩
theorem Coll.stays (h : Coll R w base T size A n c Fp L xs) (hs : Stays w w' Fp) (hF : ∀ k, Fp' k → Fp k ∨ w.heap.size ≤ k) : Coll R w' base T size A n c Fp' L xs where
  own := h.own.stays hs h.far
  rows := h.rows.keep fun k hk => ⟨⟨hk.1, Nat.lt_of_lt_of_le hk.2.1 hs.size, hk.2.2.1, fun h2 => (hF k h2).elim hk.2.2.2 (fun h3 => absurd hk.2.1 (Nat.not_lt.2 h3))⟩, hs.block k hk.2.1 hk.2.2.2⟩
  far := fun k hk h2 => (hF k h2).elim (h.far k hk) (fun h3 => absurd (h.own.lt k hk).2 (Nat.not_lt.2 h3))
theorem Coll.next (h : Coll R w base T size A n c Fp L xs) (hb : Below w.heap.size w w') : Coll R w' base T size A n c Fp L xs :=
  h.stays ⟨hb.os, hb.tape, hb.output, hb.size, fun k hk _ => hb.block k hk⟩ fun _ h => .inl h
theorem Coll.push (h : Coll R w base T size A n c Fp L xs) {a : α} {cs : List Value} (ha : R.rep w (Aside w base A Fp) a cs) (hb : Below w.heap.size w wa) (hg : Grew wa w2 A A2) (ho : Own w2 base T size A2 n2 c2 (xs ++ cs)) (hFp : ∀ k, Fp k → k < w.heap.size) : Coll R w2 base T size A2 n2 c2 Fp (L ++ [a]) (xs ++ cs) := by
  have key : ∀ k, Aside w base A Fp k → Aside w2 base A2 Fp k ∧ w2.heap[k]? = w.heap[k]? := fun k hk => by
    have h1 : k < wa.heap.size := Nat.lt_of_lt_of_le hk.2.1 hb.size
    refine ⟨⟨hk.1, Nat.lt_of_lt_of_le h1 hg.grown.size, fun e => ?_, hk.2.2.2⟩, (hg.grown.block k h1 (fun e => hk.2.2.1 e.symm)).trans (hb.block k hk.2.1)⟩
    rcases hg.blk with e1 | ⟨g, hg1, e1⟩
    · exact hk.2.2.1 (e1 ▸ e)
    · rw [e1] at e
      cases e
      omega
  refine ⟨ho, RowsOf.snoc (R.mono ha key) (h.rows.keep key), fun k hk hF => ?_⟩
  rcases hg.blk with e1 | ⟨g, hg1, e1⟩
  · exact h.far k (e1 ▸ hk) hF
  · rw [e1] at hk
    cases hk
    have := hFp _ hF
    have := hb.size
    omega
theorem Coll.rep (h : Coll R w base T size A n c Fp L xs) (hsz : R.size = size) (hpos : 0 < size) : n = L.length ∧ SlRep R w (fun k => base ≤ k ∧ k < w.heap.size) L A c :=
  RowsOf.rep h.rows hsz hpos (fun k hk => ⟨hk.1, hk.2.1⟩) h.own (fun k hk => h.own.lt k hk)
end
/-- a reading that leads to no further blocks is a reading at whatever blocks -/
def Flat {α : Type} (R : Rep α) : Prop := ∀ (w : World) (S S' : Nat → Prop) (a : α) (cs : List Value), R.rep w S a cs → R.rep w S' a cs
theorem flat_int : Flat Rep.int := fun _ _ _ _ _ h => h
theorem flat_u8 : Flat Rep.u8 := fun _ _ _ _ _ h => h
theorem flat_str : Flat Rep.str := fun _ _ _ _ _ h => h
theorem SlRep.tight {α : Type} {R : Rep α} (hR : Flat R) {w : World} {S : Nat → Prop} {l : List α} {A : Option Addr} {c : Nat} (h : SlRep R w S l A c) : SlRep R w (fun k => blkOf A = some k) l A c := by
  obtain ⟨h1, h2, h3⟩ := h
  refine ⟨h1, h2, h3.imp id fun ⟨b, o, e, hb, hr⟩ => ⟨b, o, e, by rw [e]; rfl, fun i a hi => ?_⟩⟩
  obtain ⟨cs, k1, k2⟩ := hr i a hi
  exact ⟨cs, hR _ _ _ _ _ k1, k2⟩
theorem SlRep.within {α : Type} {R : Rep α} {w : World} {S S' : Nat → Prop} {l : List α} {A : Option Addr} {c : Nat} (h : SlRep R w S l A c) (hS : ∀ k, S k → S' k) : SlRep R w S' l A c := h.keep fun k hk => ⟨hS k hk, rfl⟩
end Go.Proofs.YtlcjdlnhniemcaaDoor
end
section
namespace Go.Proofs.YtlcjdlnhniemcaaDoor
open Go.RowKit

def RowsRes {α : Type} (R : Rep α) (r : Except Int (List α)) (w : World) (e : Ending) (w' : World) : Prop :=
  ∃ A c, e = .returned (.tuple #[.slice A (exL r).length c, .int .i64 (exC r)]) ∧ SlRep R w' (fun k => w.heap.size ≤ k ∧ k < w'.heap.size) (exL r) A c ∧ Below w.heap.size w w'
theorem RowsRes.no {α : Type} {R : Rep α} {r : Except Int (List α)} {c : Int} (h : r = .error c) {w w' : World} (hb : Below w.heap.size w w') : RowsRes R r w (.returned (.tuple #[.slice none 0 0, .int .i64 c])) w' := by
  subst h
  exact ⟨none, 0, rfl, ⟨Nat.le_refl _, Nat.zero_le _, .inl rfl⟩, hb⟩
theorem RowsRes.yes {α : Type} {R : Rep α} {r : Except Int (List α)} {L : List α} (h : r = .ok L) {w w' : World} {A : Option Addr} {n c : Nat} (hn : n = L.length) (ho : SlRep R w' (fun k => w.heap.size ≤ k ∧ k < w'.heap.size) L A c) (hb : Below w.heap.size w w') : RowsRes R r w (.returned (.tuple #[.slice A n c, .int .i64 0])) w' := by
  subst h
  subst hn
  exact ⟨A, c, rfl, ho, hb⟩
end Go.Proofs.YtlcjdlnhniemcaaDoor
end
