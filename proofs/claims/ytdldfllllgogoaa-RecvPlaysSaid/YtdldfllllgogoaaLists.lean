/- Rows of slices: lists of lists of bytes that a call makes; slices.Concat on rows of bytes. No condition. -/
import Derived.Test.YtdldfllllgogoaaSl
import Derived.Lib.AppendZerosOnto
namespace Go.Proofs.Ytdldfllllgogoaa
open Go.RowKit

/-- the call's own blocks other than the row A -/
def Apart (w : World) (base : Nat) (A : Option Addr) (k : Nat) : Prop := base ≤ k ∧ k < w.heap.size ∧ blkOf A ≠ some k
theorem SlRep.grew {α : Type} {R : Rep α} {w w' : World} {base : Nat} {A A' : Option Addr} {l : List α} {B : Option Addr} {c : Nat} (h : SlRep R w (Apart w base A) l B c) (hg : Grew w w' A A') : SlRep R w' (Apart w' base A') l B c :=
  h.keep fun k hk => ⟨⟨hk.1, Nat.lt_of_lt_of_le hk.2.1 hg.grown.size, fun e => by
    rcases hg.blk with e' | ⟨g, hg', e'⟩
    · exact hk.2.2 (e' ▸ e)
    · rw [e'] at e
      cases e
      exact absurd hk.2.1 (by omega)⟩, hg.grown.block k hk.2.1 (fun e => hk.2.2 e.symm)⟩
theorem SlRep.apart_next {α : Type} {R : Rep α} {w w' : World} {base : Nat} {A : Option Addr} {l : List α} {B : Option Addr} {c : Nat} (h : SlRep R w (Apart w base A) l B c) (hb : Below w.heap.size w w') : SlRep R w' (Apart w' base A) l B c :=
  h.keep fun k hk => ⟨⟨hk.1, Nat.lt_of_lt_of_le hk.2.1 hb.size, hk.2.2⟩, hb.block k hk.2.1⟩
theorem SlRep.to_apart {α : Type} {R : Rep α} {w : World} {base b0 : Nat} {A : Option Addr} {l : List α} {B : Option Addr} {c : Nat} (h : SlRep R w (fun k => b0 ≤ k ∧ k < w.heap.size) l B c) (hb : base ≤ b0) (hA : ∀ k, blkOf A = some k → k < b0) : SlRep R w (Apart w base A) l B c :=
  h.keep fun k hk => ⟨⟨by omega, hk.2, fun e => by have := hA k e; omega⟩, rfl⟩
theorem SlRep.of_apart {α : Type} {R : Rep α} {w : World} {base : Nat} {A : Option Addr} {l : List α} {B : Option Addr} {c : Nat} (h : SlRep R w (Apart w base A) l B c) : SlRep R w (fun k => base ≤ k ∧ k < w.heap.size) l B c :=
  h.keep fun k hk => ⟨⟨hk.1, hk.2.1⟩, rfl⟩

/-- cells that hold slices in blocks of S, which read as L -/
def RowsIn (w : World) (S : Nat → Prop) (L : List (List UInt8)) (xs : List Value) : Prop :=
  xs.length = L.length ∧ ∀ (i : Nat) (l : List UInt8), L[i]? = some l → ∃ Ai ci, xs[i]? = some (Value.slice Ai l.length ci) ∧ SlRep Rep.u8 w S l Ai ci
theorem RowsIn.nil (w : World) (S : Nat → Prop) : RowsIn w S [] [] := ⟨rfl, fun i l h => by simp at h⟩
theorem RowsIn.keep {w w' : World} {S S' : Nat → Prop} {L : List (List UInt8)} {xs : List Value} (h : RowsIn w S L xs) (hk : ∀ k, S k → S' k ∧ w'.heap[k]? = w.heap[k]?) : RowsIn w' S' L xs :=
  ⟨h.1, fun i l hl => let ⟨Ai, ci, h1, h2⟩ := h.2 i l hl; ⟨Ai, ci, h1, h2.keep hk⟩⟩
theorem RowsIn.snoc {w : World} {S : Nat → Prop} {L : List (List UInt8)} {xs : List Value} (h : RowsIn w S L xs) {l : List UInt8} {B : Option Addr} {n c : Nat} (hn : n = l.length) (hl : SlRep Rep.u8 w S l B c) : RowsIn w S (L ++ [l]) (xs ++ [.slice B n c]) := by
  subst hn
  refine ⟨by simp [h.1], fun i x hx => ?_⟩
  rcases Nat.lt_or_ge i L.length with hi | hi
  · rw [List.getElem?_append_left hi] at hx
    obtain ⟨Ai, ci, h1, h2⟩ := h.2 i x hx
    exact ⟨Ai, ci, by rw [List.getElem?_append_left (by rw [h.1]; exact hi)]; exact h1, h2⟩
  · have hi' : i = L.length := by
      have := (List.getElem?_eq_some_iff.1 hx).1
      simp at this
      omega
    subst hi'
    rw [List.getElem?_append_right (Nat.le_refl _)] at hx
    simp at hx
    subst hx
    exact ⟨B, c, by rw [List.getElem?_append_right (by rw [h.1]; exact Nat.le_refl _), h.1]; simp, hl⟩
theorem RowsIn.rep {w : World} {base : Nat} {S : Nat → Prop} {e : TypeId} {A : Option Addr} {n c : Nat} {L : List (List UInt8)} {xs : List Value} (h : RowsIn w S L xs) (hS : ∀ k, S k → base ≤ k ∧ k < w.heap.size) (ho : Own w base e 1 A n c xs) : n = L.length ∧ SlRep (Rep.slice Rep.u8) w (fun k => base ≤ k ∧ k < w.heap.size) L A c := by
  have hn : n = L.length := by have := ho.len; rw [h.1, Nat.mul_one] at this; exact this.symm
  refine ⟨hn, ⟨by have := ho.cap; omega, ho.cap.2, ?_⟩⟩
  cases L with
  | nil => exact .inl rfl
  | cons y r =>
    obtain ⟨A0, c0, h0, _⟩ := h.2 0 y rfl
    obtain ⟨g, rfl, h1, h2, _⟩ := ho.cell h0
    refine .inr ⟨g, 0, rfl, ⟨h1, h2⟩, fun i z hz => ?_⟩
    obtain ⟨Ai, ci, h3, h4⟩ := h.2 i z hz
    obtain ⟨g', e1, _, _, hc⟩ := ho.cell h3
    simp only [Option.some.injEq, Addr.mk.injEq, and_true] at e1
    subst e1
    refine ⟨_, rep_slice_val.2 ⟨rfl, h4.keep fun k hk => ⟨hS k hk, rfl⟩⟩, fun j u hu => ?_⟩
    have hj : j = 0 := by have := (List.getElem?_eq_some_iff.1 hu).1; simp at this; omega
    subst hj
    simp at hu
    subst hu
    simpa [Rep.slice] using hc
def RowsAt (w : World) (base : Nat) (A : Option Addr) (L : List (List UInt8)) (xs : List Value) : Prop := RowsIn w (Apart w base A) L xs
theorem RowsAt.nil (w : World) (base : Nat) (A : Option Addr) : RowsAt w base A [] [] := RowsIn.nil _ _
theorem Apart.grew {w w' : World} {base : Nat} {A A' : Option Addr} (hg : Grew w w' A A') : ∀ k, Apart w base A k → Apart w' base A' k ∧ w'.heap[k]? = w.heap[k]? := fun k hk =>
  ⟨⟨hk.1, Nat.lt_of_lt_of_le hk.2.1 hg.grown.size, fun e => by
    rcases hg.blk with e' | ⟨g, hg', e'⟩
    · exact hk.2.2 (e' ▸ e)
    · rw [e'] at e
      cases e
      exact absurd hk.2.1 (by omega)⟩, hg.grown.block k hk.2.1 (fun e => hk.2.2 e.symm)⟩
theorem Apart.next {w w' : World} {base : Nat} {A : Option Addr} (hb : Below w.heap.size w w') : ∀ k, Apart w base A k → Apart w' base A k ∧ w'.heap[k]? = w.heap[k]? := fun k hk =>
  ⟨⟨hk.1, Nat.lt_of_lt_of_le hk.2.1 hb.size, hk.2.2⟩, hb.block k hk.2.1⟩
theorem RowsAt.grew {w w' : World} {base : Nat} {A A' : Option Addr} {L : List (List UInt8)} {xs : List Value} (h : RowsAt w base A L xs) (hg : Grew w w' A A') : RowsAt w' base A' L xs := RowsIn.keep h (Apart.grew hg)
theorem RowsAt.next {w w' : World} {base : Nat} {A : Option Addr} {L : List (List UInt8)} {xs : List Value} (h : RowsAt w base A L xs) (hb : Below w.heap.size w w') : RowsAt w' base A L xs := RowsIn.keep h (Apart.next hb)
theorem RowsAt.snoc {w : World} {base : Nat} {A : Option Addr} {L : List (List UInt8)} {xs : List Value} (h : RowsAt w base A L xs) {l : List UInt8} {B : Option Addr} {n c : Nat} (hn : n = l.length) (hl : SlRep Rep.u8 w (Apart w base A) l B c) : RowsAt w base A (L ++ [l]) (xs ++ [.slice B n c]) := RowsIn.snoc h hn hl
theorem RowsAt.rep {w : World} {base : Nat} {e : TypeId} {A : Option Addr} {n c : Nat} {L : List (List UInt8)} {xs : List Value} (h : RowsAt w base A L xs) (ho : Own w base e 1 A n c xs) : n = L.length ∧ SlRep (Rep.slice Rep.u8) w (fun k => base ≤ k ∧ k < w.heap.size) L A c :=
  RowsIn.rep h (fun k hk => ⟨hk.1, hk.2.1⟩) ho

/-! Two rows that grow beside each other -/
theorem Own.kept' {w w' : World} {base : Nat} {e : TypeId} {size n c : Nat} {A B B' : Option Addr} {xs : List Value} (h : Own w base e size A n c xs) (hg : Grew w w' B B') (hne : ∀ k, blkOf A = some k → blkOf B ≠ some k) : Own w' base e size A n c xs :=
  h.kept hg.grown (by
    cases hA : blkOf A with
    | none => exact .inl rfl
    | some k => exact .inr (fun e => hne k hA e.symm))
/-- the row A lies in no block of B's -/
def Two (A B : Option Addr) : Prop := ∀ k, blkOf A = some k → blkOf B ≠ some k
theorem Two.left {w w' : World} {A A' B : Option Addr} (h : Two A B) (hg : Grew w w' A A') (hB : ∀ k, blkOf B = some k → k < w.heap.size) : Two A' B := fun k hk e => by
  rcases hg.blk with e' | ⟨g, hg', e'⟩
  · exact h k (e' ▸ hk) e
  · rw [e'] at hk
    cases hk
    have := hB _ e
    omega
theorem Two.symm {A B : Option Addr} (h : Two A B) : Two B A := fun k hk e => h k e hk
theorem Two.none_left (B : Option Addr) : Two none B := fun k hk => by cases hk
/-- the call's own blocks other than A's and B's -/
def Apart2 (w : World) (base : Nat) (A B : Option Addr) (k : Nat) : Prop := Apart w base A k ∧ blkOf B ≠ some k
theorem Apart2.second {w w' : World} {base : Nat} {A B B' : Option Addr} (hg : Grew w w' B B') : ∀ k, Apart2 w base A B k → Apart2 w' base A B' k ∧ w'.heap[k]? = w.heap[k]? := fun k hk =>
  have h := Apart.grew (base := base) hg k ⟨hk.1.1, hk.1.2.1, hk.2⟩
  ⟨⟨⟨hk.1.1, h.1.2.1, hk.1.2.2⟩, h.1.2.2⟩, h.2⟩
theorem Apart2.first {w w' : World} {base : Nat} {A A' B : Option Addr} (hg : Grew w w' A A') : ∀ k, Apart2 w base A B k → Apart2 w' base A' B k ∧ w'.heap[k]? = w.heap[k]? := fun k hk =>
  have h := Apart.grew (base := base) hg k hk.1
  ⟨⟨h.1, hk.2⟩, h.2⟩
theorem Apart2.next {w w' : World} {base : Nat} {A B : Option Addr} (hb : Below w.heap.size w w') : ∀ k, Apart2 w base A B k → Apart2 w' base A B k ∧ w'.heap[k]? = w.heap[k]? := fun k hk =>
  have h := Apart.next (base := base) hb k hk.1
  ⟨⟨h.1, hk.2⟩, h.2⟩
theorem SlRep.in_row {w : World} {S S' : Nat → Prop} {l : List UInt8} {A : Option Addr} {c : Nat} (h : SlRep Rep.u8 w S l A c) (hS : ∀ k, blkOf A = some k → S k → S' k) : SlRep Rep.u8 w S' l A c := by
  obtain ⟨h1, h2, h3⟩ := h
  refine ⟨h1, h2, h3.imp id fun ⟨b, o, e, hb, hr⟩ => ⟨b, o, e, hS b (by rw [e]; rfl) hb, fun i a hi => ?_⟩⟩
  obtain ⟨cs, hcs, hc⟩ := hr i a hi
  exact ⟨cs, hcs, hc⟩
theorem u8_cells {w : World} {S : Nat → Prop} {l : List UInt8} {A : Option Addr} {c : Nat} (h : SlRep Rep.u8 w S l A c) (hp : 0 < l.length) :
    ∃ b o, A = some ⟨b, o, none⟩ ∧ S b ∧ ∀ k, k < l.length → w.cell? ⟨b, o + k, none⟩ = some (.int .u8 ((l.getD k 0).toNat : Int)) := by
  obtain ⟨b, o, e, hb, _⟩ := u8_at (k := 0) h hp
  refine ⟨b, o, e, hb, fun k hk => ?_⟩
  obtain ⟨b', o', e', _, hc⟩ := u8_at (k := k) h hk
  rw [e] at e'
  simp only [Option.some.injEq, Addr.mk.injEq, and_true] at e'
  obtain ⟨rfl, rfl⟩ := e'
  exact hc
/-- the cell of the k-th list -/
theorem list_at {w : World} {S : Nat → Prop} {L : List (List UInt8)} {A : Option Addr} {c k : Nat} (h : SlRep (Rep.slice Rep.u8) w S L A c) (hk : k < L.length) :
    ∃ b o Ak ck, A = some ⟨b, o, none⟩ ∧ S b ∧ w.cell? ⟨b, o + k, none⟩ = some (.slice Ak (L.getD k []).length ck) ∧ SlRep Rep.u8 w S (L.getD k []) Ak ck := by
  rcases h.2.2 with rfl | ⟨b, o, rfl, hb, hr⟩
  · simp at hk
  · obtain ⟨cs, hcs, hc⟩ := hr k (L.getD k []) (by rw [List.getD_eq_getElem?_getD, List.getElem?_eq_getElem hk]; rfl)
    obtain ⟨Ak, ck, rfl, h2⟩ := rep_slice_iff.1 hcs
    have := hc 0 _ rfl
    exact ⟨b, o, Ak, ck, rfl, hb, by simpa [Rep.slice] using this, h2⟩
theorem bulk_u8 (l : List UInt8) : (Rep.slice Rep.u8).bulk l = l.length + 1 := by
  simp only [Rep.slice, Rep.u8]
  congr 1
  induction l with
  | nil => rfl
  | cons x r ih => simp [ih]; omega


end Go.Proofs.Ytdldfllllgogoaa
