/- Rows of the call's own whose elements lead to rows of their own, element by element. No condition. -/
import Derived.Test.YtdldfllllgogoaaLists
namespace Go.Proofs.Ytdldfllllgogoaa
open Go.RowKit

/-- the cells xs read as the list L, through blocks of S -/
def RowsOf {α : Type} (R : Rep α) (w : World) (S : Nat → Prop) : List α → List Value → Prop
  | [], xs => xs = []
  | a :: L, xs => ∃ cs ys, xs = cs ++ ys ∧ R.rep w S a cs ∧ RowsOf R w S L ys
section
variable {α : Type} {R : Rep α} {w w' : World} {S S' : Nat → Prop}
theorem RowsOf.nil : RowsOf R w S [] [] := rfl
theorem RowsOf.keep : ∀ {L : List α} {xs : List Value}, RowsOf R w S L xs → (∀ k, S k → S' k ∧ w'.heap[k]? = w.heap[k]?) → RowsOf R w' S' L xs
  | [], _, h, _ => h
  | _ :: _, _, ⟨cs, ys, e, h1, h2⟩, hk => ⟨cs, ys, e, R.mono h1 hk, RowsOf.keep h2 hk⟩
theorem RowsOf.len : ∀ {L : List α} {xs : List Value}, RowsOf R w S L xs → xs.length = L.length * R.size
  | [], xs, h => by rw [show xs = [] from h]; simp
  | a :: L, xs, ⟨cs, ys, e, h1, h2⟩ => by rw [e, List.length_append, R.len h1, RowsOf.len h2, List.length_cons, Nat.succ_mul]; omega
theorem RowsOf.snoc {a : α} {cs : List Value} (ha : R.rep w S a cs) : ∀ {L : List α} {xs : List Value}, RowsOf R w S L xs → RowsOf R w S (L ++ [a]) (xs ++ cs)
  | [], xs, h => ⟨cs, [], by rw [show xs = [] from h]; simp, ha, rfl⟩
  | _ :: _, _, ⟨cs', ys, e, h1, h2⟩ => ⟨cs', ys ++ cs, by rw [e, List.append_assoc], h1, RowsOf.snoc ha h2⟩
theorem RowsOf.at : ∀ {L : List α} {xs : List Value} {i : Nat} {a : α}, RowsOf R w S L xs → L[i]? = some a → ∃ cs, R.rep w S a cs ∧ ∀ j u, cs[j]? = some u → xs[i * R.size + j]? = some u
  | [], _, i, a, _, hi => by simp at hi
  | x :: L, _, 0, a, ⟨cs, ys, e, h1, _⟩, hi => by
    simp at hi
    subst hi
    refine ⟨cs, h1, fun j u hu => ?_⟩
    rw [e, Nat.zero_mul, Nat.zero_add, List.getElem?_append_left (List.getElem?_eq_some_iff.1 hu).1]
    exact hu
  | x :: L, _, i + 1, a, ⟨cs, ys, e, h1, h2⟩, hi => by
    obtain ⟨cs', h3, h4⟩ := RowsOf.at h2 (by simpa using hi)
    refine ⟨cs', h3, fun j u hu => ?_⟩
    have hl := R.len h1
    rw [e, List.getElem?_append_right (by rw [hl, Nat.succ_mul]; omega), hl, show (i + 1) * R.size + j - R.size = i * R.size + j by rw [Nat.succ_mul]; omega]
    exact h4 j u hu
theorem RowsOf.rep {base e size n c : Nat} {A : Option Addr} {L : List α} {xs : List Value} (h : RowsOf R w S L xs) (hsz : R.size = size) (hpos : 0 < size) (hS : ∀ k, S k → S' k) (ho : Own w base e size A n c xs) (hA : ∀ k, blkOf A = some k → S' k) : n = L.length ∧ SlRep R w S' L A c := by
  subst hsz
  have hn : n = L.length := by
    have h1 := ho.len
    rw [h.len] at h1
    exact (Nat.eq_of_mul_eq_mul_right hpos h1).symm
  refine ⟨hn, ⟨by have := ho.cap; omega, ho.cap.2, ?_⟩⟩
  cases L with
  | nil => exact .inl rfl
  | cons y r =>
    obtain ⟨cs0, h0, h0'⟩ := h.at (i := 0) (a := y) rfl
    have h0l : 0 < cs0.length := by rw [R.len h0]; exact hpos
    obtain ⟨g, rfl, h1, h2, _⟩ := ho.cell (h0' 0 _ (List.getElem?_eq_getElem h0l))
    refine .inr ⟨g, 0, rfl, hA g rfl, fun i z hz => ?_⟩
    obtain ⟨cs, h3, h4⟩ := h.at hz
    refine ⟨cs, R.mono h3 fun k hk => ⟨hS k hk, rfl⟩, fun j u hu => ?_⟩
    obtain ⟨g', e1, _, _, hc⟩ := ho.cell (h4 j u hu)
    simp only [Option.some.injEq, Addr.mk.injEq, and_true] at e1
    subst e1
    rw [Nat.zero_add]
    exact hc
theorem Own.setAt {base e size g n c : Nat} {xs : List Value} (h : Own w base e size (some ⟨g, 0, none⟩) n c xs) {j : Nat} (v : Value) : Own (w.setCell ⟨g, j, none⟩ v) base e size (some ⟨g, 0, none⟩) n c (xs.set j v) := by
  obtain ⟨h1, h2⟩ := h
  refine ⟨by rw [List.length_set]; exact h1, .inr ?_⟩
  rcases h2 with ⟨h3, _⟩ | ⟨g', cap, cur, h3, h4, h5, h6, h7, h8, h9⟩
  · simp at h3
  · simp only [Value.slice.injEq, Option.some.injEq, Addr.mk.injEq, and_true] at h3
    obtain ⟨rfl, _, rfl⟩ := h3
    refine ⟨g, c, cur.set! j v, rfl, h4, heap_setCell_same w g j _ _ _ h5, h6, h7, by simpa using h8, ?_⟩
    rw [← h9]
    simp only [Array.set!_eq_setIfInBounds, Array.toList_setIfInBounds, List.take_set]
theorem Own.frozenAt {base e size n c g : Nat} {xs : List Value} (h : Own w base e size (some ⟨g, 0, none⟩) n c xs) (j : Nat) : w.frozen? ⟨g, j, none⟩ = false := by
  rcases h.2 with ⟨h1, _⟩ | ⟨g', cap, cur, h1, _, h3, _⟩
  · simp at h1
  · simp only [Value.slice.injEq, Option.some.injEq, Addr.mk.injEq, and_true] at h1
    obtain ⟨rfl, _⟩ := h1
    simp [World.frozen?, h3]
theorem Own.some {base e size n c : Nat} {A : Option Addr} {xs : List Value} (h : Own w base e size A n c xs) (hp : 0 < xs.length) : ∃ g, A = some ⟨g, 0, none⟩ ∧ base ≤ g ∧ g < w.heap.size := by
  obtain ⟨g, e1, h1, h2, _⟩ := h.cell (List.getElem?_eq_getElem hp)
  exact ⟨g, e1, h1, h2⟩
end
end Go.Proofs.Ytdldfllllgogoaa
