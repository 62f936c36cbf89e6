/- An element is taken out of a row of the call's own: what slices.Delete's append and clear leave. No condition. -/
import Derived.Test.YtdldfllllgogoaaRowOf
import Derived.Lib.SliceRun
import Derived.Laws.IdiomCopy
namespace Go.Proofs.Ytdldfllllgogoaa
open Go.RowKit

/-- the cells vs laid over a list from place o on -/
def overl (l : List Value) : Nat → List Value → List Value
  | _, [] => l
  | o, v :: r => overl (l.set o v) (o + 1) r
theorem overl_len : ∀ (vs : List Value) (l : List Value) (o : Nat), (overl l o vs).length = l.length
  | [], _, _ => rfl
  | v :: r, l, o => by rw [overl, overl_len r, List.length_set]
theorem overl_get : ∀ (vs : List Value) (l : List Value) (o j : Nat), o + vs.length ≤ l.length → (overl l o vs)[j]? = if o ≤ j ∧ j < o + vs.length then vs[j - o]? else l[j]?
  | [], l, o, j, _ => by rw [overl, if_neg (fun h => by have h2 := h.2; rw [List.length_nil] at h2; omega)]
  | v :: r, l, o, j, h => by
    rw [List.length_cons] at h
    rw [overl, overl_get r (l.set o v) (o + 1) j (by rw [List.length_set]; omega), List.length_cons]
    by_cases h1 : o + 1 ≤ j ∧ j < o + 1 + r.length
    · rw [if_pos h1, if_pos (by omega), show j - o = (j - (o + 1)) + 1 by omega, List.getElem?_cons_succ]
    · rw [if_neg h1]
      by_cases h2 : j = o
      · subst h2
        rw [if_pos (by omega), Nat.sub_self, List.getElem?_set_self (by omega)]; rfl
      · rw [if_neg (by omega), List.getElem?_set_ne (by omega)]
theorem overl_take {vs l : List Value} {o m : Nat} (h : o + vs.length ≤ l.length) (hm : m ≤ o) : (overl l o vs).take m = l.take m := by
  apply List.ext_getElem?
  intro j
  rw [List.getElem?_take, List.getElem?_take]
  by_cases hj : j < m
  · rw [if_pos hj, if_pos hj, overl_get _ _ _ _ h, if_neg (by omega)]
  · rw [if_neg hj, if_neg hj]
theorem overl_take2 {vs l : List Value} {o : Nat} (h : o + vs.length ≤ l.length) : (overl l o vs).take (o + vs.length) = l.take o ++ vs := by
  apply List.ext_getElem?
  intro j
  rw [List.getElem?_take]
  by_cases hj : j < o + vs.length
  · rw [if_pos hj, overl_get _ _ _ _ h]
    by_cases h1 : o ≤ j
    · rw [if_pos ⟨h1, hj⟩, List.getElem?_append_right (by rw [List.length_take]; omega), List.length_take, Nat.min_eq_left (by omega)]
    · rw [if_neg (by omega), List.getElem?_append_left (by rw [List.length_take]; omega), List.getElem?_take, if_pos (by omega)]
  · rw [if_neg hj, List.getElem?_eq_none (by rw [List.length_append, List.length_take]; omega)]

theorem heap_setCells_same (g : Nat) (e : TypeId) : ∀ (vs : List Value) (o : Nat) (w : World) (cur : Array Value), w.heap[g]? = some (.cells cur e (0, 0)) → (w.setCells g o vs).heap[g]? = some (.cells (overl cur.toList o vs).toArray e (0, 0))
  | [], _, w, cur, h => by rw [World.setCells, overl, h]
  | v :: r, o, w, cur, h => by
    rw [World.setCells, heap_setCells_same g e r (o + 1) _ (cur.set! o v) (heap_setCell_same w g o _ _ _ h), overl]
    rw [Array.set!_eq_setIfInBounds, Array.toList_setIfInBounds]
theorem keep_setCells (g : Nat) : ∀ (vs : List Value) (o : Nat) (w : World), (w.setCells g o vs).heap.size = w.heap.size ∧ (w.setCells g o vs).os = w.os ∧ (w.setCells g o vs).tape = w.tape ∧ (w.setCells g o vs).output = w.output ∧ ∀ k, k ≠ g → (w.setCells g o vs).heap[k]? = w.heap[k]?
  | [], _, w => ⟨rfl, rfl, rfl, rfl, fun _ _ => rfl⟩
  | v :: r, o, w => by
    obtain ⟨h1, h2, h3, h4, h5⟩ := keep_setCells g r (o + 1) (w.setCell ⟨g, o, none⟩ v)
    refine ⟨h1.trans (by simp [World.setCell]), h2, h3, h4, fun k hk => (h5 k hk).trans (Below.heap_setCell w _ _ k hk)⟩

section
variable {w : World} {base g : Nat} {e : TypeId} {size n c : Nat} {xs : List Value}
/-- cells stored within and behind what is owned: m elements are owned then -/
theorem Own.over (h : Own w base e size (Option.some ⟨g, 0, none⟩) n c xs) {o : Nat} {vs : List Value} (hv : o + vs.length ≤ n * size) (m : Nat) (hm : m * size ≤ o + vs.length) (hmc : m ≤ c) : Own (w.setCells g o vs) base e size (Option.some ⟨g, 0, none⟩) m c ((xs.take o ++ vs).take (m * size)) := by
  have hl := h.len
  refine ⟨by rw [List.length_take, List.length_append, List.length_take]; omega, .inr ?_⟩
  rcases h.2 with ⟨h1, _⟩ | ⟨g', cap, cur, h1, h2, h3, h4, h5, h6, h7⟩
  · simp at h1
  · simp only [Value.slice.injEq, Option.some.injEq, Addr.mk.injEq, and_true] at h1
    obtain ⟨rfl, _, rfl⟩ := h1
    have hle : n * size ≤ cur.toList.length := by
      have h8 := congrArg List.length h7
      rw [List.length_take, hl] at h8
      omega
    refine ⟨g, c, (overl cur.toList o vs).toArray, rfl, h2, heap_setCells_same g e vs o w cur h3, hmc, h5, ?_, ?_⟩
    · have h8 := overl_len vs cur.toList o
      simp only [List.size_toArray]
      rw [h8]
      simpa using h6
    · show (overl cur.toList o vs).take (m * size) = _
      rw [← h7, List.take_take, Nat.min_eq_left (by omega), ← overl_take2 (by omega), List.take_take, Nat.min_eq_left (by omega)]
/-- cells stored behind what is owned -/
theorem Own.past (h : Own w base e size (Option.some ⟨g, 0, none⟩) n c xs) {o : Nat} {vs : List Value} (ho : n * size ≤ o) (hc : o + vs.length ≤ c * size) : Own (w.setCells g o vs) base e size (Option.some ⟨g, 0, none⟩) n c xs := by
  refine ⟨h.1, .inr ?_⟩
  rcases h.2 with ⟨h1, _⟩ | ⟨g', cap, cur, h1, h2, h3, h4, h5, h6, h7⟩
  · simp at h1
  · simp only [Value.slice.injEq, Option.some.injEq, Addr.mk.injEq, and_true] at h1
    obtain ⟨rfl, _, rfl⟩ := h1
    refine ⟨g, c, (overl cur.toList o vs).toArray, rfl, h2, heap_setCells_same g e vs o w cur h3, h4, h5, ?_, ?_⟩
    · have h8 := overl_len vs cur.toList o
      simp only [List.size_toArray]
      rw [h8]
      simpa using h6
    · show (overl cur.toList o vs).take (n * size) = _
      have hq : o + vs.length ≤ cur.toList.length := by have h9 : cur.toList.length = cur.size := Array.length_toList; rw [h9, h6]; exact hc
      rw [← h7, overl_take hq ho]
theorem Own.there (h : Own w base e size (Option.some ⟨g, 0, none⟩) n c xs) {j : Nat} (hj : j < n * size) : (w.cell? ⟨g, j, none⟩).isSome = true := by
  have hl := h.len
  obtain ⟨g', e1, _, _, hc⟩ := h.cell (j := j) (List.getElem?_eq_getElem (by omega))
  simp only [Option.some.injEq, Addr.mk.injEq, and_true] at e1
  rw [e1, hc]; rfl
end

/-- clear(s) at elements of many cells -/
theorem run_clear_many {P : Program} (w : World) (t e ty : TypeId) (z : Value) (zs : List Value) (ht : P.underlying t = some (.slice e)) (hv : ∀ w, (zeroValue e).run P w = .ok z w) (n : Nat) (hz : (Builtin.zeroCells z.cells n).toList = zs) (h1 : ∀ u ∈ zs, u.oneCell' = true) (b o c : Nat) (hn : 0 < n)
    (hc : ∀ j, j < zs.length → (w.cell? ⟨b, o + j, none⟩).isSome = true) (hf : ∀ j, j < zs.length → w.frozen? ⟨b, o + j, none⟩ = false) :
    (Builtin.clear_ #[t] ty #[.slice (some ⟨b, o, none⟩) n c]).run P w = .ok (.tuple #[]) (w.setCells b o zs) := by
  have hst := run_storeCells_cells (P := P) b o zs 0 w (by simpa using hc) (by simpa using hf) h1
  simp only [Nat.add_zero] at hst
  obtain ⟨m, rfl⟩ : ∃ m, n = m + 1 := ⟨n - 1, by omega⟩
  simp [Builtin.clear_, run_underlying ht, hv, hz, hst]
end Go.Proofs.Ytdldfllllgogoaa
